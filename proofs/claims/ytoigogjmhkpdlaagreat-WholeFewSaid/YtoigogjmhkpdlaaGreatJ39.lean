/- A part of the proof of WholeFew: the texts NodeK, NodeL, NodeM, SeenA, KeepA, KeepB, KeepC, ToldA. -/
import Derived.Test.YtoigogjmhkpdlaaGreatJ23
import Derived.Test.YtoigogjmhkpdlaaGreatJ25
import Derived.Test.YtoigogjmhkpdlaaGreatJ37
import Derived.Test.YtoigogjmhkpdlaaGreatJ38
set_option maxHeartbeats 3200000
set_option maxRecDepth 100000
namespace Go.Proofs.YtoigogjmhkpdlaaGreat
open Go.RowKit
theorem logB_le {rs : List Rc} (h : LogOk rs) : (logB rs).length ≤ 556 * rs.length := by
  induction h with
  | nil => simp [logB]
  | snoc h h1 ih =>
    rw [logB_snoc, List.length_append, frameN_length, List.length_append]
    have := (ok1_len h1).1
    simp only [List.length_cons, List.length_nil]
    omega
theorem OwnT.one {α : Type} (mk : α → List Value) (e : TypeId) (sz : Nat) (w : World) (base g : Nat) (x : α) (hmk : ∀ x, (mk x).length = sz) (hb : base ≤ g) (hg : w.heap[g]? = some (.cells (mk x).toArray e)) : OwnT mk e sz w base (some ⟨g, 0, none⟩) 1 [x] := by
  refine ⟨by simp [hmk], .inr ⟨g, 1, (mk x).toArray, rfl, hb, hg, Nat.le_refl _, by unfold maxLen; omega, by simp [hmk], ?_⟩⟩
  show List.take (1 * sz) (mk x) = _
  rw [List.take_of_length_le (by rw [hmk]; omega)]
  simp
theorem Step.below {S S' : Nat → Prop} {W w1 W' : World} (h : Step S W w1 S') (hb : Below w1.heap.size w1 W') : Step S W W' S' := ⟨h.t.trans (Turned.of_below hb), h.sub, h.lt.wide hb.size⟩
theorem chosen_model (q : Nat) : ∀ es : List Ent, chosenN q es = Mdl.chosenK q (es.map (·.acks))
  | [] => rfl
  | e :: t => by
    rw [chosenN, List.map_cons, Mdl.chosenK, chosen_model q t]
    by_cases h : e.acks.length < q
    · rw [if_pos h, if_pos (by rw [Nat.blt_eq]; exact h)]
    · rw [if_neg h, if_neg (by rw [Nat.blt_eq]; exact h)]
def cmdAt (x : Cm) : Nat → Cm
  | 0 => x
  | _ => { x with seq := x.seq + 1 }
def treeR (x : Cm) : Nat → World → (Nat → Prop) → Nat → Prop
  | 0 => TreeE
  | 1 => TreeK x
  | _ => TreeU
theorem treeR_framed (x : Cm) : ∀ j, Framed (treeR x j)
  | 0 => TreeE.framed
  | 1 => TreeK.framed x
  | _ + 2 => TreeU.framed
def clR (x : Cm) : Nat → List (Value × Value) → Prop
  | 0, cl => cl = []
  | 1, cl => ∃ r, cl = [(.int .i64 x.client, lastv x.seq r)]
  | _, _ => True
structure LdOk (s : Shp) (x : Cm) (l : LdM) (lm : Mdl.Lm) : Prop where
  b : l.b = lm.b
  ps : l.ps = lm.ps
  es : l.es.map (·.acks) = lm.es
  leads : l.leads = lm.leads
  b1 : 1 ≤ l.b
  b2 : l.b ≤ 2147483647
  ok : ∀ e ∈ l.es, EntOk s.n l.b e ∧ e.acks.length ≤ 7
  org : ∀ e ∈ l.es, e.origin = l.b
  val : ∀ j e, l.es[j]? = some e → e.value = strN (cmdN (cmdAt x j))
  len : l.es.length ≤ 2
def LdR (s : Shp) (x : Cm) : Option LdM → Option Mdl.Lm → Prop
  | none, none => True
  | some l, some lm => LdOk s x l lm
  | _, _ => False
def NdAt (W : World) (S : Nat → Prop) (N : Nat) (s : Shp) (me m : Nat) (x : Cm) (nd : Mdl.Nm) : Prop :=
  ∃ D rs ld cl dn, NodeAt (treeR x nd.app) W S N s me D m rs ld nd.app cl (nd.waits.map fun j => waitv j (cmdAt x j)) dn ∧ LogOk rs ∧ nd.prom = (say rs).1 ∧ nd.vs = (say rs).2.map (·.slot) ∧ (nd.nrec = rs.length ∧ nd.nrec ≤ 8) ∧ LdR s x ld nd.ld ∧ clR x nd.app cl
theorem NdAt.frame {W W' : World} {S : Nat → Prop} {N : Nat} {s : Shp} {me m : Nat} {x : Cm} {nd : Mdl.Nm} (h : NdAt W S N s me m x nd) (hz : W.heap.size ≤ W'.heap.size) (hb : ∀ k, S k → W'.heap[k]? = W.heap[k]?) : NdAt W' S N s me m x nd := by
  obtain ⟨D, rs, ld, cl, dn, hN, h⟩ := h
  exact ⟨D, rs, ld, cl, dn, hN.frame (treeR_framed x _) hz hb, h⟩
def AnsR (x : Cm) (al : List Ans) (ans : List Nat) : Prop := al.map (fun a => (a.slot, a.seq, a.r.e)) = ans.map (fun (j : Nat) => ((j : Int), (cmdAt x j).seq, (0 : Int)))
def HearPost (W : World) (S : Nat → Prop) (N : Nat) (s : Shp) (me m : Nat) (x : Cm) (nd' : Mdl.Nm) (ans : List Nat) (out : List Am) (e : Ending) (W' : World) : Prop :=
  ∃ (al : List Ans) (B : Option Addr) (bc : Nat) (L : List Mg) (A : Option Addr) (c : Nat) (S' : Nat → Prop), e = .returned (.tuple #[.slice B al.length bc, .slice A L.length c]) ∧ al.length ≤ 1 ∧ (al = [] → B = none ∧ bc = 0) ∧ OwnT acells 45 7 W' W.heap.size B bc al ∧ OwnT mcells 133 11 W' W.heap.size A c L ∧
    AnsR x al ans ∧ L.map absM = out ∧ (∀ m ∈ L, MgOk m) ∧ NdAt W' S' N s me m x nd' ∧ Step S W W' S'
theorem ndhear_1 (s : Shp) (x : Cm) (me : Nat) (m : Nat) (hm : 5000 ≤ m) (nd nd' : Mdl.Nm) (a : Mg) (ha : MgOk a) (hk : a.kind = 1) (hto : a.to = me) (ans : List Nat) (out : List Am) (hh : Mdl.hearK s.n s.q me nd (absM a) = some (nd', ans, out)) (W : World) (S : Nat → Prop) (N : Nat) (h : NdAt W S N s me m x nd) :
    Calls Tryz.prog 68 #[.pointer (some ⟨N, 0, none⟩), mgv a] W fun e W' => HearPost W S N s me m x nd' ans out e W' := by
  obtain ⟨D, rs, ld, cl, dn, hN, hlog, hprom, hvs, hrec, hld, hcl⟩ := h
  have hfit := logB_le hlog
  have hok : MgOk ⟨2, a.to, a.frm, a.ballot, 0, vt0⟩ := ⟨ha.t, ha.f, ha.b1, ha.b2, .inr (.inl ⟨rfl, rfl, rfl⟩)⟩
  simp only [Mdl.hearK, absM, hk] at hh
  split at hh
  · rename_i hv
    have hvs0 : (say rs).2 = [] := by
      have h0 : nd.vs = [] := List.isEmpty_iff.1 hv
      rw [hvs] at h0; exact List.map_eq_nil_iff.1 h0
    split at hh
    · rename_i hlt
      rw [Nat.blt_eq] at hlt
      split at hh
      · rename_i hc
        rw [Bool.and_eq_true, Nat.blt_eq] at hc
        injection hh with hh
        injection hh with h1 h2
        injection h2 with h2 h3
        subst h1; subst h2; subst h3
        have hn0 : nd.ld = none := Option.isNone_iff_eq_none.1 hc.1
        rw [hn0] at hld
        cases ld with
        | some l => exact hld.elim
        | none =>
          refine (nhear_acc (treeR x nd.app) (treeR_framed x _) S N s me D m rs (rs ++ [Rc.p a.ballot]) none nd.app cl _ dn a ⟨2, a.to, a.frm, a.ballot, 0, vt0⟩ (.inl hk) hto (fun S G w hl hS => ahear_prepare S G D m rs (rs ++ [Rc.p a.ballot]) a ha hk w hl hS (fun w hl hS => aprepare_new S G D m rs a.ballot ha.b1 ha.b2 (by omega) hvs0 (by have := hc.2; omega) a.to a.frm w hl hS)) (fun l hl => by cases hl) W hN).mono ?_
          rintro e W' ⟨S', g, rfl, hg, hge, hng, hN', hst⟩
          refine ⟨[], none, 0, [⟨2, a.to, a.frm, a.ballot, 0, vt0⟩], some ⟨g, 0, none⟩, 1, S', rfl, Nat.zero_le _, (fun _ => ⟨rfl, rfl⟩), OwnT.nil _ _ _ _ _, OwnT.one _ _ _ _ _ _ _ mcells_len hge hg, rfl, ?_, ?_, ⟨D, _, none, cl, dn, hN', hlog.snoc ⟨ha.b1, ha.b2⟩, ?_, ?_, ?_, ?_, hcl⟩, hst⟩
          · simp [absM, vt0, hto]
          · intro m hm
            rw [List.mem_singleton.1 hm]; exact hok
          · rw [say_snoc]; show a.ballot = max _ _; omega
          · rw [say_snoc]; exact hvs
          · exact ⟨by simp [hrec.1], show nd.nrec + 1 ≤ 8 by have := hc.2; omega⟩
          · show LdR s x none nd.ld
            rw [hn0]; trivial
      · cases hh
    · have tail : nd.prom = a.ballot → (∀ lm, nd.ld = some lm → nd.prom ≤ lm.b) → nd = nd' → [] = ans → [(⟨2, me, a.frm, a.ballot, 0, 0, 0, 0⟩ : Am)] = out → Calls Tryz.prog 68 #[.pointer (some ⟨N, 0, none⟩), mgv a] W fun e W' => HearPost W S N s me m x nd' ans out e W' := fun hpe hlb h1 h2 h3 => by
        subst h1; subst h2; subst h3
        refine (nhear_acc (treeR x nd.app) (treeR_framed x _) S N s me D m rs rs ld nd.app cl _ dn a ⟨2, a.to, a.frm, a.ballot, 0, vt0⟩ (.inl hk) hto (fun S G w hl hS => ahear_prepare S G D m rs rs a ha hk w hl hS (fun w hl hS => aprepare_same S G D m rs a.ballot (by omega) hvs0 a.to a.frm w hl hS)) (fun l hl => ?_) W hN).mono ?_
        · cases hn : nd.ld with
          | none => rw [hl, hn] at hld; exact hld.elim
          | some lm =>
            rw [hl, hn] at hld
            have h1 := hlb lm hn
            have h2 := hld.b
            omega
        rintro e W' ⟨S', g, rfl, hg, hge, hng, hN', hst⟩
        refine ⟨[], none, 0, [⟨2, a.to, a.frm, a.ballot, 0, vt0⟩], some ⟨g, 0, none⟩, 1, S', rfl, Nat.zero_le _, (fun _ => ⟨rfl, rfl⟩), OwnT.nil _ _ _ _ _, OwnT.one _ _ _ _ _ _ _ mcells_len hge hg, rfl, ?_, ?_, ⟨D, _, ld, cl, dn, hN', hlog, hprom, hvs, hrec, hld, hcl⟩, hst⟩
        · simp [absM, vt0, hto]
        · intro m hm
          rw [List.mem_singleton.1 hm]; exact hok
      cases hn : nd.ld with
      | none =>
        rw [hn] at hh
        simp only [Bool.and_true] at hh
        split at hh
        · rename_i hc
          injection hh with hh
          injection hh with h1 h2
          injection h2 with h2 h3
          exact tail (Nat.eq_of_beq_eq_true hc) (fun lm h => by rw [hn] at h; cases h) h1 h2 h3
        · cases hh
      | some lm =>
        rw [hn] at hh
        simp only [] at hh
        split at hh
        · rename_i hc
          rw [Bool.and_eq_true] at hc
          injection hh with hh
          injection hh with h1 h2
          injection h2 with h2 h3
          exact tail (Nat.eq_of_beq_eq_true hc.1) (fun lm2 h => by rw [hn] at h; injection h with h; subst h; exact Nat.le_of_ble_eq_true hc.2) h1 h2 h3
        · cases hh
  · cases hh
theorem ndhear_3 (s : Shp) (x : Cm) (me : Nat) (m : Nat) (hm : 5000 ≤ m) (nd nd' : Mdl.Nm) (a : Mg) (ha : MgOk a) (hk : a.kind = 3) (hto : a.to = me) (hvr : VRight a.vote) (hvb : a.vote.ballot = a.ballot) (ans : List Nat) (out : List Am) (hh : Mdl.hearK s.n s.q me nd (absM a) = some (nd', ans, out)) (W : World) (S : Nat → Prop) (N : Nat) (h : NdAt W S N s me m x nd) :
    Calls Tryz.prog 68 #[.pointer (some ⟨N, 0, none⟩), mgv a] W fun e W' => HearPost W S N s me m x nd' ans out e W' := by
  obtain ⟨D, rs, ld, cl, dn, hN, hlog, hprom, hvs, hrec, hld, hcl⟩ := h
  have hfit := logB_le hlog
  have hok : MgOk ⟨4, a.to, a.frm, a.vote.ballot, a.vote.slot, vt0⟩ := ⟨ha.t, ha.f, hvr.b1, hvr.b2, .inr (.inr (.inr ⟨rfl, hvr.s, rfl⟩))⟩
  simp only [Mdl.hearK, absM, hk] at hh
  have tail : nd.prom ≤ a.ballot → (nd.vs.all fun v => Nat.blt v a.vote.slot) = true → (∀ lm, nd.ld = some lm → a.ballot ≤ lm.b) → nd.nrec < 8 → { nd with prom := a.ballot, vs := nd.vs ++ [a.vote.slot], nrec := nd.nrec + 1 } = nd' → [] = ans → [(⟨4, me, a.frm, a.ballot, a.vote.slot, 0, 0, 0⟩ : Am)] = out → Calls Tryz.prog 68 #[.pointer (some ⟨N, 0, none⟩), mgv a] W fun e W' => HearPost W S N s me m x nd' ans out e W' := fun hp c2 c3 c4 h1 h2 h3 => by
    have hsl : ∀ u ∈ (say rs).2, u.slot < a.vote.slot := fun u hu => by
      have := List.all_eq_true.1 c2 u.slot (by rw [hvs]; exact List.mem_map_of_mem hu)
      rwa [Nat.blt_eq] at this
    have hk1 : ok1 (say rs) (.v a.vote) := ⟨hvr, by omega, hsl⟩
    subst h1; subst h2; subst h3
    refine (nhear_acc (treeR x nd.app) (treeR_framed x _) S N s me D m rs (rs ++ [Rc.v a.vote]) ld nd.app cl _ dn a ⟨4, a.to, a.frm, a.vote.ballot, a.vote.slot, vt0⟩ (.inr hk) hto (fun S G w hl hS => ahear_vote S G D m rs (rs ++ [Rc.v a.vote]) a ha hk w hl hS (fun w hl hS => avote_any S G D m rs a.vote hk1 (by omega) a.to a.frm w hl hS)) (fun l hl => ?_) W hN).mono ?_
    · rw [say_snoc]
      show a.vote.ballot ≤ l.b
      cases hn : nd.ld with
      | none => rw [hl, hn] at hld; exact hld.elim
      | some lm =>
        rw [hl, hn] at hld
        have h1 := c3 lm hn
        have h2 := hld.b
        omega
    rintro e W' ⟨S', g, rfl, hg, hge, hng, hN', hst⟩
    refine ⟨[], none, 0, [⟨4, a.to, a.frm, a.vote.ballot, a.vote.slot, vt0⟩], some ⟨g, 0, none⟩, 1, S', rfl, Nat.zero_le _, (fun _ => ⟨rfl, rfl⟩), OwnT.nil _ _ _ _ _, OwnT.one _ _ _ _ _ _ _ mcells_len hge hg, rfl, ?_, ?_, ⟨D, _, ld, cl, dn, hN', hlog.snoc hk1, ?_, ?_, ?_, hld, hcl⟩, hst⟩
    · simp [absM, vt0, hto, hvb]
    · intro m hm
      rw [List.mem_singleton.1 hm]; exact hok
    · rw [say_snoc]; show a.ballot = a.vote.ballot; omega
    · rw [say_snoc]
      show nd.vs ++ [a.vote.slot] = List.map _ ((say rs).2 ++ [a.vote])
      rw [List.map_append, hvs]; rfl
    · exact ⟨by simp [hrec.1], show nd.nrec + 1 ≤ 8 by omega⟩
  cases hn : nd.ld with
  | none =>
    rw [hn] at hh
    simp only [Bool.and_true] at hh
    split at hh
    · rename_i hc
      rw [Bool.and_eq_true, Bool.and_eq_true, Nat.blt_eq] at hc
      injection hh with hh
      injection hh with h1 h2
      injection h2 with h2 h3
      rw [← hn] at h1
      exact tail (Nat.le_of_ble_eq_true hc.1.1) hc.1.2 (fun lm h => by rw [hn] at h; cases h) hc.2 h1 h2 h3
    · cases hh
  | some lm =>
    rw [hn] at hh
    simp only [] at hh
    split at hh
    · rename_i hc
      rw [Bool.and_eq_true, Bool.and_eq_true, Bool.and_eq_true, Nat.blt_eq] at hc
      injection hh with hh
      injection hh with h1 h2
      injection h2 with h2 h3
      rw [← hn] at h1
      exact tail (Nat.le_of_ble_eq_true hc.1.1.1) hc.1.1.2 (fun lm2 h => by rw [hn] at h; injection h with h; subst h; exact Nat.le_of_ble_eq_true hc.1.2) hc.2 h1 h2 h3
    · cases hh
theorem NdAt.below {W W' : World} {S : Nat → Prop} {N : Nat} {s : Shp} {me m : Nat} {x : Cm} {nd : Mdl.Nm} (h : NdAt W S N s me m x nd) (hS : Lt S W) (hb : Below W.heap.size W W') : NdAt W' S N s me m x nd := h.frame hb.size fun k hk => hb.block k (hS k hk)
theorem ndhear_2 (s : Shp) (hs : s.Ok) (x : Cm) (me : Nat) (hme : me < s.n) (m : Nat) (nd nd' : Mdl.Nm) (a : Mg) (ha : MgOk a) (hk : a.kind = 2) (hsl : a.slot = 0) (hvt : a.vote = vt0) (hto : a.to = me) (ans : List Nat) (out : List Am) (hh : Mdl.hearK s.n s.q me nd (absM a) = some (nd', ans, out)) (W : World) (S : Nat → Prop) (N : Nat) (h : NdAt W S N s me m x nd) :
    Calls Tryz.prog 68 #[.pointer (some ⟨N, 0, none⟩), mgv a] W fun e W' => HearPost W S N s me m x nd' ans out e W' := by
  obtain ⟨D, rs, ld, cl, dn, hN, hlog, hprom, hvs, hrec, hld, hcl⟩ := h
  simp only [Mdl.hearK, absM, hk] at hh
  cases hn : nd.ld with
  | none => rw [hn] at hh; cases hh
  | some lm =>
    rw [hn] at hh hld
    simp only [] at hh
    cases ld with
    | none => exact hld.elim
    | some l =>
      split at hh
      · rename_i hc
        rw [Bool.and_eq_true, Bool.and_eq_true, Bool.and_eq_true, Nat.blt_eq] at hc
        obtain ⟨⟨⟨c1, c2⟩, c3⟩, c4⟩ := hc
        have hbe : a.ballot = l.b := (Nat.eq_of_beq_eq_true c1).trans hld.b.symm
        have c2' : a.frm < s.n := c2
        have hf : a.frm ∉ l.ps := fun hi => by
          rw [hld.ps] at hi
          simp [hi] at c3
        have hpsn : ∀ g ∈ l.ps, g < s.n := fun g hg => by
          have := List.all_eq_true.1 c4 g (by rw [← hld.ps]; exact hg)
          rwa [Nat.blt_eq] at this
        have hae : a = promMsg a.frm me l.b := by
          obtain ⟨k, f, t, b, sl, v⟩ := a
          simp only at hk hto hsl hvt hbe
          subst hk; subst hto; subst hsl; subst hvt; subst hbe; rfl
        have hes7 : ∀ e ∈ l.es, e.acks.length ≤ 7 := fun e he => (hld.ok e he).2
        have hlen := hld.len
        split at hh
        · rename_i hle
          split at hh
          · rename_i hch
            have hch := Nat.le_of_ble_eq_true hch
            injection hh with hh
            injection hh with h1 h2
            injection h2 with h2 h3
            subst h1; subst h2; subst h3
            have hle2 : l.leads = true := hld.leads.trans hle
            refine (nhear_ld (treeR x nd.app) (treeR_framed x _) S N s me D m rs l l nd.app cl _ dn a (.inl hk)
              (fun S P w hl hS => ldhear_prom S P s me l.b l.ps l.es l.leads w hl a ha hk hto (fun w' => LdAt w' S P s me l.b l.ps l.es l.leads ∧ Turned S w w') (fun w1 hb => ?_))
              (fun S w v w' => v = .slice none 0 0 ∧ Below w.heap.size w w')
              (fun S w hl hS => (napply_none _ (treeR_framed x _) S N s hs me D m rs (some l) nd.app cl _ dn (fun l2 h2 _ => by injection h2 with h2; subst h2; exact ⟨by rw [chosen_model, hld.es]; exact hch, by omega, hes7⟩) w hl).mono fun e w' hp => ⟨_, hp.1, rfl, hp.2⟩) W hN).mono ?_
            · have hl1 := hl.frame fun k hk => hb.block k (hS k hk)
              rw [hle2] at hl1
              rw [hae]
              refine (ldpromised_late S P s me l.b a.frm l.ps l.es hf w1 hl1).mono ?_
              rintro e w2 ⟨rfl, hb2⟩
              refine ⟨rfl, ?_, (Turned.of_below hb).trans (Turned.of_below hb2)⟩
              rw [hle2]
              exact hl1.frame fun k hk => hb2.block k (Nat.lt_of_lt_of_le (hS k hk) hb.size)
            · rintro e W' ⟨S1, w1, v, rfl, hN1, hst, rfl, hb1⟩
              refine ⟨[], none, 0, [], none, 0, S1, rfl, Nat.zero_le _, (fun _ => ⟨rfl, rfl⟩), OwnT.nil _ _ _ _ _, OwnT.nil _ _ _ _ _, rfl, rfl, (fun m hm => by cases hm), ⟨D, rs, some l, cl, dn, ?_, hlog, hprom, hvs, hrec, ?_, hcl⟩, hst.below hb1⟩
              · exact hN1.frame (treeR_framed x _) hb1.size fun k hk => hb1.block k (hst.lt k hk)
              · rw [hn]; exact hld
          · cases hh
        · rename_i hle
          split at hh
          · rename_i hem
            injection hh with hh
            injection hh with h1 h2
            injection h2 with h2 h3
            subst h1; subst h2; subst h3
            have hle2 : l.leads = false := by rw [hld.leads]; simpa using hle
            have hes0 : l.es = [] := by
              have h0 : lm.es = [] := List.isEmpty_iff.1 hem
              rw [← hld.es] at h0; exact List.map_eq_nil_iff.1 h0
            refine (nhear_ld (treeR x nd.app) (treeR_framed x _) S N s me D m rs l ⟨l.b, l.ps ++ [a.frm], [], decide (s.q ≤ l.ps.length + 1)⟩ nd.app cl _ dn a (.inl hk)
              (fun S P w hl hS => ldhear_prom S P s me l.b l.ps l.es l.leads w hl a ha hk hto (fun w' => LdAt w' S P s me l.b (l.ps ++ [a.frm]) [] (decide (s.q ≤ l.ps.length + 1)) ∧ Turned S w w') (fun w1 hb => ?_))
              (fun S w v w' => v = .slice none 0 0 ∧ Below w.heap.size w w')
              (fun S w hl hS => (napply_none _ (treeR_framed x _) S N s hs me D m rs (some _) nd.app cl _ dn (fun l2 h2 _ => by injection h2 with h2; subst h2; exact ⟨Nat.zero_le _, Nat.zero_le _, fun e he => by cases he⟩) w hl).mono fun e w' hp => ⟨_, hp.1, rfl, hp.2⟩) W hN).mono ?_
            · have hl1 := hl.frame fun k hk => hb.block k (hS k hk)
              rw [hle2, hes0] at hl1
              rw [hae]
              refine (ldpromised_any S P s hs me l.b a.frm l.ps hf c2' hpsn w1 hl1 (hS.wide hb.size)).mono ?_
              rintro e w2 ⟨rfl, hl2, ht2⟩
              exact ⟨rfl, hl2, (Turned.of_below hb).trans ht2⟩
            · rintro e W' ⟨S1, w1, v, rfl, hN1, hst, rfl, hb1⟩
              refine ⟨[], none, 0, [], none, 0, S1, rfl, Nat.zero_le _, (fun _ => ⟨rfl, rfl⟩), OwnT.nil _ _ _ _ _, OwnT.nil _ _ _ _ _, rfl, rfl, (fun m hm => by cases hm), ⟨D, rs, some _, cl, dn, hN1.frame (treeR_framed x _) hb1.size fun k hk => hb1.block k (hst.lt k hk), hlog, hprom, hvs, hrec, ?_, hcl⟩, hst.below hb1⟩
              refine ⟨hld.b, ?_, ?_, ?_, hld.b1, hld.b2, (fun e he => by cases he), (fun e he => by cases he), (fun j e he => by simp at he), Nat.zero_le _⟩
              · show l.ps ++ [a.frm] = lm.ps ++ [a.frm]
                rw [hld.ps]
              · show [] = lm.es
                exact (List.isEmpty_iff.1 hem).symm
              · show decide (s.q ≤ l.ps.length + 1) = Nat.ble s.q (lm.ps.length + 1)
                rw [hld.ps, Bool.eq_iff_iff, decide_eq_true_eq, Nat.ble_eq]
          · cases hh
      · cases hh
theorem ackAdd_model (a : List Nat) (f : Nat) : ackAdd a f = if a.contains f then a else a ++ [f] := by
  unfold ackAdd
  by_cases h : f ∈ a
  · rw [if_pos h, if_pos (by simpa using h)]
  · rw [if_neg h, if_neg (by simpa using h)]
theorem ackAdd_len (a : List Nat) (f : Nat) : (ackAdd a f).length ≤ a.length + 1 := by
  unfold ackAdd
  split <;> simp
theorem ndhear_4 (s : Shp) (hs : s.Ok) (x : Cm) (hx : ∀ j, rightC (cmdAt x j) = true) (me : Nat) (m : Nat) (nd nd' : Mdl.Nm) (a : Mg) (ha : MgOk a) (hk : a.kind = 4) (hto : a.to = me) (ans : List Nat) (out : List Am) (hh : Mdl.hearK s.n s.q me nd (absM a) = some (nd', ans, out)) (W : World) (S : Nat → Prop) (N : Nat) (h : NdAt W S N s me m x nd) :
    Calls Tryz.prog 68 #[.pointer (some ⟨N, 0, none⟩), mgv a] W fun e W' => HearPost W S N s me m x nd' ans out e W' := by
  obtain ⟨D, rs, ld, cl, dn, hN, hlog, hprom, hvs, hrec, hld, hcl⟩ := h
  obtain ⟨up, prom, vs, nrec, ldm, app, waits⟩ := nd
  simp only [] at hN hprom hvs hrec hld hcl
  simp only [Mdl.hearK, absM, hk] at hh
  cases ldm with
  | none => cases hh
  | some lm =>
    simp only [] at hh
    cases ld with
    | none => exact hld.elim
    | some l =>
      cases hes : lm.es[a.slot]? with
      | none => rw [hes] at hh; cases hh
      | some ak =>
        rw [hes] at hh
        simp only [] at hh
        split at hh
        · rename_i hc
          rw [Bool.and_eq_true, Bool.and_eq_true, Bool.and_eq_true, Nat.blt_eq] at hc
          obtain ⟨⟨⟨c1, c2⟩, c3'⟩, c4⟩ := hc
          have c3 : a.frm < s.n := c3'
          have hle : l.leads = true := hld.leads.trans c1
          have hbe : a.ballot = l.b := (Nat.eq_of_beq_eq_true c2).trans hld.b.symm
          have hak := Nat.le_of_ble_eq_true c4
          obtain ⟨e0, he0, hea⟩ : ∃ e0, l.es[a.slot]? = some e0 ∧ e0.acks = ak := by
            have h0 := hes
            rw [← hld.es, List.getElem?_map, Option.map_eq_some_iff] at h0
            exact h0
          have he0m : e0 ∈ l.es := List.mem_of_getElem? he0
          obtain ⟨hsl, _⟩ := List.getElem?_eq_some_iff.1 he0
          obtain ⟨lb, lps, les, lleads⟩ := l
          simp only at hle hbe he0 he0m hsl
          subst hle
          obtain ⟨es', hes'⟩ : ∃ es', es' = les.set a.slot (e0.ack a.frm) := ⟨_, rfl⟩
          have hmap : es'.map (·.acks) = lm.es.set a.slot (if ak.contains a.frm then ak else ak ++ [a.frm]) := by
            rw [hes', List.map_set, ← ackAdd_model, ← hea, ← hld.es]; rfl
          obtain ⟨ms, hms⟩ : ∃ ms, ms = lm.es.set a.slot (if ak.contains a.frm then ak else ak ++ [a.frm]) := ⟨_, rfl⟩
          rw [← hms] at hmap hh
          have hval : ∀ j e, es'[j]? = some e → e.value = strN (cmdN (cmdAt x j)) := fun j e he => by
            rw [hes', List.getElem?_set] at he
            split at he
            · rename_i hj
              injection he with he
              subst he; subst hj
              exact hld.val _ e0 he0
            · exact hld.val j e he
          have hlen' : es'.length ≤ 2 := by rw [hes', List.length_set]; exact hld.len
          have hok' : LdOk s x ⟨lb, lps, es', true⟩ { lm with es := ms } := by
            refine ⟨hld.b, hld.ps, hmap, hld.leads, hld.b1, hld.b2, fun e he => ?_, fun e he => ?_, hval, hlen'⟩
            · rcases List.mem_or_eq_of_mem_set (hes' ▸ he) with h0 | h0
              · exact hld.ok e h0
              · subst h0
                have hk0 := hld.ok e0 he0m
                refine ⟨⟨hk0.1.v, hk0.1.o1, hk0.1.o2, fun y hy => ?_⟩, ?_⟩
                · have hy2 : y ∈ ackAdd e0.acks a.frm := hy
                  unfold ackAdd at hy2
                  split at hy2
                  · exact hk0.1.a y hy2
                  · rcases List.mem_append.1 hy2 with h0 | h0
                    · exact hk0.1.a y h0
                    · rw [List.mem_singleton.1 h0]; exact c3
                · show (ackAdd e0.acks a.frm).length ≤ 7
                  have := ackAdd_len e0.acks a.frm
                  rw [hea] at this ⊢
                  omega
            · rcases List.mem_or_eq_of_mem_set (hes' ▸ he) with h0 | h0
              · exact hld.org e h0
              · subst h0
                exact hld.org e0 he0m
          have hes7 : ∀ e ∈ es', e.acks.length ≤ 7 := fun e he => (hok'.ok e he).2
          have HH : ∀ S P w, LdAt w S P s me lb lps les true → Lt S w → Calls Tryz.prog 106 #[.pointer (some ⟨P, 0, none⟩), mgv a] w fun e w' => e = .returned (.slice none 0 0) ∧ LdAt w' S P s me lb lps es' true ∧ Turned S w w' := fun S P w hl hS => by
            rw [hes']
            exact ldhear_acc S P s hs me lb lps les w hl hS a ha hk hto hbe c3 e0 he0
          split at hh
          · rename_i hch
            have hch := Nat.le_of_ble_eq_true hch
            injection hh with hh
            injection hh with h1 h2
            injection h2 with h2 h3
            subst h1; subst h2; subst h3
            refine (nhear_ld (treeR x app) (treeR_framed x _) S N s me D m rs ⟨lb, lps, les, true⟩ ⟨lb, lps, es', true⟩ app cl _ dn a (.inr hk) HH
              (fun S w v w' => v = .slice none 0 0 ∧ Below w.heap.size w w')
              (fun S w hl hS => (napply_none _ (treeR_framed x _) S N s hs me D m rs (some _) app cl _ dn (fun l2 h2 _ => by injection h2 with h2; subst h2; exact ⟨by rw [chosen_model]; simp only [hmap]; exact hch, by simp only []; omega, hes7⟩) w hl).mono fun e w' hp => ⟨_, hp.1, rfl, hp.2⟩) W hN).mono ?_
            rintro e W' ⟨S1, w1, v, rfl, hN1, hst, rfl, hb1⟩
            exact ⟨[], none, 0, [], none, 0, S1, rfl, Nat.zero_le _, (fun _ => ⟨rfl, rfl⟩), OwnT.nil _ _ _ _ _, OwnT.nil _ _ _ _ _, rfl, rfl, (fun m hm => by cases hm), ⟨D, rs, some _, cl, dn, hN1.frame (treeR_framed x _) hb1.size fun k hk => hb1.block k (hst.lt k hk), hlog, hprom, hvs, hrec, hok', hcl⟩, hst.below hb1⟩
          · have hw : ∃ w, waits = [w] := by
              match waits, hh with
              | [], hh => simp at hh
              | [w], _ => exact ⟨w, rfl⟩
              | _ :: _ :: _, hh => simp at hh
            obtain ⟨w0, rfl⟩ := hw
            simp only [] at hh
            split at hh
            · rename_i hc
              rw [Bool.and_eq_true, Bool.and_eq_true, Nat.blt_eq] at hc
              obtain ⟨⟨d1, d2⟩, d3⟩ := hc
              have d1 := Nat.eq_of_beq_eq_true d1
              have hw : app = w0 := (Nat.eq_of_beq_eq_true d3).symm
              subst hw
              injection hh with hh
              injection hh with h1 h2
              injection h2 with h2 h3
              subst h1; subst h2; subst h3
              rw [← hmap, List.length_map] at d2
              have hchN : chosenN s.q es' = app + 1 := by rw [chosen_model, hmap]; exact d1
              have HA : ∀ S w, NodeAt (treeR x app) w S N s me D m rs (some ⟨lb, lps, es', true⟩) app cl [waitv app (cmdAt x app)] dn → Lt S w → Calls Tryz.prog 107 #[.pointer (some ⟨N, 0, none⟩)] w fun e w' => ∃ v, e = .returned v ∧
                  ∃ (g cap : Nat) (r : Rp) (cl' dn' : List (Value × Value)) (S' : Nat → Prop), v = .slice (some ⟨g, 0, none⟩) 1 cap ∧ OwnT acells 45 7 w' w.heap.size (some ⟨g, 0, none⟩) cap [⟨x.client, (cmdAt x app).seq, (app : Int), r⟩] ∧ r.e = 0 ∧ NodeAt (treeR x (app + 1)) w' S' N s me D m rs (some ⟨lb, lps, es', true⟩) (app + 1) cl' [] dn' ∧ clR x (app + 1) cl' ∧ Step S w w' S' := fun S w hl hS => by
                match app, hl, hcl, d2, hchN with
                | 0, hl, hcl, d2, hchN =>
                  obtain rfl : cl = [] := hcl
                  obtain ⟨e1, he1⟩ : ∃ e1, es'[0]? = some e1 := ⟨_, List.getElem?_eq_getElem d2⟩
                  refine (napply_1 S N s hs me D m rs ⟨lb, lps, es', true⟩ dn rfl hchN (by simp only []; omega) hes7 e1 he1 x (hx 0) (hval 0 e1 he1) w hl).mono ?_
                  rintro e w' ⟨g, cap, r, dn', S', rfl, h1, h2, h3, h4⟩
                  exact ⟨_, rfl, g, cap, r, _, dn', S', rfl, h1, h2, h3, ⟨r, rfl⟩, h4⟩
                | 1, hl, hcl, d2, hchN =>
                  obtain ⟨r0, rfl⟩ : ∃ r, cl = [(.int .i64 x.client, lastv x.seq r)] := hcl
                  obtain ⟨e1, he1⟩ : ∃ e1, es'[1]? = some e1 := ⟨_, List.getElem?_eq_getElem d2⟩
                  refine (napply_2 S N s hs me D m rs ⟨lb, lps, es', true⟩ dn rfl hchN (by simp only []; omega) hes7 e1 he1 (cmdAt x 1) (hx 1) (hval 1 e1 he1) x.seq r0 (show x.seq < x.seq + 1 by omega) w hl).mono ?_
                  rintro e w' ⟨g, cap, r, cl', dn', S', rfl, h1, h2, h3, h4⟩
                  exact ⟨_, rfl, g, cap, r, cl', dn', S', rfl, h1, h2, h3, trivial, h4⟩
                | k + 2, _, _, d2, _ => omega
              refine (nhear_ld (treeR x app) (treeR_framed x _) S N s me D m rs ⟨lb, lps, les, true⟩ ⟨lb, lps, es', true⟩ app cl _ dn a (.inr hk) HH
                (fun S w v w' => ∃ (g cap : Nat) (r : Rp) (cl' dn' : List (Value × Value)) (S' : Nat → Prop), v = .slice (some ⟨g, 0, none⟩) 1 cap ∧ OwnT acells 45 7 w' w.heap.size (some ⟨g, 0, none⟩) cap [⟨x.client, (cmdAt x app).seq, (app : Int), r⟩] ∧ r.e = 0 ∧ NodeAt (treeR x (app + 1)) w' S' N s me D m rs (some ⟨lb, lps, es', true⟩) (app + 1) cl' [] dn' ∧ clR x (app + 1) cl' ∧ Step S w w' S')
                HA W hN).mono ?_
              rintro e W' ⟨S1, w1, v, rfl, hN1, hst, g, cap, r, cl', dn', S', rfl, hO, hr, hN2, hcl2, hst2⟩
              refine ⟨[⟨x.client, (cmdAt x app).seq, (app : Int), r⟩], some ⟨g, 0, none⟩, cap, [], none, 0, S', rfl, Nat.le_refl _, (fun h => by cases h), hO.low hst.t.size, OwnT.nil _ _ _ _ _, ?_, rfl, (fun m hm => by cases hm), ⟨D, rs, some _, cl', dn', hN2, hlog, hprom, hvs, hrec, hok', hcl2⟩, hst.trans hst2⟩
              simp only [AnsR, List.map_cons, List.map_nil, hr]
            · cases hh
        · cases hh
theorem ndhear (s : Shp) (hs : s.Ok) (x : Cm) (hx : ∀ j, rightC (cmdAt x j) = true) (me : Nat) (hme : me < s.n) (m : Nat) (hm : 5000 ≤ m) (nd nd' : Mdl.Nm) (a : Mg) (ha : MgOk a) (hto : a.to = me) (ans : List Nat) (out : List Am) (hh : Mdl.hearK s.n s.q me nd (absM a) = some (nd', ans, out)) (W : World) (S : Nat → Prop) (N : Nat) (h : NdAt W S N s me m x nd) :
    Calls Tryz.prog 68 #[.pointer (some ⟨N, 0, none⟩), mgv a] W fun e W' => HearPost W S N s me m x nd' ans out e W' := by
  rcases ha.k with ⟨hk, hsl, hvt⟩ | ⟨hk, hsl, hvt⟩ | ⟨hk, hsl, hvr, hvb⟩ | ⟨hk, hsl, hvt⟩
  · exact ndhear_1 s x me m hm nd nd' a ha hk hto ans out hh W S N h
  · exact ndhear_2 s hs x me hme m nd nd' a ha hk hsl hvt hto ans out hh W S N h
  · exact ndhear_3 s x me m hm nd nd' a ha hk hto hvr hvb ans out hh W S N h
  · exact ndhear_4 s hs x hx me m nd nd' a ha hk hto ans out hh W S N h
theorem ndstand (s : Shp) (hs : s.Ok) (x : Cm) (me : Nat) (hme : me < s.n) (m : Nat) (hm : 5000 ≤ m) (nd : Mdl.Nm) (h0 : nd.ld = none) (h1 : nd.nrec = 0) (W : World) (S : Nat → Prop) (N : Nat) (h : NdAt W S N s me m x nd) :
    Calls Tryz.prog 73 #[.pointer (some ⟨N, 0, none⟩)] W fun e W' => ∃ (L : List Mg) (A : Option Addr) (c : Nat) (S' : Nat → Prop), L.map absM = (List.range s.n).map (fun i => (⟨1, me, i, nextB me, 0, 0, 0, 0⟩ : Am)) ∧ (∀ m ∈ L, MgOk m) ∧ e = .returned (.slice A L.length c) ∧ OwnT mcells 133 11 W' W.heap.size A c L ∧
      NdAt W' S' N s me m x { nd with prom := nextB me, nrec := nd.nrec + 1, ld := some ⟨nextB me, [], [], false⟩, app := 0, waits := [] } ∧ Step S W W' S' := by
  obtain ⟨D, rs, ld, cl, dn, hN, hlog, hprom, hvs, hrec, hld, hcl⟩ := h
  have hrs : rs = [] := List.eq_nil_of_length_eq_zero (by omega)
  subst hrs
  rw [h0] at hld
  cases ld with
  | some l => exact hld.elim
  | none =>
    have hn7 := hs.n7
    have hb : 1 ≤ nextB me ∧ nextB me ≤ 8 := by
      unfold nextB
      unfold Shp.n at hme
      split <;> omega
    refine (nstand_any _ S N s hs me D m hme (by omega) cl _ dn nd.app W hN).mono ?_
    rintro e W' ⟨L, A, c, S', hL, rfl, hO, hN', hst⟩
    have hL := hL.out
    refine ⟨L, A, c, S', ?_, ?_, rfl, hO, ⟨D, _, some _, [], [], hN', LogOk.snoc (rs := []) LogOk.nil ⟨hb.1, by omega⟩, ?_, ?_, ?_, ?_, rfl⟩, hst⟩
    · rw [hL, List.map_map]
      rfl
    · intro m hm
      rw [hL] at hm
      obtain ⟨i, hi, rfl⟩ := List.mem_map.1 hm
      have hi := List.mem_range.1 hi
      unfold Shp.n at hi hme
      exact ⟨show me < 7 by omega, show i < 7 by omega, hb.1, show nextB me ≤ 2147483647 by omega, .inl ⟨rfl, rfl, rfl⟩⟩
    · show nextB me = max 0 (nextB me)
      omega
    · exact hvs
    · exact ⟨by show nd.nrec + 1 = 1; omega, show nd.nrec + 1 ≤ 8 by omega⟩
    · exact ⟨rfl, rfl, rfl, rfl, hb.1, show nextB me ≤ 2147483647 by omega, (fun e he => by cases he), (fun e he => by cases he), (fun j e he => by simp at he), Nat.zero_le _⟩
theorem againK_snoc (q n me b : Nat) (a : List Nat) : ∀ (l : List (List Nat)) (at_ : Nat), Mdl.againK q n me b at_ (l ++ [a]) = Mdl.againK q n me b at_ l ++ (if Nat.blt a.length q then Mdl.accK n me b (at_ + l.length) a else [])
  | [], at_ => by simp [Mdl.againK]
  | y :: t, at_ => by
    rw [List.cons_append, Mdl.againK, againK_snoc q n me b a t (at_ + 1), Mdl.againK, List.append_assoc, List.length_cons, show at_ + 1 + t.length = at_ + (t.length + 1) by omega]
theorem again_model (q n me b : Nat) (es : List Ent) (ho : ∀ e ∈ es, e.origin = b) : ∀ k, k ≤ es.length → againL q n me b es k = Mdl.againK q n me b 0 ((es.take k).map (·.acks))
  | 0, _ => rfl
  | k + 1, hk => by
    have hk' : k < es.length := by omega
    rw [againL, again_model q n me b es ho k (by omega), List.take_succ_eq_append_getElem hk', List.map_append, List.map_cons, List.map_nil, againK_snoc, List.getElem?_eq_getElem hk']
    simp only [List.length_map, List.length_take, Nat.zero_add]
    rw [show min k es.length = k by omega, ho _ (List.getElem_mem hk')]
    congr 1
    by_cases h : es[k].acks.length < q
    · rw [if_pos h, if_pos (by rw [Nat.blt_eq]; exact h)]; rfl
    · rw [if_neg h, if_neg (by rw [Nat.blt_eq]; exact h)]
theorem ndtick (s : Shp) (hs : s.Ok) (x : Cm) (me : Nat) (hme : me < s.n) (m : Nat) (nd : Mdl.Nm) (lm : Mdl.Lm) (h0 : nd.ld = some lm) (h1 : lm.leads = true) (full : Bool) (W : World) (S : Nat → Prop) (N : Nat) (h : NdAt W S N s me m x nd) :
    Calls Tryz.prog 74 #[.pointer (some ⟨N, 0, none⟩), .bool full] W fun e W' => ∃ (L : List Mg) (A : Option Addr) (c : Nat), L.map absM = Mdl.againK s.q s.n me lm.b 0 lm.es ∧ (∀ m ∈ L, MgOk m) ∧ e = .returned (.slice A L.length c) ∧ OwnT mcells 133 11 W' W.heap.size A c L ∧ Below W.heap.size W W' := by
  obtain ⟨D, rs, ld, cl, dn, hN, hlog, hprom, hvs, hrec, hld, hcl⟩ := h
  rw [h0] at hld
  cases ld with
  | none => exact hld.elim
  | some l =>
    have hl2 := hld.len
    refine (ntick_any _ S N s hs me D m hme rs l (hld.leads.trans h1) hld.b1 hld.b2 (by omega) hld.ok nd.app cl _ dn full W hN).mono ?_
    rintro e W' ⟨L, A, c, hL, hok, rfl, hO, hb⟩
    refine ⟨L, A, c, ?_, hok, rfl, hO, hb⟩
    rw [hL.out, again_model _ _ _ _ _ hld.org _ (Nat.le_refl _), List.take_length, hld.es, hld.b]
theorem ndask (s : Shp) (hs : s.Ok) (x : Cm) (hx : ∀ j, rightC (cmdAt x j) = true) (me : Nat) (hme : me < s.n) (m : Nat) (nd : Mdl.Nm) (lm : Mdl.Lm) (h0 : nd.ld = some lm) (h1 : lm.leads = true) (h2 : nd.waits = []) (h3 : lm.es.length < 2) (h4 : nd.app = lm.es.length) (W : World) (S : Nat → Prop) (N : Nat) (h : NdAt W S N s me m x nd) :
    Calls Tryz.prog 63 #[.pointer (some ⟨N, 0, none⟩), cmv (cmdAt x lm.es.length)] W fun e W' => ∃ (L : List Mg) (A : Option Addr) (cc : Nat) (S' : Nat → Prop), L.map absM = Mdl.accK s.n me lm.b lm.es.length [] ∧ (∀ m ∈ L, MgOk m) ∧ e = .returned (.tuple #[.slice none 0 0, .slice A L.length cc]) ∧ OwnT mcells 133 11 W' W.heap.size A cc L ∧
      NdAt W' S' N s me m x { nd with ld := some { lm with es := lm.es ++ [[]] }, waits := nd.waits ++ [lm.es.length] } ∧ Step S W W' S' := by
  obtain ⟨D, rs, ld, cl, dn, hN, hlog, hprom, hvs, hrec, hld, hcl⟩ := h
  rw [h0] at hld
  cases ld with
  | none => exact hld.elim
  | some l =>
    obtain ⟨lb, lps, les, lleads⟩ := l
    have hle : lleads = true := hld.leads.trans h1
    subst hle
    have hel : les.length = lm.es.length := by rw [← hld.es, List.length_map]
    rw [h2] at hN
    have hr := hx lm.es.length
    have hsz : (strN (cmdN (cmdAt x lm.es.length))).size ≤ 512 := by
      rw [strN_size]
      have h := hr
      unfold rightC at h
      rw [Bool.and_eq_true, decide_eq_true_eq] at h
      exact h.2
    have hkey : ∃ q : Int, q < (cmdAt x lm.es.length).seq ∧ ∀ S P w, StAt (treeR x nd.app) w S P cl → Calls Tryz.prog 94 #[.pointer (some ⟨P, 0, none⟩), .int .i64 (cmdAt x lm.es.length).client] w fun e w' => e = .returned (.int .i64 q) ∧ w = w' := by
      rw [← h4] at h3 ⊢
      match hap : nd.app, h3 with
      | 0, _ =>
        rw [hap] at hcl
        obtain rfl : cl = [] := hcl
        exact ⟨0, seq_of (hx 0), fun S P w hw => stlast_none _ S P _ w hw⟩
      | 1, _ =>
        rw [hap] at hcl
        obtain ⟨r, rfl⟩ : ∃ r, cl = [(.int .i64 x.client, lastv x.seq r)] := hcl
        exact ⟨x.seq, show x.seq < x.seq + 1 by omega, fun S P w hw => stlast_some _ S P x.client x.seq r w hw⟩
    obtain ⟨q, hq, HL⟩ := hkey
    refine (nask_any _ (treeR_framed x _) S N s hs me D m hme rs ⟨lb, lps, les, true⟩ rfl hld.b1 hld.b2 (by simp only []; omega) nd.app cl dn (cmdAt x lm.es.length) hr q hq HL W hN).mono ?_
    rintro e W' ⟨L, A, cc, S', qm, hL, hok, rfl, hO, hN', hst⟩
    simp only [] at hL hN'
    refine ⟨L, A, cc, S', ?_, hok, rfl, hO, ⟨D, rs, some ⟨lb, lps, les ++ [⟨strN (cmdN (cmdAt x lm.es.length)), lb, qm, []⟩], true⟩, cl, dn, ?_, hlog, hprom, hvs, hrec, ?_, hcl⟩, hst⟩
    · rw [hL.out, hel, show lb = lm.b from hld.b]; rfl
    · rw [hel] at hN'
      simp only [h2, List.nil_append, List.map_cons, List.map_nil]
      exact hN'
    · have hm : ∀ e ∈ les ++ [(⟨strN (cmdN (cmdAt x lm.es.length)), lb, qm, []⟩ : Ent)], e ∈ les ∨ e = ⟨strN (cmdN (cmdAt x lm.es.length)), lb, qm, []⟩ := fun e he => by
        rcases List.mem_append.1 he with h | h
        · exact .inl h
        · exact .inr (List.mem_singleton.1 h)
      refine ⟨hld.b, hld.ps, ?_, h1.symm, hld.b1, hld.b2, fun e he => ?_, fun e he => ?_, fun j e he => ?_, ?_⟩
      · show List.map _ (les ++ [_]) = lm.es ++ [[]]
        rw [List.map_append, hld.es]; rfl
      · rcases hm e he with h | rfl
        · exact hld.ok e h
        · exact ⟨⟨hsz, hld.b1, Nat.le_refl _, fun y hy => by cases hy⟩, Nat.zero_le _⟩
      · rcases hm e he with h | rfl
        · exact hld.org e h
        · rfl
      · have he : (les ++ [(⟨strN (cmdN (cmdAt x lm.es.length)), lb, qm, []⟩ : Ent)])[j]? = some e := he
        rw [List.getElem?_append] at he
        split at he
        · exact hld.val j e he
        · rename_i hj
          obtain ⟨hj2, he2⟩ := List.getElem?_eq_some_iff.1 he
          simp only [List.length_cons, List.length_nil] at hj2
          have hj3 : j = lm.es.length := by omega
          subst hj3
          have : e ∈ [(⟨strN (cmdN (cmdAt x lm.es.length)), lb, qm, []⟩ : Ent)] := List.mem_of_getElem? he
          rw [List.mem_singleton.1 this]
      · show (les ++ [_]).length ≤ 2
        rw [List.length_append]; simp only [List.length_cons, List.length_nil]; omega
theorem say_len {rs : List Rc} (h : LogOk rs) : (say rs).2.length ≤ rs.length := by
  induction h with
  | nil => exact Nat.zero_le _
  | @snoc rs r h h1 ih =>
    rw [say_snoc, List.length_append]
    cases r with
    | p b => simp only [say1, List.length_cons, List.length_nil]; omega
    | v v => simp only [say1, List.length_append, List.length_cons, List.length_nil]; omega
theorem ndvotes (s : Shp) (x : Cm) (me m : Nat) (nd : Mdl.Nm) (W : World) (S : Nat → Prop) (N : Nat) (h : NdAt W S N s me m x nd) :
    Calls Tryz.prog 67 #[.pointer (some ⟨N, 0, none⟩)] W fun e W' => ∃ (L : List Vt) (A : Option Addr) (c : Nat), e = .returned (.slice A L.length c) ∧ OwnT vcells 62 5 W' W.heap.size A c L ∧ L.length ≤ 8 ∧ Below W.heap.size W W' := by
  obtain ⟨D, rs, ld, cl, dn, hN, hlog, hprom, hvs, hrec, hld, hcl⟩ := h
  refine (nvotes_any _ S N s me D m rs ld nd.app cl _ dn W hN).mono ?_
  rintro e W' ⟨L, A, c, hL, rfl, hO, hb⟩
  refine ⟨L, A, c, rfl, hO, ?_, hb⟩
  rw [hL.out]
  have := say_len hlog
  omega
theorem indexv_any (L : List Vt) (v : Vt) (A : Option Addr) (c b : Nat) (W : World) (hO : OwnT vcells 62 5 W b A c L) (hn : L.length ≤ 64) :
    Calls Tryz.prog 108 #[.slice A L.length c, vtv v] W fun e W' => ∃ n : Int, e = .returned (.int .i64 n) ∧ Below W.heap.size W W' := by
  have HO := Lib.hid hO
  clear hO
  obtain ⟨v0, v1, v2, v3, v4⟩ := v
  unfold vtv
  simp only []
  go_enter Tryz.func108, Tryz.ntmps108
  go_wp2
  generalize hw1 : World.alloc W _ = w1
  have hB := named_new hw1.symm
  have hb1 := named_below hw1.symm
  have hz1 : W.heap.size < w1.heap.size := by rw [named_size hw1.symm]; omega
  clear hw1
  have HB := Lib.hid hB
  have HB1 := Lib.hid hb1
  clear hB hb1
  go_loopw [8] (fun i wr => ∃ k : Nat, k ≤ L.length ∧ i = .int .i64 k ∧ Below w1.heap.size w1 wr) (fun i _ => L.length - (intOf i).toNat)
  case atStart => exact ⟨0, Nat.zero_le _, rfl, Below.refl _ _⟩
  case round =>
    obtain ⟨k, hk, rfl, hB⟩ := hrel
    by_cases hkn : k < L.length
    · have hbr := (hB.block W.heap.size hz1).trans HB.out
      have x0 : wr.cell? ⟨W.heap.size, 0, none⟩ = some (.int .i64 (v0 : Int)) := cob hbr 0 rfl
      have x1 : wr.cell? ⟨W.heap.size, 1, none⟩ = some (.int .i64 (v1 : Int)) := cob hbr 1 rfl
      have x2 : wr.cell? ⟨W.heap.size, 2, none⟩ = some (.int .i64 (v2 : Int)) := cob hbr 2 rfl
      have x3 : wr.cell? ⟨W.heap.size, 3, none⟩ = some (.bool v3) := cob hbr 3 rfl
      have x4 : wr.cell? ⟨W.heap.size, 4, none⟩ = some (.string v4) := cob hbr 4 rfl
      have hO2 := (HO.out.below HB1.out (Nat.le_refl _)).below hB (Nat.le_refl _)
      obtain ⟨ga, rfl, _, _, _⟩ := hO2.form (by omega)
      obtain ⟨y, hy⟩ : ∃ y, y = L[k] := ⟨_, rfl⟩
      have d0 := hO2.cell vcells_len k 0 hkn (.int .i64 (y.slot : Int)) (by rw [hy]; rfl)
      have d1 := hO2.cell vcells_len k 1 hkn (.int .i64 (y.ballot : Int)) (by rw [hy]; rfl)
      have d2 := hO2.cell vcells_len k 2 hkn (.int .i64 (y.origin : Int)) (by rw [hy]; rfl)
      have d3 := hO2.cell vcells_len k 3 hkn (.bool y.full) (by rw [hy]; rfl)
      have d4 := hO2.cell vcells_len k 4 hkn (.string y.bytes) (by rw [hy]; rfl)
      simp only [Nat.add_zero] at d0
      have HBx := Lib.hid hB
      clear hO2 hy hbr hB
      have hcs : ¬ (v0 : Int) = y.slot ∨ ((v0 : Int) = y.slot ∧ ¬ (v1 : Int) = y.ballot) ∨ ((v0 : Int) = y.slot ∧ (v1 : Int) = y.ballot ∧ ¬ (v2 : Int) = y.origin) ∨ ((v0 : Int) = y.slot ∧ (v1 : Int) = y.ballot ∧ (v2 : Int) = y.origin ∧ ¬ v3 = y.full) ∨
          ((v0 : Int) = y.slot ∧ (v1 : Int) = y.ballot ∧ (v2 : Int) = y.origin ∧ v3 = y.full ∧ ¬ v4.toList = y.bytes.toList) ∨ ((v0 : Int) = y.slot ∧ (v1 : Int) = y.ballot ∧ (v2 : Int) = y.origin ∧ v3 = y.full ∧ v4.toList = y.bytes.toList) := by
        by_cases e0 : (v0 : Int) = y.slot <;> by_cases e1 : (v1 : Int) = y.ballot <;> by_cases e2 : (v2 : Int) = y.origin <;> by_cases e3 : v3 = y.full <;> by_cases e4 : v4.toList = y.bytes.toList <;> simp [e0, e1, e2, e3, e4]
      have dk : ((k : Nat) : Int) < ((L.length : Nat) : Int) := by omega
      rcases hcs with e0 | ⟨e0, e1⟩ | ⟨e0, e1, e2⟩ | ⟨e0, e1, e2, e3⟩ | ⟨e0, e1, e2, e3, e4⟩ | ⟨e0, e1, e2, e3, e4⟩
      all_goals
        go_wp2
        go_region
        go_wp2
        first
          | (go_roundw
             case rel => exact ⟨k + 1, by omega, by go_num, HBx.out.drew⟩
             case measure => simp [intOf]; omega)
          | (go_ret
             exact ⟨_, rfl, (HB1.out.trans (HBx.out.mono (Nat.le_of_lt hz1))).drew⟩)
    · go_wp2
      go_ret
      exact ⟨_, rfl, HB1.out.trans (hB.mono (Nat.le_of_lt hz1))⟩
theorem containsv_any (L : List Vt) (v : Vt) (A : Option Addr) (c b : Nat) (W : World) (hO : OwnT vcells 62 5 W b A c L) (hn : L.length ≤ 64) :
    Calls Tryz.prog 69 #[.slice A L.length c, vtv v] W fun e W' => ∃ n : Bool, e = .returned (.bool n) ∧ Below W.heap.size W W' := by
  have HI := Lib.hid (fun w (hb : Below W.heap.size W w) => indexv_any L v A c b w (hO.below hb (Nat.le_refl _)) hn)
  clear hO
  obtain ⟨v0, v1, v2, v3, v4⟩ := v
  unfold vtv at HI ⊢
  simp only [] at HI ⊢
  go_enter Tryz.func69, Tryz.ntmps69
  go_wp2_with fail
  generalize hw1 : World.alloc W _ = w1
  have hB := named_new hw1.symm
  have hb1 := named_below hw1.symm
  clear hw1
  have x0 : w1.cell? ⟨W.heap.size, 0, none⟩ = some (.int .i64 (v0 : Int)) := cob hB 0 rfl
  have x1 : w1.cell? ⟨W.heap.size, 1, none⟩ = some (.int .i64 (v1 : Int)) := cob hB 1 rfl
  have x2 : w1.cell? ⟨W.heap.size, 2, none⟩ = some (.int .i64 (v2 : Int)) := cob hB 2 rfl
  have x3 : w1.cell? ⟨W.heap.size, 3, none⟩ = some (.bool v3) := cob hB 3 rfl
  have x4 : w1.cell? ⟨W.heap.size, 4, none⟩ = some (.string v4) := cob hB 4 rfl
  clear hB
  go_wp2_with (first | (go_at_call 108; refine (HI.out w1 hb1).mono ?_; rintro e w2 ⟨n, rfl, hb2⟩))
  go_ret
  exact ⟨_, rfl, hb1.trans (hb2.mono (by have := hb1.size; omega))⟩
theorem note_any (C : Nat) (v0 v1 v2 v4 v6 : Value) (clock : Nat) (A : Option Addr) (tc base : Nat) (told : List Td) (ht : told.length ≤ 1000000) (B : Option Addr) (cap base2 : Nat) (al : List Ans) (h1 : al.length ≤ 1) (hnil : al = [] → B = none ∧ cap = 0) (W : World) (hC : W.heap[C]? = some (.cells #[v0, v1, v2, .int .i64 (clock : Int), v4, .slice A told.length tc, v6] 88)) (hO : OwnT tdcells 52 8 W base A tc told) (hg : OwnT acells 45 7 W base2 B cap al) (hbase : base ≤ W.heap.size) :
    Calls Tryz.prog 64 #[.pointer (some ⟨C, 0, none⟩), .slice B al.length cap] W fun e W' => e = .returned (.tuple #[]) ∧ ∃ A' tc', W'.heap[C]? = some (.cells #[v0, v1, v2, .int .i64 (clock : Int), v4, .slice A' (told ++ al.map (Td.mk clock)).length tc', v6] 88) ∧ OwnT tdcells 52 8 W' base A' tc' (told ++ al.map (Td.mk clock)) ∧ Turned (fun k => k = C ∨ blk A = some k) W W' ∧ (blk A' = blk A ∨ ∃ k, blk A' = some k ∧ W.heap.size ≤ k) := by
  match al, h1, hnil, hg with
  | [], _, hnil, _ =>
    obtain ⟨rfl, rfl⟩ := hnil rfl
    refine (note_none C W).mono ?_
    rintro e W' ⟨rfl, rfl⟩
    rw [List.map_nil, List.append_nil]
    exact ⟨rfl, A, tc, hC, hO, Turned.refl _ _, .inl rfl⟩
  | [a], _, _, hg =>
    obtain ⟨g, rfl, _⟩ := hg.form (by simp)
    refine (note_one C v0 v1 v2 v4 v6 clock A tc base told ht g cap base2 a W hC hO hg hbase).mono ?_
    rintro e W' ⟨rfl, A', tc', h1, h2, h3, h4⟩
    refine ⟨rfl, A', tc', ?_, h2, h3, h4⟩
    rw [List.length_append]
    exact h1
def akcells (a : Nat × Cm) : List Value := .int .i64 (a.1 : Int) :: cmcells a.2
theorem akcells_len (a : Nat × Cm) : (akcells a).length = 11 := rfl
theorem akcells_one (a : Nat × Cm) : ∀ u ∈ akcells a, u.oneCell' = true := by
  obtain ⟨n, ⟨cl, sq, kind, row, col, tt, at_, value, expect, has⟩⟩ := a
  intro u hu
  simp only [akcells, cmcells, List.mem_cons, List.not_mem_nil, or_false] at hu
  rcases hu with rfl | rfl | rfl | rfl | rfl | rfl | rfl | rfl | rfl | rfl | rfl <;> rfl
def secells (v : Nat × Vt) : List Value := .int .i64 (v.1 : Int) :: vcells v.2
theorem secells_len (v : Nat × Vt) : (secells v).length = 6 := rfl
theorem secells_one (v : Nat × Vt) : ∀ u ∈ secells v, u.oneCell' = true := by
  obtain ⟨n, ⟨sl, b, o, f, y⟩⟩ := v
  intro u hu
  simp only [secells, vcells, List.mem_cons, List.not_mem_nil, or_false] at hu
  rcases hu with rfl | rfl | rfl | rfl | rfl | rfl <;> rfl
theorem pnext_is (S : Nat → Prop) (G nx : Nat) (l : List Pk) (h0 : 0 < l.length) (hlen : l.length ≤ 600) (pk : Pk) (l2 : List Pk) (hpop : popG lessB l = some (pk, l2)) (W : World) (h : PlAt W S G nx l) (hS : Lt S W) :
    Calls Tryz.prog 66 #[.pointer (some ⟨G, 0, none⟩)] W fun e W' => e = .returned (.tuple #[mgv pk.m, .int .i64 (pk.due : Int), .bool true]) ∧ PlAt W' S G nx l2 ∧ Turned S W W' := by
  refine (pnext_any S G nx l h0 hlen W h hS).mono ?_
  rintro e W' ⟨pk', l2', hp, rfl, hP, ht⟩
  have hp := hp.out
  rw [hpop] at hp
  injection hp with hp
  injection hp with h1 h2
  subst h1; subst h2
  exact ⟨rfl, hP, ht⟩
structure Kc where
  nds : List Nat
  A : Option Addr
  ac : Nat
  U : Option Addr
  uc : Nat
  G : Nat
  K : Option Addr
  kc : Nat
  asked : List (Nat × Cm)
  T : Option Addr
  tc : Nat
  told : List Td
  Z : Option Addr
  zc : Nat
  seen : List (Nat × Vt)
def kcells (q : Kc) (ups : List Bool) (clock : Nat) : Array Value := #[.slice q.A q.nds.length q.ac, .slice q.U ups.length q.uc, .pointer (some ⟨q.G, 0, none⟩), .int .i64 (clock : Int), .slice q.K q.asked.length q.kc, .slice q.T q.told.length q.tc, .slice q.Z q.seen.length q.zc]
structure KIs (W : World) (p : Nat → Nat → Prop) (C : Nat) (s : Shp) (m : Nat) (x : Cm) (q : Kc) (nodes : List Mdl.Nm) (l : List Pk) (nx clock : Nat) : Prop where
  pts : Pts p W
  c0 : p 0 C
  hC : W.heap[C]? = some (.cells (kcells q (nodes.map (·.up)) clock) 88)
  hA : OwnT ncell 89 1 W 0 q.A q.ac q.nds
  sA : ∀ k, blk q.A = some k → p 1 k
  hU : OwnT bcell 4 1 W 0 q.U q.uc (nodes.map (·.up))
  sU : ∀ k, blk q.U = some k → p 2 k
  hP : PlAt W (p 3) q.G nx l
  hK : OwnT akcells 126 11 W 0 q.K q.kc q.asked
  sK : ∀ k, blk q.K = some k → p 4 k
  hT : OwnT tdcells 52 8 W 0 q.T q.tc q.told
  sT : ∀ k, blk q.T = some k → p 5 k
  hZ : OwnT secells 64 6 W 0 q.Z q.zc q.seen
  sZ : ∀ k, blk q.Z = some k → p 6 k
  len : q.nds.length = nodes.length
  nd : ∀ i n N, nodes[i]? = some n → q.nds[i]? = some N → NdAt W (p (7 + i)) N s i m x n
section
variable {W W' : World} {p : Nat → Nat → Prop} {C : Nat} {s : Shp} {m : Nat} {x : Cm} {q : Kc} {nodes : List Mdl.Nm} {l : List Pk} {nx clock : Nat}
theorem KIs.ne0 (h : KIs W p C s m x q nodes l nx clock) {i : Nat} (hi : i ≠ 0) : ¬ p i C := fun e => h.pts.dj i 0 hi C e h.c0
theorem KIs.clt (h : KIs W p C s m x q nodes l nx clock) : C < W.heap.size := h.pts.lt 0 C h.c0
theorem KIs.frame (h : KIs W p C s m x q nodes l nx clock) (hz : W.heap.size ≤ W'.heap.size) (hb : ∀ k, uni p k → W'.heap[k]? = W.heap[k]?) : KIs W' p C s m x q nodes l nx clock := by
  have hb' : ∀ j k, p j k → W'.heap[k]? = W.heap[k]? := fun j k hk => hb k ⟨j, hk⟩
  exact ⟨h.pts.wide hz, h.c0, (hb' 0 C h.c0).trans h.hC, h.hA.of_block fun k hk => hb' 1 k (h.sA k hk), h.sA, h.hU.of_block fun k hk => hb' 2 k (h.sU k hk), h.sU, h.hP.frame (hb' 3), h.hK.of_block fun k hk => hb' 4 k (h.sK k hk), h.sK,
    h.hT.of_block fun k hk => hb' 5 k (h.sT k hk), h.sT, h.hZ.of_block fun k hk => hb' 6 k (h.sZ k hk), h.sZ, h.len, fun i n N h1 h2 => (h.nd i n N h1 h2).frame hz (hb' (7 + i))⟩
theorem KIs.below (h : KIs W p C s m x q nodes l nx clock) (hb : Below W.heap.size W W') : KIs W' p C s m x q nodes l nx clock := h.frame hb.size fun k hk => hb.block k (h.pts.uni_lt k hk)
theorem KIs.drew (h : KIs W p C s m x q nodes l nx clock) : KIs W.drew p C s m x q nodes l nx clock := h.frame (Nat.le_refl _) fun _ _ => rfl
theorem KIs.pool (h : KIs W p C s m x q nodes l nx clock) {S' : Nat → Prop} {l' : List Pk} {nx' : Nat} (hs : Step (p 3) W W' S') (hP : PlAt W' S' q.G nx' l') : KIs W' (upd p 3 S') C s m x q nodes l' nx' clock := by
  have hb' : ∀ j, j ≠ 3 → ∀ k, p j k → W'.heap[k]? = W.heap[k]? := fun j hj => h.pts.keeps hs hj
  have hu : ∀ j, j ≠ 3 → upd p 3 S' j = p j := fun j hj => upd_other p S' hj
  refine ⟨h.pts.step hs, ?_, (hb' 0 (by omega) C h.c0).trans h.hC, h.hA.of_block fun k hk => hb' 1 (by omega) k (h.sA k hk), ?_, h.hU.of_block fun k hk => hb' 2 (by omega) k (h.sU k hk), ?_, ?_, h.hK.of_block fun k hk => hb' 4 (by omega) k (h.sK k hk), ?_,
    h.hT.of_block fun k hk => hb' 5 (by omega) k (h.sT k hk), ?_, h.hZ.of_block fun k hk => hb' 6 (by omega) k (h.sZ k hk), ?_, h.len, fun i n N h1 h2 => ?_⟩
  · rw [hu 0 (by omega)]; exact h.c0
  · rw [hu 1 (by omega)]; exact h.sA
  · rw [hu 2 (by omega)]; exact h.sU
  · rw [upd_same]; exact hP
  · rw [hu 4 (by omega)]; exact h.sK
  · rw [hu 5 (by omega)]; exact h.sT
  · rw [hu 6 (by omega)]; exact h.sZ
  · rw [hu (7 + i) (by omega)]; exact (h.nd i n N h1 h2).frame hs.t.size (hb' (7 + i) (by omega))
theorem upd_self (p : Nat → Nat → Prop) (i : Nat) : upd p i (p i) = p := by
  funext j
  unfold upd
  split
  · rename_i h; rw [h]
  · rfl
theorem KIs.pool0 (h : KIs W p C s m x q nodes l nx clock) {l' : List Pk} {nx' : Nat} (ht : Turned (p 3) W W') (hP : PlAt W' (p 3) q.G nx' l') : KIs W' p C s m x q nodes l' nx' clock := by
  have := h.pool (Step.of_turned ht (h.pts.lt 3)) hP
  rwa [upd_self] at this
theorem map_up_set {nodes : List Mdl.Nm} {i : Nat} {n n' : Mdl.Nm} (hi : nodes[i]? = some n) (hu : n'.up = n.up) : (nodes.set i n').map (·.up) = nodes.map (·.up) := by
  obtain ⟨hl, he⟩ := List.getElem?_eq_some_iff.1 hi
  rw [List.map_set]
  have : (nodes.map (·.up))[i]'(by rw [List.length_map]; exact hl) = n'.up := by rw [List.getElem_map, he, hu]
  rw [← this, List.set_getElem_self]
theorem KIs.node (h : KIs W p C s m x q nodes l nx clock) {i : Nat} {n n' : Mdl.Nm} {N : Nat} {S' : Nat → Prop} (hi : nodes[i]? = some n) (hN : q.nds[i]? = some N) (hu : n'.up = n.up) (hs : Step (p (7 + i)) W W' S') (hn : NdAt W' S' N s i m x n') : KIs W' (upd p (7 + i) S') C s m x q (nodes.set i n') l nx clock := by
  have hb' : ∀ j, j ≠ 7 + i → ∀ k, p j k → W'.heap[k]? = W.heap[k]? := fun j hj => h.pts.keeps hs hj
  have hup : ∀ j, j ≠ 7 + i → upd p (7 + i) S' j = p j := fun j hj => upd_other p S' hj
  obtain ⟨hil, _⟩ := List.getElem?_eq_some_iff.1 hi
  refine ⟨h.pts.step hs, ?_, ?_, h.hA.of_block fun k hk => hb' 1 (by omega) k (h.sA k hk), ?_, ?_, ?_, ?_, h.hK.of_block fun k hk => hb' 4 (by omega) k (h.sK k hk), ?_,
    h.hT.of_block fun k hk => hb' 5 (by omega) k (h.sT k hk), ?_, h.hZ.of_block fun k hk => hb' 6 (by omega) k (h.sZ k hk), ?_, by rw [List.length_set]; exact h.len, fun j n2 N2 h1 h2 => ?_⟩
  · rw [hup 0 (by omega)]; exact h.c0
  · rw [map_up_set hi hu]; exact (hb' 0 (by omega) C h.c0).trans h.hC
  · rw [hup 1 (by omega)]; exact h.sA
  · rw [map_up_set hi hu]; exact h.hU.of_block fun k hk => hb' 2 (by omega) k (h.sU k hk)
  · rw [hup 2 (by omega)]; exact h.sU
  · rw [hup 3 (by omega)]; exact h.hP.frame (hb' 3 (by omega))
  · rw [hup 4 (by omega)]; exact h.sK
  · rw [hup 5 (by omega)]; exact h.sT
  · rw [hup 6 (by omega)]; exact h.sZ
  · by_cases hj : j = i
    · subst hj
      rw [List.getElem?_set_self hil] at h1
      injection h1 with h1
      rw [hN] at h2
      injection h2 with h2
      subst h1; subst h2
      rw [upd_same]; exact hn
    · rw [List.getElem?_set_ne (fun e => hj e.symm)] at h1
      rw [hup (7 + j) (by omega)]; exact (h.nd j n2 N2 h1 h2).frame hs.t.size (hb' (7 + j) (by omega))
theorem KIs.keep0 (h : KIs W p C s m x q nodes l nx clock) {i : Nat} (ht : Turned (fun k => p 0 k ∨ p i k) W W') : ∀ j, j ≠ 0 → j ≠ i → ∀ k, p j k → W'.heap[k]? = W.heap[k]? := fun j h0 hi k hk =>
  ht.block k (h.pts.lt j k hk) fun e => by
    rcases e with e | e
    · exact h.pts.dj j 0 h0 k hk e
    · exact h.pts.dj j i hi k hk e
theorem KIs.uni_of (_h : KIs W p C s m x q nodes l nx clock) {i : Nat} {S' : Nat → Prop} (ht : Turned (fun k => p 0 k ∨ p i k) W W') (hp : Pts (upd p i S') W') (hn : ∀ k, S' k → p i k ∨ W.heap.size ≤ k) : Step (uni p) W W' (uni (upd p i S')) := by
  refine ⟨ht.wide fun k hk _ => ?_, ?_, fun k hk => hp.uni_lt k hk⟩
  · rcases hk with hk | hk
    · exact ⟨0, hk⟩
    · exact ⟨i, hk⟩
  · rintro k ⟨j, hj⟩
    by_cases hji : j = i
    · subst hji
      rw [upd_same] at hj
      exact (hn k hj).imp (fun h => ⟨j, h⟩) id
    · rw [upd_other p _ hji] at hj
      exact .inl ⟨j, hj⟩
theorem KIs.told (h : KIs W p C s m x q nodes l nx clock) {T' : Option Addr} {tc' : Nat} {told' : List Td} (ht : Turned (fun k => p 0 k ∨ p 5 k) W W') (hC : W'.heap[C]? = some (.cells (kcells { q with T := T', tc := tc', told := told' } (nodes.map (·.up)) clock) 88))
    (hT : OwnT tdcells 52 8 W' 0 T' tc' told') (hn : ∀ k, blk T' = some k → p 5 k ∨ W.heap.size ≤ k) : KIs W' (upd p 5 (fun k => blk T' = some k)) C s m x { q with T := T', tc := tc', told := told' } nodes l nx clock := by
  have hb' := h.keep0 ht
  have hup : ∀ j, j ≠ 5 → upd p 5 (fun k => blk T' = some k) j = p j := fun j hj => upd_other p _ hj
  refine ⟨h.pts.upd_of ht.size hn (fun k hk => (hT.lt k hk).2), ?_, hC, h.hA.of_block fun k hk => hb' 1 (by omega) (by omega) k (h.sA k hk), ?_, h.hU.of_block fun k hk => hb' 2 (by omega) (by omega) k (h.sU k hk), ?_, ?_, h.hK.of_block fun k hk => hb' 4 (by omega) (by omega) k (h.sK k hk), ?_,
    hT, ?_, h.hZ.of_block fun k hk => hb' 6 (by omega) (by omega) k (h.sZ k hk), ?_, h.len, fun i n N h1 h2 => ?_⟩
  · rw [hup 0 (by omega)]; exact h.c0
  · rw [hup 1 (by omega)]; exact h.sA
  · rw [hup 2 (by omega)]; exact h.sU
  · rw [hup 3 (by omega)]; exact h.hP.frame (hb' 3 (by omega) (by omega))
  · rw [hup 4 (by omega)]; exact h.sK
  · rw [upd_same]; exact fun k hk => hk
  · rw [hup 6 (by omega)]; exact h.sZ
  · rw [hup (7 + i) (by omega)]; exact (h.nd i n N h1 h2).frame ht.size (hb' (7 + i) (by omega) (by omega))
theorem KIs.seen (h : KIs W p C s m x q nodes l nx clock) {Z' : Option Addr} {zc' : Nat} {seen' : List (Nat × Vt)} (ht : Turned (fun k => p 0 k ∨ p 6 k) W W') (hC : W'.heap[C]? = some (.cells (kcells { q with Z := Z', zc := zc', seen := seen' } (nodes.map (·.up)) clock) 88))
    (hZ : OwnT secells 64 6 W' 0 Z' zc' seen') (hn : ∀ k, blk Z' = some k → p 6 k ∨ W.heap.size ≤ k) : KIs W' (upd p 6 (fun k => blk Z' = some k)) C s m x { q with Z := Z', zc := zc', seen := seen' } nodes l nx clock := by
  have hb' := h.keep0 ht
  have hup : ∀ j, j ≠ 6 → upd p 6 (fun k => blk Z' = some k) j = p j := fun j hj => upd_other p _ hj
  refine ⟨h.pts.upd_of ht.size hn (fun k hk => (hZ.lt k hk).2), ?_, hC, h.hA.of_block fun k hk => hb' 1 (by omega) (by omega) k (h.sA k hk), ?_, h.hU.of_block fun k hk => hb' 2 (by omega) (by omega) k (h.sU k hk), ?_, ?_, h.hK.of_block fun k hk => hb' 4 (by omega) (by omega) k (h.sK k hk), ?_,
    h.hT.of_block fun k hk => hb' 5 (by omega) (by omega) k (h.sT k hk), ?_, hZ, ?_, h.len, fun i n N h1 h2 => ?_⟩
  · rw [hup 0 (by omega)]; exact h.c0
  · rw [hup 1 (by omega)]; exact h.sA
  · rw [hup 2 (by omega)]; exact h.sU
  · rw [hup 3 (by omega)]; exact h.hP.frame (hb' 3 (by omega) (by omega))
  · rw [hup 4 (by omega)]; exact h.sK
  · rw [hup 5 (by omega)]; exact h.sT
  · rw [upd_same]; exact fun k hk => hk
  · rw [hup (7 + i) (by omega)]; exact (h.nd i n N h1 h2).frame ht.size (hb' (7 + i) (by omega) (by omega))
theorem KIs.ask (h : KIs W p C s m x q nodes l nx clock) {K' : Option Addr} {kc' : Nat} {asked' : List (Nat × Cm)} (ht : Turned (fun k => p 0 k ∨ p 4 k) W W') (hC : W'.heap[C]? = some (.cells (kcells { q with K := K', kc := kc', asked := asked' } (nodes.map (·.up)) clock) 88))
    (hK : OwnT akcells 126 11 W' 0 K' kc' asked') (hn : ∀ k, blk K' = some k → p 4 k ∨ W.heap.size ≤ k) : KIs W' (upd p 4 (fun k => blk K' = some k)) C s m x { q with K := K', kc := kc', asked := asked' } nodes l nx clock := by
  have hb' := h.keep0 ht
  have hup : ∀ j, j ≠ 4 → upd p 4 (fun k => blk K' = some k) j = p j := fun j hj => upd_other p _ hj
  refine ⟨h.pts.upd_of ht.size hn (fun k hk => (hK.lt k hk).2), ?_, hC, h.hA.of_block fun k hk => hb' 1 (by omega) (by omega) k (h.sA k hk), ?_, h.hU.of_block fun k hk => hb' 2 (by omega) (by omega) k (h.sU k hk), ?_, ?_, hK, ?_,
    h.hT.of_block fun k hk => hb' 5 (by omega) (by omega) k (h.sT k hk), ?_, h.hZ.of_block fun k hk => hb' 6 (by omega) (by omega) k (h.sZ k hk), ?_, h.len, fun i n N h1 h2 => ?_⟩
  · rw [hup 0 (by omega)]; exact h.c0
  · rw [hup 1 (by omega)]; exact h.sA
  · rw [hup 2 (by omega)]; exact h.sU
  · rw [hup 3 (by omega)]; exact h.hP.frame (hb' 3 (by omega) (by omega))
  · rw [upd_same]; exact fun k hk => hk
  · rw [hup 5 (by omega)]; exact h.sT
  · rw [hup 6 (by omega)]; exact h.sZ
  · rw [hup (7 + i) (by omega)]; exact (h.nd i n N h1 h2).frame ht.size (hb' (7 + i) (by omega) (by omega))
theorem KIs.ups (h : KIs W p C s m x q nodes l nx clock) {nodes' : List Mdl.Nm} (ht : Turned (p 2) W W') (hU : OwnT bcell 4 1 W' 0 q.U q.uc (nodes'.map (·.up))) (hl : nodes'.length = nodes.length) (hsame : ∀ (i : Nat) (n' : Mdl.Nm), nodes'[i]? = some n' → ∃ n : Mdl.Nm, nodes[i]? = some n ∧ n' = { n with up := n'.up }) : KIs W' p C s m x q nodes' l nx clock := by
  have hb' : ∀ j, j ≠ 2 → ∀ k, p j k → W'.heap[k]? = W.heap[k]? := fun j hj => ht.keeps (h.pts.dj j 2 hj) (h.pts.lt j)
  refine ⟨h.pts.wide ht.size, h.c0, ?_, h.hA.of_block fun k hk => hb' 1 (by omega) k (h.sA k hk), h.sA, hU, h.sU, h.hP.frame (hb' 3 (by omega)), h.hK.of_block fun k hk => hb' 4 (by omega) k (h.sK k hk), h.sK,
    h.hT.of_block fun k hk => hb' 5 (by omega) k (h.sT k hk), h.sT, h.hZ.of_block fun k hk => hb' 6 (by omega) k (h.sZ k hk), h.sZ, h.len.trans hl.symm, fun i n N h1 h2 => ?_⟩
  · have := (hb' 0 (by omega) C h.c0).trans h.hC
    unfold kcells at this ⊢
    rw [List.length_map] at this ⊢
    rw [hl]; exact this
  · obtain ⟨n0, hn0, he⟩ := hsame i n h1
    have h0 : NdAt W' (p (7 + i)) N s i m x n0 := (h.nd i n0 N hn0 h2).frame ht.size (hb' (7 + i) (by omega))
    rw [he]
    exact h0
theorem KIs.tick (h : KIs W p C s m x q nodes l nx clock) (n : Nat) : KIs (W.setCell ⟨C, 3, none⟩ (.int .i64 (n : Int))) p C s m x q nodes l nx n := by
  have hb' : ∀ j, j ≠ 0 → ∀ k, p j k → (W.setCell ⟨C, 3, none⟩ (.int .i64 (n : Int))).heap[k]? = W.heap[k]? := fun j hj k hk => heap_setCell_other _ _ _ _ (fun e => h.ne0 hj (by have e2 : k = C := e; rw [← e2]; exact hk))
  have hz : W.heap.size ≤ (W.setCell ⟨C, 3, none⟩ (.int .i64 (n : Int))).heap.size := by rw [World.size_setCell]; exact Nat.le_refl _
  exact ⟨h.pts.wide hz, h.c0, heap_setCell_same W C 3 _ _ _ h.hC, h.hA.of_block fun k hk => hb' 1 (by omega) k (h.sA k hk), h.sA, h.hU.of_block fun k hk => hb' 2 (by omega) k (h.sU k hk), h.sU, h.hP.frame (hb' 3 (by omega)), h.hK.of_block fun k hk => hb' 4 (by omega) k (h.sK k hk), h.sK,
    h.hT.of_block fun k hk => hb' 5 (by omega) k (h.sT k hk), h.sT, h.hZ.of_block fun k hk => hb' 6 (by omega) k (h.sZ k hk), h.sZ, h.len, fun i n2 N h1 h2 => (h.nd i n2 N h1 h2).frame hz (hb' (7 + i) (by omega))⟩
end
def TdR (x : Cm) (told : List Td) (kt : List (Nat × Nat)) : Prop := told.map (fun t => (t.at_, t.a.slot, t.a.seq, t.a.r.e)) = kt.map (fun y => (y.1, (y.2 : Int), (cmdAt x y.2).seq, (0 : Int)))
structure KOk (x : Cm) (q : Kc) (l : List Pk) (k : Mdl.Km) : Prop where
  pool : l.map absP = k.pool
  msgs : ∀ y ∈ l, MgOk y.m ∧ y.due ≤ k.clock ∧ y.no < k.nx
  len : l.length ≤ 400
  nx : k.nx ≤ 900000
  clock : k.clock < 900000
  asked : q.asked.length ≤ k.clock
  seen : q.seen.length ≤ 8 * k.clock
  told : TdR x q.told k.told
  toldl : q.told.length ≤ k.clock
def KAt (W : World) (S : Nat → Prop) (C : Nat) (s : Shp) (m : Nat) (x : Cm) (k : Mdl.Km) : Prop := ∃ p q l, KIs W p C s m x q k.nodes l k.nx k.clock ∧ (∀ j, uni p j → S j) ∧ KOk x q l k ∧ k.nodes.length = s.n
def KPost (W : World) (S : Nat → Prop) (C : Nat) (s : Shp) (m : Nat) (x : Cm) (k' : Mdl.Km) (e : Ending) (W' : World) : Prop := e = .returned (.tuple #[]) ∧ ∃ S', KAt W' S' C s m x k' ∧ Step S W W' S'
theorem KAt.frame {W W' : World} {S : Nat → Prop} {C : Nat} {s : Shp} {m : Nat} {x : Cm} {k : Mdl.Km} (h : KAt W S C s m x k) (hz : W.heap.size ≤ W'.heap.size) (hb : ∀ j, S j → W'.heap[j]? = W.heap[j]?) : KAt W' S C s m x k := by
  obtain ⟨p, q, l, hK, hp, h⟩ := h
  exact ⟨p, q, l, hK.frame hz fun j hj => hb j (hp j hj), hp, h⟩
theorem cdo_of (C clock : Nat) (hc : clock < 1000000) (x : Sp) (hk : x.kind = 1 ∨ x.kind = 2 ∨ x.kind = 5 ∨ x.kind = 6 ∨ x.kind = 7 ∨ x.kind = 8) (Q : World → World → Prop) (W : World)
    (HD : ∀ w, Below W.heap.size W w → Calls Tryz.prog (stepF x.kind) #[.pointer (some ⟨C, 0, none⟩), spv x] w fun e w' => e = .returned (.tuple #[]) ∧ w'.cell? ⟨C, 3, none⟩ = some (.int .i64 (clock : Int)) ∧ w'.frozen? ⟨C, 3, none⟩ = false ∧ Q w w') :
    Calls Tryz.prog 12 #[.pointer (some ⟨C, 0, none⟩), spv x] W fun e W' => e = .returned (.tuple #[]) ∧ ∃ w1 w2, Below W.heap.size W w1 ∧ Q w1 w2 ∧ W' = w2.setCell ⟨C, 3, none⟩ (.int .i64 ((clock + 1 : Nat) : Int)) := by
  rcases hk with h | h | h | h | h | h
  · exact cdo_1_of C clock hc x h Q W HD
  · exact cdo_2_of C clock hc x h Q W HD
  · exact cdo_5_of C clock hc x h Q W HD
  · exact cdo_6_of C clock hc x h Q W HD
  · exact cdo_7_of C clock hc x h Q W HD
  · exact cdo_8_of C clock hc x h Q W HD
theorem kdo (s : Shp) (m : Nat) (x : Cm) (C : Nat) (y : Sp) (hy : y.kind = 1 ∨ y.kind = 2 ∨ y.kind = 5 ∨ y.kind = 6 ∨ y.kind = 7 ∨ y.kind = 8) (k k' : Mdl.Km) (hck : k'.clock = k.clock + 1) (hn : k'.nodes.length = k.nodes.length) (W : World) (S : Nat → Prop) (h : KAt W S C s m x k)
    (HD : ∀ p q l w, KIs w p C s m x q k.nodes l k.nx k.clock → KOk x q l k → Calls Tryz.prog (stepF y.kind) #[.pointer (some ⟨C, 0, none⟩), spv y] w fun e w' => e = .returned (.tuple #[]) ∧ ∃ p' q' l', KIs w' p' C s m x q' k'.nodes l' k'.nx k.clock ∧ Step (uni p) w w' (uni p') ∧ KOk x q' l' k') :
    Calls Tryz.prog 12 #[.pointer (some ⟨C, 0, none⟩), spv y] W fun e W' => KPost W S C s m x k' e W' := by
  obtain ⟨p, q, l, hK, hpS, hok, hkn⟩ := h
  refine (cdo_of C k.clock (by have := hok.clock; omega) y hy (fun w w' => ∃ p' q' l', KIs w' p' C s m x q' k'.nodes l' k'.nx k.clock ∧ Step (uni p) w w' (uni p') ∧ KOk x q' l' k') W (fun w hb => ?_)).mono ?_
  · refine (HD p q l w (hK.below hb) hok).mono ?_
    rintro e w' ⟨rfl, p', q', l', hK', hst, hok'⟩
    exact ⟨rfl, cob hK'.hC 3 rfl, by simp [World.frozen?, hK'.hC], p', q', l', hK', hst, hok'⟩
  · rintro e W' ⟨rfl, w1, w2, hb, ⟨p', q', l', hK', hst, hok'⟩, rfl⟩
    refine ⟨rfl, uni p', ⟨p', q', l', ?_, fun j hj => hj, hok', hn.trans hkn⟩, ?_, fun j hj => ?_, ?_⟩
    · rw [hck]; exact hK'.tick _
    · have hC' : S C ∨ W.heap.size ≤ C := .inl (hpS C ⟨0, hK.c0⟩)
      exact (((Turned.of_below hb).trans (hst.t.wide fun j hj _ => hpS j hj))).setCell (p := ⟨C, 3, none⟩) hC' _
    · rcases hst.sub j hj with h | h
      · exact .inl (hpS j h)
      · exact .inr (Nat.le_trans hb.size h)
    · intro j hj
      rw [World.size_setCell]; exact hst.lt j hj
theorem okK_some {k k' : Mdl.Km} (h : Mdl.okK k = some k') : k' = k ∧ k.pool.length ≤ 400 ∧ k.nx ≤ 900000 ∧ k.clock < 900000 := by
  unfold Mdl.okK at h
  split at h
  · rename_i hc
    rw [Bool.and_eq_true, Bool.and_eq_true, Nat.blt_eq] at hc
    injection h with h
    exact ⟨h.symm, Nat.le_of_ble_eq_true hc.1.1, Nat.le_of_ble_eq_true hc.1.2, hc.2⟩
  · cases h
theorem sendK_eq : ∀ (L : List Mg) (k : Mdl.Km), Mdl.sendK k (L.map absM) = { k with pool := k.pool ++ (sentT k.clock k.nx L).map absP, nx := k.nx + L.length }
  | [], k => by simp [Mdl.sendK, sentT]
  | m :: t, k => by
    rw [List.map_cons, Mdl.sendK, sendK_eq t, sentT, List.map_cons, List.length_cons, List.append_assoc]
    simp only [List.singleton_append, absP]
    rw [show k.nx + 1 + t.length = k.nx + (t.length + 1) by omega]
theorem sendK_nodes : ∀ (L : List Am) (k : Mdl.Km), (Mdl.sendK k L).nodes = k.nodes
  | [], _ => rfl
  | _ :: t, k => by rw [Mdl.sendK, sendK_nodes t]
theorem sendK_len : ∀ (L : List Am) (k : Mdl.Km), (Mdl.sendK k L).pool.length = k.pool.length + L.length ∧ (Mdl.sendK k L).nx = k.nx + L.length
  | [], _ => ⟨rfl, rfl⟩
  | m :: t, k => by
    rw [Mdl.sendK]
    obtain ⟨h1, h2⟩ := sendK_len t { k with pool := k.pool ++ [⟨m, k.clock, k.nx⟩], nx := k.nx + 1 }
    rw [h1, h2]
    simp only [List.length_append, List.length_cons, List.length_nil]
    omega
theorem KOk.make {x : Cm} {q : Kc} {l : List Pk} {k1 k' : Mdl.Km} (hpool : l.map absP = k1.pool) (hmsgs : ∀ y ∈ l, MgOk y.m ∧ y.due ≤ k1.clock ∧ y.no < k1.nx) (hasked : q.asked.length ≤ k1.clock + 1) (hseen : q.seen.length ≤ 8 * (k1.clock + 1)) (htold : TdR x q.told k1.told) (htl : q.told.length ≤ k1.clock + 1)
    {L : List Mg} (hL : ∀ m ∈ L, MgOk m) (hk : Mdl.okK { Mdl.sendK k1 (L.map absM) with clock := k1.clock + 1 } = some k') :
    k'.clock = k1.clock + 1 ∧ k'.nodes = k1.nodes ∧ k'.nx = k1.nx + L.length ∧ KOk x q (l ++ sentT k1.clock k1.nx L) k' ∧ l.length + L.length ≤ 400 ∧ k1.nx + L.length ≤ 900000 := by
  obtain ⟨rfl, h1, h2, h3⟩ := okK_some hk
  rw [sendK_eq] at h1 h2 h3 ⊢
  simp only [List.length_append, List.length_map, sentT_len, ← hpool] at h1 h2 h3
  refine ⟨rfl, rfl, rfl, ⟨?_, fun y hy => ?_, ?_, h2, h3, hasked, hseen, htold, htl⟩, by omega, h2⟩
  · simp only [List.map_append, hpool]
  · rcases List.mem_append.1 hy with hy | hy
    · obtain ⟨a, b, c⟩ := hmsgs y hy
      exact ⟨a, Nat.le_succ_of_le b, show y.no < k1.nx + L.length by omega⟩
    · obtain ⟨a, b, c, d⟩ := sentT_mem _ _ _ y hy
      exact ⟨hL _ d, show y.due ≤ k1.clock + 1 by omega, c⟩
  · rw [List.length_append, sentT_len]; omega
theorem KOk.sent {x : Cm} {q : Kc} {l : List Pk} {k k' : Mdl.Km} (h : KOk x q l k) {nodes' : List Mdl.Nm} {L : List Mg} (hL : ∀ m ∈ L, MgOk m) (hk : Mdl.okK { Mdl.sendK { k with nodes := nodes' } (L.map absM) with clock := k.clock + 1 } = some k') :
    k'.clock = k.clock + 1 ∧ k'.nodes = nodes' ∧ k'.nx = k.nx + L.length ∧ KOk x q (l ++ sentT k.clock k.nx L) k' ∧ l.length + L.length ≤ 400 ∧ k.nx + L.length ≤ 900000 :=
  KOk.make (k1 := { k with nodes := nodes' }) h.pool h.msgs (Nat.le_succ_of_le h.asked) (by have := h.seen; show q.seen.length ≤ 8 * (k.clock + 1); omega) h.told (Nat.le_succ_of_le h.toldl) hL hk
section
variable {W W' : World} {p : Nat → Nat → Prop} {C : Nat} {s : Shp} {m : Nat} {x : Cm} {q : Kc} {nodes : List Mdl.Nm} {l : List Pk} {nx clock : Nat}
theorem KIs.ndAt (h : KIs W p C s m x q nodes l nx clock) {i : Nat} {n : Mdl.Nm} (hi : nodes[i]? = some n) : ∃ N, q.nds[i]? = some N ∧ NdAt W (p (7 + i)) N s i m x n := by
  obtain ⟨hl, _⟩ := List.getElem?_eq_some_iff.1 hi
  have hl2 : i < q.nds.length := by rw [h.len]; exact hl
  exact ⟨q.nds[i], List.getElem?_eq_getElem hl2, h.nd i n _ hi (List.getElem?_eq_getElem hl2)⟩
theorem KIs.upAt (_h : KIs W p C s m x q nodes l nx clock) {i : Nat} {n : Mdl.Nm} (hi : nodes[i]? = some n) : (nodes.map (·.up))[i]? = some n.up := by
  rw [List.getElem?_map, hi]; rfl
theorem KIs.said (h : KIs W p C s m x q nodes l nx clock) {i : Nat} {n n' : Mdl.Nm} {N : Nat} {S1 S2 : Nat → Prop} {l' : List Pk} {nx' : Nat} {w1 w2 : World} (hi : nodes[i]? = some n) (hN : q.nds[i]? = some N) (hu : n'.up = n.up) (hb : Below W.heap.size W w1) (hs : Step (p (7 + i)) w1 w2 S1) (hn : NdAt w2 S1 N s i m x n') (hP : PlAt W' S2 q.G nx' l') (hs2 : Step (p 3) w2 W' S2) :
    ∃ p', KIs W' p' C s m x q (nodes.set i n') l' nx' clock ∧ Step (uni p) W W' (uni p') := by
  have h1 := h.below hb
  have h2 := h1.node hi hN hu hs hn
  have hs3 : Step (upd p (7 + i) S1 3) w2 W' S2 := by rw [upd_other p S1 (by omega)]; exact hs2
  have h3 := h2.pool hs3 hP
  refine ⟨_, h3, ?_⟩
  have t1 := (h1.pts.uni_step hs).trans (h2.pts.uni_step hs3)
  exact ⟨(Turned.of_below hb).trans t1.t, fun k hk => (t1.sub k hk).imp id (fun h => Nat.le_trans hb.size h), t1.lt⟩
end
theorem stepF5 : stepF 5 = 35 := rfl
theorem stepF6 : stepF 6 = 36 := rfl
theorem stepF7 : stepF 7 = 37 := rfl
theorem stepF8 : stepF 8 = 38 := rfl
theorem kstand (s : Shp) (hs : s.Ok) (m : Nat) (hm : 5000 ≤ m) (x : Cm) (C i : Nat) (hi : i < s.n) (y : Sp) (hy : y.kind = 5) (hyn : y.node = (i : Int)) (k k' : Mdl.Km) (hk : Mdl.standK s.n i k = some k') (W : World) (S : Nat → Prop) (h : KAt W S C s m x k) :
    Calls Tryz.prog 12 #[.pointer (some ⟨C, 0, none⟩), spv y] W fun e W' => KPost W S C s m x k' e W' := by
  unfold Mdl.standK at hk
  cases hn : k.nodes[i]? with
  | none => rw [hn] at hk; cases hk
  | some nd =>
    rw [hn] at hk
    simp only [] at hk
    split at hk
    · rename_i hc
      rw [Bool.and_eq_true, Bool.and_eq_true] at hc
      obtain ⟨⟨c1, c2⟩, c3⟩ := hc
      have hl0 : nd.ld = none := Option.isNone_iff_eq_none.1 c2
      have hr0 : nd.nrec = 0 := Nat.eq_of_beq_eq_true c3
      obtain ⟨hke, _⟩ := okK_some hk
      have hck : k'.clock = k.clock + 1 := by rw [hke]
      have key : ∀ L : List Mg, L.map absM = (List.range s.n).map (fun j => (⟨1, i, j, nextB i, 0, 0, 0, 0⟩ : Am)) → Mdl.okK { Mdl.sendK { k with nodes := k.nodes.set i { nd with prom := nextB i, nrec := nd.nrec + 1, ld := some ⟨nextB i, [], [], false⟩, app := 0, waits := [] } } (L.map absM) with clock := k.clock + 1 } = some k' := fun L hL => by
        rw [hL]; exact hk
      have hkn : k'.nodes.length = k.nodes.length := by
        rw [hke]
        show (Mdl.sendK _ _).nodes.length = _
        rw [sendK_nodes, List.length_set]
      refine kdo s m x C y (.inr (.inr (.inl hy))) k k' hck hkn W S h (fun p q l w hK hok => ?_)
      obtain ⟨N, hN, hnd⟩ := hK.ndAt hn
      have hup := hK.upAt hn
      rw [c1] at hup
      rw [hy, stepF5]
      refine (cstand_of C _ _ _ q.U q.A q.uc q.ac 0 0 (k.nodes.map (·.up)) q.nds i N hup hN y hyn k.clock (by have := hok.clock; omega) (p 3) (p (7 + i)) q.G k.nx l (fun a ha => (hok.msgs a ha).2) w hK.hC hK.hU hK.hA hK.hP (hK.pts.lt 3) (hK.ne0 (by omega)) (hK.pts.lt _) (hK.ne0 (by omega))
        (fun a ha => fun e => hK.pts.dj 1 (7 + i) (by omega) a (hK.sA a ha) e) (fun a ha e => hK.pts.dj (7 + i) 3 (by omega) a ha e) (fun a ha e => hK.pts.dj 1 3 (by omega) a (hK.sA a ha) e)
        (fun w1 L w2 => L.map absM = (List.range s.n).map (fun j => (⟨1, i, j, nextB i, 0, 0, 0, 0⟩ : Am)) ∧ (∀ m ∈ L, MgOk m) ∧ ∃ S1, NdAt w2 S1 N s i m x { nd with prom := nextB i, nrec := nd.nrec + 1, ld := some ⟨nextB i, [], [], false⟩, app := 0, waits := [] } ∧ Step (p (7 + i)) w1 w2 S1)
        (fun w1 hb1 => ?_)).mono ?_
      · refine (ndstand s hs x i hi m hm nd hl0 hr0 w1 (p (7 + i)) N (hnd.below (hK.pts.lt _) hb1)).mono ?_
        rintro e w2 ⟨L, A, c, S1, hL, hLk, rfl, hO, hnd2, hst⟩
        obtain ⟨_, _, _, _, b1, b2⟩ := hok.sent hLk (key L hL)
        exact ⟨L, A, c, rfl, hO, b1, b2, hst.t, hL, hLk, S1, hnd2, hst⟩
      · rintro e w' ⟨rfl, L, S2, w1, w2, hb1, ⟨hL, hLk, S1, hnd2, hst⟩, ht, hP, hst2⟩
        obtain ⟨_, a2, a3, a4, _, _⟩ := hok.sent hLk (key L hL)
        obtain ⟨p', hK', hst'⟩ := hK.said hn hN (n' := { nd with prom := nextB i, nrec := nd.nrec + 1, ld := some ⟨nextB i, [], [], false⟩, app := 0, waits := [] }) rfl hb1 hst hnd2 hP hst2
        rw [← a2, ← a3] at hK'
        exact ⟨rfl, p', q, _, hK', hst', a4⟩
    · cases hk
theorem ktick (s : Shp) (hs : s.Ok) (m : Nat) (x : Cm) (C i : Nat) (hi : i < s.n) (y : Sp) (hy : y.kind = 6) (hyn : y.node = (i : Int)) (k k' : Mdl.Km) (hk : Mdl.tickK s.q s.n i k = some k') (W : World) (S : Nat → Prop) (h : KAt W S C s m x k) :
    Calls Tryz.prog 12 #[.pointer (some ⟨C, 0, none⟩), spv y] W fun e W' => KPost W S C s m x k' e W' := by
  unfold Mdl.tickK at hk
  cases hn : k.nodes[i]? with
  | none => rw [hn] at hk; cases hk
  | some nd =>
    rw [hn] at hk
    simp only [] at hk
    cases hld : nd.ld with
    | none => rw [hld] at hk; cases hk
    | some lm =>
      rw [hld] at hk
      simp only [] at hk
      split at hk
      · rename_i hc
        rw [Bool.and_eq_true] at hc
        obtain ⟨c1, c2⟩ := hc
        have hset : k.nodes.set i nd = k.nodes := by
          obtain ⟨hl, he⟩ := List.getElem?_eq_some_iff.1 hn
          rw [← he, List.set_getElem_self]
        obtain ⟨hke, _⟩ := okK_some hk
        have hck : k'.clock = k.clock + 1 := by rw [hke]
        have key : ∀ L : List Mg, L.map absM = Mdl.againK s.q s.n i lm.b 0 lm.es → Mdl.okK { Mdl.sendK { k with nodes := k.nodes } (L.map absM) with clock := k.clock + 1 } = some k' := fun L hL => by
          rw [hL]; exact hk
        have hkn : k'.nodes = k.nodes := by
          rw [hke]
          exact sendK_nodes _ _
        refine kdo s m x C y (.inr (.inr (.inr (.inl hy)))) k k' hck (by rw [hkn]) W S h (fun p q l w hK hok => ?_)
        obtain ⟨N, hN, hnd⟩ := hK.ndAt hn
        have hup := hK.upAt hn
        rw [c1] at hup
        rw [hy, stepF6]
        refine (ctick_of C _ _ _ q.U q.A q.uc q.ac 0 0 (k.nodes.map (·.up)) q.nds i N hup hN y hyn k.clock (by have := hok.clock; omega) (p 3) (p (7 + i)) q.G k.nx l (fun a ha => (hok.msgs a ha).2) w hK.hC hK.hU hK.hA hK.hP (hK.pts.lt 3) (hK.ne0 (by omega)) (hK.pts.lt _) (hK.ne0 (by omega))
          (fun a ha => fun e => hK.pts.dj 1 (7 + i) (by omega) a (hK.sA a ha) e) (fun a ha e => hK.pts.dj (7 + i) 3 (by omega) a ha e) (fun a ha e => hK.pts.dj 1 3 (by omega) a (hK.sA a ha) e)
          (fun w1 L w2 => L.map absM = Mdl.againK s.q s.n i lm.b 0 lm.es ∧ (∀ m ∈ L, MgOk m) ∧ ∃ S1, NdAt w2 S1 N s i m x nd ∧ Step (p (7 + i)) w1 w2 S1)
          (fun w1 hb1 => ?_)).mono ?_
        · have hnd1 := hnd.below (hK.pts.lt _) hb1
          have hlt1 : Lt (p (7 + i)) w1 := (hK.pts.lt _).wide hb1.size
          refine (ndtick s hs x i hi m nd lm hld c2 y.full w1 (p (7 + i)) N hnd1).mono ?_
          rintro e w2 ⟨L, A, c, hL, hLk, rfl, hO, hb2⟩
          obtain ⟨_, _, _, _, b1, b2⟩ := hok.sent hLk (key L hL)
          exact ⟨L, A, c, rfl, hO, b1, b2, Turned.of_below hb2, hL, hLk, p (7 + i), hnd1.below hlt1 hb2, Step.of_turned (Turned.of_below hb2) hlt1⟩
        · rintro e w' ⟨rfl, L, S2, w1, w2, hb1, ⟨hL, hLk, S1, hnd2, hst⟩, ht, hP, hst2⟩
          obtain ⟨_, a2, a3, a4, _, _⟩ := hok.sent hLk (key L hL)
          obtain ⟨p', hK', hst'⟩ := hK.said hn hN rfl hb1 hst hnd2 hP hst2
          rw [hset, ← a2, ← a3] at hK'
          exact ⟨rfl, p', q, _, hK', hst', a4⟩
      · cases hk
theorem KOk.on {x : Cm} {q : Kc} {l : List Pk} {k k' : Mdl.Km} (h : KOk x q l k) {nodes' : List Mdl.Nm} (hk : Mdl.okK { k with nodes := nodes', clock := k.clock + 1 } = some k') : k'.clock = k.clock + 1 ∧ k'.nodes = nodes' ∧ k'.nx = k.nx ∧ KOk x q l k' := by
  obtain ⟨rfl, h1, h2, h3⟩ := okK_some hk
  refine ⟨rfl, rfl, rfl, h.pool, fun y hy => ?_, h.len, h2, h3, Nat.le_succ_of_le h.asked, ?_, h.told, Nat.le_succ_of_le h.toldl⟩
  · obtain ⟨a, b, c⟩ := h.msgs y hy
    exact ⟨a, Nat.le_succ_of_le b, c⟩
  · have := h.seen
    show q.seen.length ≤ 8 * (k.clock + 1)
    omega
theorem kcrash (s : Shp) (m : Nat) (x : Cm) (C i : Nat) (y : Sp) (hy : y.kind = 7) (hyn : y.node = (i : Int)) (k k' : Mdl.Km) (hk : Mdl.crashK i k = some k') (W : World) (S : Nat → Prop) (h : KAt W S C s m x k) :
    Calls Tryz.prog 12 #[.pointer (some ⟨C, 0, none⟩), spv y] W fun e W' => KPost W S C s m x k' e W' := by
  unfold Mdl.crashK at hk
  cases hn : k.nodes[i]? with
  | none => rw [hn] at hk; cases hk
  | some nd =>
    rw [hn] at hk
    simp only [] at hk
    split at hk
    · rename_i hc
      rw [Bool.and_eq_true, Nat.blt_eq] at hc
      obtain ⟨c1, c2⟩ := hc
      obtain ⟨hke, _⟩ := okK_some hk
      have hck : k'.clock = k.clock + 1 := by rw [hke]
      have hkn : k'.nodes.length = k.nodes.length := by rw [hke]; simp
      refine kdo s m x C y (.inr (.inr (.inr (.inr (.inl hy))))) k k' hck hkn W S h (fun p q l w hK hok => ?_)
      obtain ⟨N, hN, D, rs, ld, cl, dn, hnd, hlog, hprom, hvs, hrec, hld, hcl⟩ := hK.ndAt hn
      have hup := hK.upAt hn
      rw [c1] at hup
      rw [hy, stepF7]
      obtain ⟨hil, hie⟩ := List.getElem?_eq_some_iff.1 hn
      refine (ccrash_any _ (treeR_framed x _) C _ _ _ _ _ q.U q.A q.uc q.ac 0 0 (k.nodes.map (·.up)) q.nds i N hup hN y hyn (p (7 + i)) s i D m rs (fun e => by rw [e] at hrec; simp at hrec; omega) ld nd.app cl _ dn w hK.hC hK.hU hK.hA hnd (hK.pts.lt _) (hK.ne0 (by omega))
        (fun a ha => fun e => hK.pts.dj 1 (7 + i) (by omega) a (hK.sA a ha) e) (fun a ha => fun e => hK.pts.dj 2 (7 + i) (by omega) a (hK.sU a ha) e) (fun e => hK.ne0 (i := 2) (by omega) (hK.sU C e))).mono ?_
      rintro e w' ⟨rfl, S', w2, hnd2, hst, hU, hg, hz⟩
      have hnd3 : NdAt w2 S' N s i m x { nd with ld := none, app := 0, waits := [] } := ⟨D, rs, none, [], [], hnd2, hlog, hprom, hvs, hrec, trivial, rfl⟩
      have h2 := hK.node (n' := { nd with ld := none, app := 0, waits := [] }) hn hN rfl hst hnd3
      have ht2 : Turned (upd p (7 + i) S' 2) w2 w' := (Turned.refl _ w2).grown hg fun a ha => .inl (by rw [upd_other p S' (by omega)]; exact hK.sU a ha)
      have h3 := h2.ups (nodes' := k.nodes.set i { nd with up := false, ld := none, app := 0, waits := [] }) ht2 (by rw [List.map_set]; exact hU) (by simp) (fun j n' hj => by
        by_cases hji : j = i
        · subst hji
          rw [List.getElem?_set_self hil] at hj ⊢
          injection hj with hj
          exact ⟨_, rfl, by rw [← hj]⟩
        · rw [List.getElem?_set_ne (fun e => hji e.symm)] at hj ⊢
          exact ⟨n', hj, rfl⟩)
      obtain ⟨a1, a2, a3, a4⟩ := hok.on hk
      rw [← a2, ← a3] at h3
      refine ⟨rfl, _, q, l, h3, ?_, a4⟩
      exact (hK.pts.uni_step hst).trans ⟨ht2.wide fun a ha _ => ⟨2, ha⟩, fun a ha => .inl ha, fun a ha => Nat.lt_of_lt_of_le (h2.pts.uni_lt a ha) ht2.size⟩
    · cases hk
theorem krise (s : Shp) (m : Nat) (x : Cm) (C i : Nat) (y : Sp) (hy : y.kind = 8) (hyn : y.node = (i : Int)) (k k' : Mdl.Km) (hk : Mdl.upK i k = some k') (W : World) (S : Nat → Prop) (h : KAt W S C s m x k) :
    Calls Tryz.prog 12 #[.pointer (some ⟨C, 0, none⟩), spv y] W fun e W' => KPost W S C s m x k' e W' := by
  unfold Mdl.upK at hk
  cases hn : k.nodes[i]? with
  | none => rw [hn] at hk; cases hk
  | some nd =>
    rw [hn] at hk
    simp only [] at hk
    obtain ⟨hke, _⟩ := okK_some hk
    have hck : k'.clock = k.clock + 1 := by rw [hke]
    have hkn : k'.nodes.length = k.nodes.length := by rw [hke]; simp
    refine kdo s m x C y (.inr (.inr (.inr (.inr (.inr hy))))) k k' hck hkn W S h (fun p q l w hK hok => ?_)
    obtain ⟨hil, hie⟩ := List.getElem?_eq_some_iff.1 hn
    rw [hy, stepF8]
    refine (rise_any C _ _ _ _ _ _ q.U q.uc 0 (k.nodes.map (fun z : Mdl.Nm => z.up)) i y hyn (by rw [List.length_map]; exact hil) w hK.hC hK.hU (fun e => hK.ne0 (i := 2) (by omega) (hK.sU C e))).mono ?_
    rintro e w' ⟨rfl, hU, ht⟩
    have ht2 : Turned (p 2) w w' := ht.wide fun a ha _ => hK.sU a ha
    have h3 := hK.ups (nodes' := k.nodes.set i { nd with up := true }) ht2 (by rw [List.map_set]; exact hU) (by simp) (fun j n' hj => by
      by_cases hji : j = i
      · subst hji
        rw [List.getElem?_set_self hil] at hj
        injection hj with hj
        exact ⟨nd, hn, by rw [← hj]⟩
      · rw [List.getElem?_set_ne (fun e => hji e.symm)] at hj
        exact ⟨n', hj, rfl⟩)
    obtain ⟨a1, a2, a3, a4⟩ := hok.on hk
    rw [← a2, ← a3] at h3
    exact ⟨rfl, p, q, l, h3, ⟨ht2.wide fun a ha _ => ⟨2, ha⟩, fun a ha => .inl ha, fun a ha => Nat.lt_of_lt_of_le (hK.pts.uni_lt a ha) ht2.size⟩, a4⟩
theorem setCell_keep {w : World} {g j : Nat} {v : Value} {cs : Array Value} {ty : TypeId} (hh : w.heap[g]? = some (.cells cs ty)) (hc : cs[j]? = some v) (k : Nat) : (w.setCell ⟨g, j, none⟩ v).heap[k]? = w.heap[k]? := by
  by_cases hk : k = g
  · subst hk
    have h1 := heap_setCell_same w k j cs ty v hh
    rw [h1, hh]
    congr 2
    apply Array.ext_getElem?
    intro i
    obtain ⟨hj, hv⟩ := Array.getElem?_eq_some_iff.1 hc
    by_cases hi : i = j
    · subst hi
      rw [hc]; simp [hj]
    · simp [Ne.symm hi]
  · exact heap_setCell_other _ _ _ _ hk
theorem clonet_any (told : List Td) (ht : told.length ≤ 1000000) (A : Option Addr) (tc base : Nat) (W : World) (hO : OwnT tdcells 52 8 W base A tc told) :
    Calls Tryz.prog 41 #[.slice A told.length tc] W fun e W' => ∃ A' c', e = .returned (.slice A' told.length c') ∧ OwnT tdcells 52 8 W' W.heap.size A' c' told ∧ Below W.heap.size W W' := by
  obtain ⟨i1, hi1, hy0, hy1, hy2⟩ := info_parts Tryz.infoTd
  have hcase : (A = none ∧ told = [] ∧ tc = 0) ∨ ∃ g, A = some ⟨g, 0, none⟩ := by
    rcases hO.2 with ⟨h1, h0⟩ | ⟨g, cap, cur, e1, _⟩
    · injection h1 with h1 _ h3
      exact .inl ⟨h1, List.eq_nil_of_length_eq_zero h0, h3⟩
    · injection e1 with e1
      exact .inr ⟨g, e1⟩
  rcases hcase with ⟨rfl, rfl, rfl⟩ | ⟨g, rfl⟩
  · have hq := fun w => Lib.run_eql_slice_nil (P := Tryz.prog) w 49 52 none 0 0 0 0 Tryz.underlying49
    clear hO
    simp only [List.length_nil]
    go_enter Tryz.func41, Tryz.ntmps41
    go_wp2
    go_ret
    exact ⟨none, 0, rfl, OwnT.nil _ _ _ _ _, Below.refl _ _⟩
  · have hq := fun w => Lib.run_eql_slice_nil (P := Tryz.prog) w 49 52 (some ⟨g, 0, none⟩) told.length tc 0 0 Tryz.underlying49
    have hgl := (hO.lt g (by simp [blk])).2
    have HOa := Lib.hid (fun (o : Obj) => (hO.of_block (w' := W.alloc o) fun k hk => by
      have e : g = k := by simpa [blk] using hk
      subst e; exact heap_alloc_old _ _ hgl : OwnT tdcells 52 8 (W.alloc o) base (some ⟨g, 0, none⟩) tc told))
    clear hO
    go_enter Tryz.func41, Tryz.ntmps41
    go_wp2_with (at_builtin; refine wpList_append_stl tdcells _ tdcells_one rfl _ _ _ rfl W.heap.size 52 i1 _ 8 88 tdcells_len (by decide) Tryz.underlying49 hi1 hy0 hy1 hy2 rfl _ _ [] rfl (OwnT.lit tdcells _ 8 _ _ _ [] tdcells_len (Nat.le_refl _) (Nat.zero_le _) rfl) base _ _ told rfl (HOa.out _) (by simp [maxLen]; omega) (by simp; omega) (by simp) ?_; intro L A2 c2 w2 HL ho2 hb2 hg2 ha2)
    have hLc : L = told := HL.out
    subst hLc
    go_ret
    exact ⟨A2, c2, rfl, ho2, (Below.refl W.heap.size W).alloc (Nat.le_refl _) _ |>.trans hb2⟩
theorem told_any (C : Nat) (v0 v1 v2 v3 v4 v6 : Value) (told : List Td) (ht : told.length ≤ 1000000) (A : Option Addr) (tc base : Nat) (W : World) (hC : W.heap[C]? = some (.cells #[v0, v1, v2, v3, v4, .slice A told.length tc, v6] 88)) (hO : OwnT tdcells 52 8 W base A tc told) :
    Calls Tryz.prog 17 #[.pointer (some ⟨C, 0, none⟩)] W fun e W' => ∃ A' c', e = .returned (.slice A' told.length c') ∧ OwnT tdcells 52 8 W' W.heap.size A' c' told ∧ Turned (fun _ => False) W W' := by
  have c5 : W.cell? ⟨C, 5, none⟩ = some (.slice A told.length tc) := cob hC 5 rfl
  have HCl := Lib.hid (clonet_any told ht A tc base W hO)
  have HCn := Lib.hid clonec_nil
  clear hC hO
  go_enter Tryz.func17, Tryz.ntmps17
  go_wp2_with fail
  refine HCl.out.mono ?_
  rintro e w1 ⟨A1, c1, rfl, hO1, hb1⟩
  have HO1 := Lib.hid hO1
  have HT1 := Lib.hid (show Turned (fun _ => False) W w1 from Turned.of_below hb1)
  clear hO1 hb1
  go_wp2
  go_loopw [12] (fun i wr => ∃ k : Nat, k ≤ told.length ∧ i = .int .i64 k ∧ OwnT tdcells 52 8 wr W.heap.size A1 c1 told ∧ Turned (fun _ => False) W wr) (fun i _ => told.length - (intOf i).toNat)
  case atStart => exact ⟨0, Nat.zero_le _, rfl, HO1.out, HT1.out⟩
  case round =>
    obtain ⟨k, hk, rfl, hOr, hTr⟩ := hrel
    by_cases hkn : k < told.length
    · obtain ⟨g, rfl, hgb, hgl, _⟩ := hOr.form (by omega)
      have q7 := hOr.cell tdcells_len k 7 hkn (.slice none 0 0) rfl
      have f7 := hOr.free (k * 8 + 7)
      obtain ⟨cur, hcur⟩ := hOr.blk0
      have HOr := Lib.hid hOr
      have HTr := Lib.hid hTr
      have HCu := Lib.hid hcur
      have HQ7 := Lib.hid q7
      have d0 : ((k : Nat) : Int) < ((told.length : Nat) : Int) := by omega
      clear hOr hTr hcur
      go_wp2_with (first | (go_at_call 42; refine (HCn.out _).mono ?_; rintro e w2 ⟨rfl, rfl⟩))
      go_roundw
      case rel =>
        refine ⟨k + 1, by omega, by go_num, ?_, ?_⟩
        · refine HOr.out.of_block fun j hj => setCell_keep HCu.out ?_ j
          have := HQ7.out
          simp only [World.cell?, HCu.out] at this
          simpa using this
        · exact HTr.out.setCell (p := ⟨g, k * 8 + 7, none⟩) (.inr hgb) _
      case measure => simp [intOf]; omega
    · obtain rfl : k = told.length := by omega
      have HOr := Lib.hid hOr
      have HTr := Lib.hid hTr
      clear hOr hTr
      go_wp2
      go_ret
      exact ⟨A1, c1, rfl, HOr.out, HTr.out⟩
end Go.Proofs.YtoigogjmhkpdlaaGreat
