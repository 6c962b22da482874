/- A part of the proof of WholeFew: the texts KeepD, TopA, TopB. -/
import Derived.Test.YtoigogjmhkpdlaaGreatJ39
import Derived.Test.YtoigogjmhkpdlaaGreatJ40
import Derived.Test.YtoigogjmhkpdlaaGreatJ41
set_option maxHeartbeats 3200000
set_option maxRecDepth 100000
namespace Go.Proofs.YtoigogjmhkpdlaaGreat
open Go.RowKit
theorem stepF1 : stepF 1 = 31 := rfl
theorem stepF2 : stepF 2 = 32 := rfl
theorem kask (s : Shp) (hs : s.Ok) (m : Nat) (x : Cm) (hx : ∀ j, rightC (cmdAt x j) = true) (C i : Nat) (hi : i < s.n) (y : Sp) (hy : y.kind = 1) (hyn : y.node = (i : Int)) (k k' : Mdl.Km) (hk : Mdl.askK s.n i k = some k') (hcmd : ∀ nd lm, k.nodes[i]? = some nd → nd.ld = some lm → y.cmd = cmdAt x lm.es.length) (W : World) (S : Nat → Prop) (h : KAt W S C s m x k) :
    Calls Tryz.prog 12 #[.pointer (some ⟨C, 0, none⟩), spv y] W fun e W' => KPost W S C s m x k' e W' := by
  unfold Mdl.askK at hk
  cases hn : k.nodes[i]? with
  | none => rw [hn] at hk; cases hk
  | some nd =>
    rw [hn] at hk
    simp only [] at hk
    cases hld : nd.ld with
    | none => rw [hld] at hk; cases hk
    | some lm =>
      have hcm := hcmd nd lm hn hld
      rw [hld] at hk
      simp only [] at hk
      split at hk
      · rename_i hc
        rw [Bool.and_eq_true, Bool.and_eq_true, Bool.and_eq_true, Bool.and_eq_true, Nat.blt_eq] at hc
        obtain ⟨⟨⟨⟨c1, c2⟩, c3⟩, c4⟩, c5⟩ := hc
        have hw : nd.waits = [] := List.isEmpty_iff.1 c3
        have hap : nd.app = lm.es.length := Nat.eq_of_beq_eq_true c5
        obtain ⟨hke, _⟩ := okK_some hk
        have hck : k'.clock = k.clock + 1 := by rw [hke]
        have key : ∀ L : List Mg, L.map absM = Mdl.accK s.n i lm.b lm.es.length [] → Mdl.okK { Mdl.sendK { k with nodes := k.nodes.set i { nd with ld := some { lm with es := lm.es ++ [[]] }, waits := nd.waits ++ [lm.es.length] } } (L.map absM) with clock := k.clock + 1 } = some k' := fun L hL => by
          rw [hL]; exact hk
        have hkn : k'.nodes.length = k.nodes.length := by
          rw [hke]
          show (Mdl.sendK _ _).nodes.length = _
          rw [sendK_nodes, List.length_set]
        refine kdo s m x C y (.inl hy) k k' hck hkn W S h (fun p q l w hK hok => ?_)
        obtain ⟨N, hN, hnd⟩ := hK.ndAt hn
        have hcl := hok.clock
        rw [hy, stepF1]
        refine (cask_of s x m C i y hyn p q k.nodes l k.nx k.clock (by omega) nd { nd with ld := some { lm with es := lm.es ++ [[]] }, waits := nd.waits ++ [lm.es.length] } N hn c1 rfl hN (by have := hok.asked; omega) (fun a ha => (hok.msgs a ha).2) w hK
          (fun L => L.map absM = Mdl.accK s.n i lm.b lm.es.length [] ∧ ∀ m ∈ L, MgOk m) (fun w1 hw1 hlt => ?_)).mono ?_
        · rw [hcm]
          refine (ndask s hs x hx i hi m nd lm hld c2 hw c4 hap w1 (p (7 + i)) N hw1).mono ?_
          rintro e w2 ⟨L, A, cc, S1, hL, hLk, rfl, hO, hnd2, hst⟩
          obtain ⟨_, _, _, _, b1, b2⟩ := hok.sent hLk (key L hL)
          exact ⟨L, A, cc, S1, rfl, hO, b1, b2, hst, hnd2, hL, hLk⟩
        · rintro e w' ⟨rfl, p', q', L, hK', hst, ht, hse, has, hL, hLk⟩
          have e1 := hok.asked
          have e2 := hok.seen
          have e3 := hok.toldl
          obtain ⟨_, a2, a3, a4, _, _⟩ := KOk.make (q := q') (k1 := { k with nodes := k.nodes.set i { nd with ld := some { lm with es := lm.es ++ [[]] }, waits := nd.waits ++ [lm.es.length] } }) hok.pool hok.msgs (show q'.asked.length ≤ k.clock + 1 by omega) (show q'.seen.length ≤ 8 * (k.clock + 1) by rw [hse]; omega) (show TdR x q'.told k.told by rw [ht]; exact hok.told) (show q'.told.length ≤ k.clock + 1 by rw [ht]; omega) hLk (key L hL)
          have a2' : k'.nodes = k.nodes.set i { nd with ld := some { lm with es := lm.es ++ [[]] }, waits := nd.waits ++ [lm.es.length] } := a2
          have a3' : k'.nx = k.nx + L.length := a3
          rw [← a2', ← a3'] at hK'
          exact ⟨rfl, p', q', _, hK', hst, a4⟩
      · cases hk
theorem hearK_up {n q me : Nat} {nd nd' : Mdl.Nm} {m : Am} {ans : List Nat} {out : List Am} (h : Mdl.hearK n q me nd m = some (nd', ans, out)) : nd'.up = nd.up := by
  unfold Mdl.hearK at h
  repeat' split at h
  all_goals (try simp only [Bool.and_false, Bool.false_eq_true, if_false] at h)
  all_goals (repeat' split at h)
  all_goals first
    | cases h; done
    | (injection h with h; injection h with h1 h2; rw [← h1])
theorem knext (s : Shp) (hs : s.Ok) (m : Nat) (hm : 5000 ≤ m) (x : Cm) (hx : ∀ j, rightC (cmdAt x j) = true) (C : Nat) (y : Sp) (hy : y.kind = 2) (k k' : Mdl.Km) (hk : Mdl.nextK s.n s.q k = some k') (W : World) (S : Nat → Prop) (h : KAt W S C s m x k) :
    Calls Tryz.prog 12 #[.pointer (some ⟨C, 0, none⟩), spv y] W fun e W' => KPost W S C s m x k' e W' := by
  have hkk : k'.clock = k.clock + 1 ∧ k'.nodes.length = k.nodes.length := by
    unfold Mdl.nextK at hk
    repeat' split at hk
    all_goals first
      | cases hk; done
      | (obtain ⟨rfl, _⟩ := okK_some hk
         refine ⟨rfl, ?_⟩
         first
           | rfl
           | (show (Mdl.sendK _ _).nodes.length = _
              rw [sendK_nodes]
              simp))
  have hlen : k.nodes.length = s.n := by
    obtain ⟨p, q, l, _, _, _, h⟩ := h; exact h
  refine kdo s m x C y (.inr (.inl hy)) k k' hkk.1 hkk.2 W S h (fun p q l w hK hok => ?_)
  rw [hy, stepF2]
  unfold Mdl.nextK at hk
  rw [← hok.pool, pop_abs] at hk
  cases hpop : popG lessB l with
  | none => rw [hpop] at hk; cases hk
  | some pr =>
    obtain ⟨pk, l2⟩ := pr
    rw [hpop] at hk
    simp only [Option.map_some] at hk
    obtain ⟨hpm, hl2m, hl2l⟩ := popG_mem hpop
    have hl := hok.len
    have hcl := hok.clock
    have e1 := hok.asked
    have e2 := hok.seen
    have e3 := hok.toldl
    have hmg := (hok.msgs pk hpm).1
    have hmsgs : ∀ y ∈ l2, MgOk y.m ∧ y.due ≤ k.clock ∧ y.no < k.nx := fun y hy => hok.msgs y (hl2m y hy)
    cases hn : k.nodes[(absP pk).m.to]? with
    | none => rw [hn] at hk; cases hk
    | some nd =>
      rw [hn] at hk
      simp only [] at hk
      have hn2 : k.nodes[pk.m.to]? = some nd := hn
      have hto : pk.m.to < s.n := by
        obtain ⟨hh, _⟩ := List.getElem?_eq_some_iff.1 hn2
        omega
      split at hk
      · rename_i hup
        cases hh : Mdl.hearK s.n s.q (absP pk).m.to nd (absP pk).m with
        | none => rw [hh] at hk; cases hk
        | some r =>
          obtain ⟨nd', ans, out⟩ := r
          rw [hh] at hk
          simp only [] at hk
          have hh2 : Mdl.hearK s.n s.q pk.m.to nd (absM pk.m) = some (nd', ans, out) := hh
          obtain ⟨hke, b1, b2, b3⟩ := okK_some hk
          have hb : l2.length + out.length ≤ 400 ∧ k.nx + out.length ≤ 900000 := by
            have h1 := sendK_len out { k with pool := l2.map absP, nodes := k.nodes.set pk.m.to nd', told := k.told ++ ans.map (fun a => (k.clock, a)) }
            have h2 : (Mdl.sendK { k with pool := l2.map absP, nodes := k.nodes.set pk.m.to nd', told := k.told ++ ans.map (fun a => (k.clock, a)) } out).pool.length ≤ 400 := b1
            have h3 : (Mdl.sendK { k with pool := l2.map absP, nodes := k.nodes.set pk.m.to nd', told := k.told ++ ans.map (fun a => (k.clock, a)) } out).nx ≤ 900000 := b2
            rw [h1.1] at h2
            rw [h1.2] at h3
            simp only [List.length_map] at h2 h3
            exact ⟨h2, h3⟩
          obtain ⟨N, hN, hnd⟩ := hK.ndAt hn2
          refine (cnext_of s x m C y p q k.nodes l l2 pk hpop (by omega) (by omega) k.nx k.clock (by omega) nd nd' N hn2 hup (hearK_up hh2) hN (by omega) (by omega) (fun a ha => (hmsgs a ha).2) ans out hb.1 hb.2 w hK
            (fun w1 hw1 => ndhear s hs x hx pk.m.to hto m hm nd nd' pk.m hmg rfl ans out hh2 w1 _ N hw1)).mono ?_
          rintro e w' ⟨rfl, p', q', L, al, hK', hst, htd, han, hal, hse, has, hL, hLk⟩
          have htold : TdR x q'.told (k.told ++ ans.map (fun a => (k.clock, a))) := by
            unfold TdR
            rw [htd, List.map_append, List.map_append, show q.told.map _ = k.told.map _ from hok.told]
            congr 1
            rw [List.map_map, List.map_map]
            have := congrArg (List.map (fun z : Int × Int × Int => (k.clock, z))) han
            rw [List.map_map, List.map_map] at this
            exact this
          have htl : q'.told.length ≤ k.clock + 1 := by
            rw [htd, List.length_append, List.length_map]; omega
          obtain ⟨_, a2, a3, a4, _, _⟩ := KOk.make (q := q') (l := l2) (k1 := { k with pool := l2.map absP, nodes := k.nodes.set pk.m.to nd', told := k.told ++ ans.map (fun a => (k.clock, a)) }) rfl hmsgs (show q'.asked.length ≤ k.clock + 1 by omega) (show q'.seen.length ≤ 8 * (k.clock + 1) by omega) htold htl hLk (by rw [hL]; exact hk)
          have a2' : k'.nodes = k.nodes.set pk.m.to nd' := a2
          have a3' : k'.nx = k.nx + L.length := a3
          rw [← a2', ← a3'] at hK'
          exact ⟨rfl, p', q', _, hK', hst, a4⟩
      · rename_i hup
        have hup : nd.up = false := by simpa using hup
        refine (cnext_down s x m C y p q k.nodes l l2 pk hpop (by omega) (by omega) k.nx k.clock nd hn2 hup w hK).mono ?_
        rintro e w' ⟨rfl, hK', hst⟩
        obtain ⟨_, a2, a3, a4, _, _⟩ := KOk.make (q := q) (l := l2) (k1 := { k with pool := l2.map absP }) (L := []) rfl hmsgs (show q.asked.length ≤ k.clock + 1 by omega) (show q.seen.length ≤ 8 * (k.clock + 1) by omega) hok.told (show q.told.length ≤ k.clock + 1 by omega) (fun m hm => by cases hm) hk
        have a2' : k'.nodes = k.nodes := a2
        have a3' : k'.nx = k.nx := a3
        rw [← a2', ← a3'] at hK'
        simp only [sentT, List.append_nil] at a4
        exact ⟨rfl, p, q, l2, hK', hst, a4⟩
def cm0 : Cm := ⟨0, 0, 0, ByteArray.empty, ByteArray.empty, ByteArray.empty, 0, ByteArray.empty, ByteArray.empty, false⟩
theorem kflying (s : Shp) (m : Nat) (x : Cm) (C : Nat) (k : Mdl.Km) (W : World) (S : Nat → Prop) (h : KAt W S C s m x k) :
    Calls Tryz.prog 20 #[.pointer (some ⟨C, 0, none⟩)] W fun e W' => e = .returned (.int .i64 (k.pool.length : Nat)) ∧ W = W' := by
  obtain ⟨p, q, l, hK, _, hok, _⟩ := h
  refine (flying_any C _ _ _ _ _ _ (p 3) q.G k.nx l W hK.hC hK.hP).mono ?_
  rintro e W' ⟨rfl, rfl⟩
  rw [← hok.pool, List.length_map]
  exact ⟨rfl, rfl⟩
theorem allK_none {n q f : Nat} {k k' : Mdl.Km} (h : Mdl.allK n q f k = some k') (hp : k.pool = []) : k' = k := by
  cases f with
  | zero =>
    rw [Mdl.allK, hp] at h
    simp only [List.isEmpty_nil, if_true] at h
    injection h with h; exact h.symm
  | succ f =>
    rw [Mdl.allK, hp] at h
    simp only [List.isEmpty_nil, if_true] at h
    injection h with h; exact h.symm
theorem allK_more {n q f : Nat} {k k' : Mdl.Km} (h : Mdl.allK n q f k = some k') (hp : k.pool ≠ []) : ∃ f' k1, f = f' + 1 ∧ Mdl.nextK n q k = some k1 ∧ Mdl.allK n q f' k1 = some k' := by
  have he : k.pool.isEmpty = false := by
    cases hk : k.pool with
    | nil => exact absurd hk hp
    | cons a t => rfl
  cases f with
  | zero =>
    rw [Mdl.allK, he] at h
    simp at h
  | succ f =>
    rw [Mdl.allK, he] at h
    simp only [Bool.false_eq_true, if_false] at h
    cases hn : Mdl.nextK n q k with
    | none => rw [hn] at h; cases h
    | some k1 => rw [hn] at h; exact ⟨f, k1, rfl, rfl, h⟩
theorem kall (s : Shp) (hs : s.Ok) (m : Nat) (hm : 5000 ≤ m) (x : Cm) (hx : ∀ j, rightC (cmdAt x j) = true) (C : Nat) (f : Nat) (hf : f ≤ 8000) (k k' : Mdl.Km) (hk : Mdl.allK s.n s.q f k = some k') (W : World) (S : Nat → Prop) (hS : Lt S W) (h : KAt W S C s m x k) :
    Calls Tryz.prog 15 #[.pointer (some ⟨C, 0, none⟩)] W fun e W' => KPost W S C s m x k' e W' := by
  have HF := Lib.hid (fun k W S h => kflying s m x C k W S h)
  have HN := Lib.hid (fun k k' hk W S h => knext s hs m hm x hx C ⟨2, 0, 0, false, cm0⟩ rfl k k' hk W S h)
  have HH := Lib.hid h
  have HK := Lib.hid hk
  have HS := Lib.hid hS
  unfold spv spcells cmcells cm0 at HN
  simp only [List.cons_append, List.nil_append] at HN
  clear h hk hS
  go_enter Tryz.func15, Tryz.ntmps15
  go_wp2
  go_loopw [2] (fun i wr => ∃ (r f : Nat) (kk : Mdl.Km) (S' : Nat → Prop), r + f ≤ 8000 ∧ i = .int .i64 r ∧ Hid (Mdl.allK s.n s.q f kk = some k') ∧ Hid (KAt wr S' C s m x kk) ∧ Hid (Step S W wr S')) (fun i _ => 8000 - (intOf i).toNat)
  case atStart => exact ⟨0, f, k, S, by omega, rfl, HK, HH, Lib.hid (Step.refl HS.out)⟩
  case round =>
    obtain ⟨r, f1, kk, S', hr, rfl, HA, HW, HSt⟩ := hrel
    have HFl := Lib.hid (HF.out kk wr S' HW.out)
    by_cases hp : kk.pool = []
    · have he := allK_none HA.out hp
      rw [hp] at HFl
      simp only [List.length_nil] at HFl
      by_cases hr8 : r < 8000
      · have d0 : decide (((r : Nat) : Int) < 8000) = true := by simp; omega
        go_wp2_with (first | (go_at_call 20; refine HFl.out.mono ?_; rintro e w1 ⟨rfl, rfl⟩))
        go_end0
        rw [he]
        exact ⟨rfl, S', HW.out, HSt.out⟩
      · have d0 : decide (((r : Nat) : Int) < 8000) = false := by simp; omega
        go_wp2_with (first | (go_at_call 20; refine HFl.out.mono ?_; rintro e w1 ⟨rfl, rfl⟩))
        go_end0
        rw [he]
        exact ⟨rfl, S', HW.out, HSt.out⟩
    · obtain ⟨f2, k1, rfl, hn, ha⟩ := allK_more HA.out hp
      have hpl : 0 < kk.pool.length := List.length_pos_iff.2 hp
      have d0 : ((r : Nat) : Int) < 8000 := by omega
      have d1 : (0 : Int) < ((kk.pool.length : Nat) : Int) := by omega
      have HNx := Lib.hid (HN.out kk k1 hn wr S' HW.out)
      have HA1 := Lib.hid ha
      clear ha hn hp
      go_wp2_with (first | (go_at_call 20; refine HFl.out.mono ?_; rintro e w1 ⟨rfl, rfl⟩) | (go_at_call 12; refine HNx.out.mono ?_; rintro e w2 ⟨rfl, S2, hK2, hS2⟩; have HK2 := Lib.hid hK2; have HS2 := Lib.hid hS2; clear hK2 hS2))
      go_roundw
      case rel => exact ⟨r + 1, f2, k1, S2, by omega, by go_num, HA1, HK2, Lib.hid (HSt.out.trans HS2.out)⟩
      case measure => simp [intOf]; omega
theorem upAll_more {n f i : Nat} {k k' : Mdl.Km} (h : Mdl.upAll n (f + 1) i k = some k') (hi : i < n) : ∃ k1, Mdl.upK i k = some k1 ∧ Mdl.upAll n f (i + 1) k1 = some k' := by
  rw [Mdl.upAll, if_pos (by rw [Nat.blt_eq]; exact hi)] at h
  cases hu : Mdl.upK i k with
  | none => rw [hu] at h; cases h
  | some k1 => rw [hu] at h; exact ⟨k1, rfl, h⟩
theorem upAll_none {n f i : Nat} {k k' : Mdl.Km} (h : Mdl.upAll n f i k = some k') (hi : ¬ i < n) : k' = k := by
  cases f with
  | zero => rw [Mdl.upAll] at h; injection h with h; exact h.symm
  | succ f =>
    rw [Mdl.upAll, if_neg (by rw [Nat.blt_eq]; exact hi)] at h
    injection h with h; exact h.symm
theorem kleads (s : Shp) (m : Nat) (x : Cm) (C i : Nat) (k : Mdl.Km) (nd : Mdl.Nm) (lm : Mdl.Lm) (hn : k.nodes[i]? = some nd) (hu : nd.up = true) (hl : nd.ld = some lm) (W : World) (S : Nat → Prop) (h : KAt W S C s m x k) :
    Calls Tryz.prog 30 #[.pointer (some ⟨C, 0, none⟩), .int .i64 (i : Int)] W fun e W' => e = .returned (.bool lm.leads) ∧ W = W' := by
  obtain ⟨p, q, l, hK, _, hok, _⟩ := h
  obtain ⟨N, hN, D, rs, ld, cl, dn, hnd, hlog, hprom, hvs, hrec, hld, hcl⟩ := hK.ndAt hn
  have hup := hK.upAt hn
  rw [hu] at hup
  refine (cleads_any _ C _ _ _ _ _ q.U q.A q.uc q.ac 0 0 _ q.nds i N hup hN (p (7 + i)) s i D m rs ld nd.app cl _ dn W hK.hC hK.hU hK.hA hnd).mono ?_
  rintro e W' ⟨rfl, rfl⟩
  rw [hl] at hld
  cases ld with
  | none => exact hld.elim
  | some l0 => exact ⟨by rw [ldB, hld.leads], rfl⟩
theorem kapplied (s : Shp) (m : Nat) (x : Cm) (C i : Nat) (k : Mdl.Km) (nd : Mdl.Nm) (hn : k.nodes[i]? = some nd) (hu : nd.up = true) (W : World) (S : Nat → Prop) (h : KAt W S C s m x k) :
    Calls Tryz.prog 16 #[.pointer (some ⟨C, 0, none⟩), .int .i64 (i : Int)] W fun e W' => e = .returned (.int .i64 (nd.app : Int)) ∧ W = W' := by
  obtain ⟨p, q, l, hK, _, hok, _⟩ := h
  obtain ⟨N, hN, D, rs, ld, cl, dn, hnd, hlog, hprom, hvs, hrec, hld, hcl⟩ := hK.ndAt hn
  have hup := hK.upAt hn
  rw [hu] at hup
  exact capplied_any _ C _ _ _ _ _ q.U q.A q.uc q.ac 0 0 _ q.nds i N hup hN (p (7 + i)) s i D m rs ld nd.app cl _ dn W hK.hC hK.hU hK.hA hnd
theorem kup (s : Shp) (m : Nat) (x : Cm) (C i : Nat) (k : Mdl.Km) (nd : Mdl.Nm) (hn : k.nodes[i]? = some nd) (W : World) (S : Nat → Prop) (h : KAt W S C s m x k) :
    Calls Tryz.prog 14 #[.pointer (some ⟨C, 0, none⟩), .int .i64 (i : Int)] W fun e W' => e = .returned (.bool nd.up) ∧ W = W' := by
  obtain ⟨p, q, l, hK, _, hok, _⟩ := h
  exact up_any C _ _ _ _ _ _ q.U q.uc 0 _ i nd.up (hK.upAt hn) W hK.hC hK.hU
theorem ktold (s : Shp) (m : Nat) (x : Cm) (C : Nat) (k : Mdl.Km) (W : World) (S : Nat → Prop) (h : KAt W S C s m x k) :
    Calls Tryz.prog 17 #[.pointer (some ⟨C, 0, none⟩)] W fun e W' => ∃ (told : List Td) (A : Option Addr) (c : Nat), e = .returned (.slice A told.length c) ∧ OwnT tdcells 52 8 W' W.heap.size A c told ∧ TdR x told k.told ∧ told.length ≤ 1000000 ∧ Turned (fun _ => False) W W' := by
  obtain ⟨p, q, l, hK, _, hok, _⟩ := h
  have e1 := hok.toldl
  have e2 := hok.clock
  refine (told_any C _ _ _ _ _ _ q.told (by omega) q.T q.tc 0 W hK.hC hK.hT).mono ?_
  rintro e W' ⟨A, c, rfl, hO, ht⟩
  exact ⟨q.told, A, c, rfl, hO, hok.told, by omega, ht⟩
theorem nextK_up {n q : Nat} {k k' : Mdl.Km} (hk : Mdl.nextK n q k = some k') : k'.nodes.map (·.up) = k.nodes.map (·.up) := by
  unfold Mdl.nextK at hk
  split at hk
  · cases hk
  · rename_i p pool' hpop
    simp only [] at hk
    cases hn : k.nodes[p.m.to]? with
    | none => rw [hn] at hk; cases hk
    | some nd =>
      rw [hn] at hk
      simp only [] at hk
      split at hk
      · cases hh : Mdl.hearK n q p.m.to nd p.m with
        | none => rw [hh] at hk; cases hk
        | some r =>
          obtain ⟨nd', ans, out⟩ := r
          rw [hh] at hk
          obtain ⟨rfl, _⟩ := okK_some hk
          show (Mdl.sendK _ _).nodes.map _ = _
          rw [sendK_nodes]
          exact map_up_set hn (hearK_up hh)
      · obtain ⟨rfl, _⟩ := okK_some hk
        rfl
theorem allK_up {n q : Nat} : ∀ {f : Nat} {k k' : Mdl.Km}, Mdl.allK n q f k = some k' → k'.nodes.map (·.up) = k.nodes.map (·.up) := by
  intro f
  induction f with
  | zero =>
    intro k k' h
    rw [Mdl.allK] at h
    split at h
    · injection h with h; rw [h]
    · cases h
  | succ f ih =>
    intro k k' h
    by_cases hp : k.pool = []
    · rw [allK_none h hp]
    · obtain ⟨f', k1, hf, hn, ha⟩ := allK_more h hp
      injection hf with hf
      subst hf
      rw [ih ha, nextK_up hn]
theorem standK_up {n who : Nat} {k k' : Mdl.Km} (hk : Mdl.standK n who k = some k') : (k'.nodes.map (·.up))[who]? = some true := by
  unfold Mdl.standK at hk
  cases hn : k.nodes[who]? with
  | none => rw [hn] at hk; cases hk
  | some nd =>
    rw [hn] at hk
    simp only [] at hk
    split at hk
    · rename_i hc
      rw [Bool.and_eq_true, Bool.and_eq_true] at hc
      obtain ⟨rfl, _⟩ := okK_some hk
      show (List.map _ (Mdl.sendK _ _).nodes)[who]? = _
      rw [sendK_nodes]
      show (List.map _ (k.nodes.set who _))[who]? = _
      obtain ⟨hl, _⟩ := List.getElem?_eq_some_iff.1 hn
      rw [List.map_set, List.getElem?_set_self (by rw [List.length_map]; exact hl), hc.1.1]
    · cases hk
theorem leadK_parts {n q who : Nat} {k k' : Mdl.Km} (h : Mdl.leadK q n who k = some k') : ∃ k0 k1 k2 nd l, Mdl.upAll n 8 0 k = some k0 ∧ Mdl.allK n q 200 k0 = some k1 ∧ Mdl.standK n who k1 = some k2 ∧ Mdl.allK n q 200 k2 = some k' ∧ k'.nodes[who]? = some nd ∧ nd.ld = some l ∧ l.leads = true ∧ nd.up = true := by
  unfold Mdl.leadK at h
  cases h0 : Mdl.upAll n 8 0 k with
  | none => rw [h0] at h; cases h
  | some k0 =>
    rw [h0] at h
    cases h1 : Mdl.allK n q 200 k0 with
    | none => simp [h1] at h
    | some k1 =>
      simp only [h1, Option.bind_eq_bind, Option.bind_some] at h
      cases h2 : Mdl.standK n who k1 with
      | none => simp [h2] at h
      | some k2 =>
        simp only [h2, Option.bind_some] at h
        cases h3 : Mdl.allK n q 200 k2 with
        | none => simp [h3] at h
        | some k3 =>
          simp only [h3, Option.bind_some] at h
          cases h4 : k3.nodes[who]? with
          | none => simp [h4] at h
          | some nd =>
            simp only [h4] at h
            cases h5 : nd.ld with
            | none => simp [h5] at h
            | some l =>
              simp only [h5] at h
              split at h
              · rename_i hl
                injection h with h
                subst h
                refine ⟨k0, k1, k2, nd, l, rfl, h1, h2, h3, h4, h5, hl, ?_⟩
                have hu := standK_up h2
                rw [← allK_up h3, List.getElem?_map, h4] at hu
                simpa using hu
              · cases h
theorem klead (s : Shp) (hs : s.Ok) (m : Nat) (hm : 5000 ≤ m) (x : Cm) (hx : ∀ j, rightC (cmdAt x j) = true) (C who : Nat) (hw : who < s.n) (k k' : Mdl.Km) (hk : Mdl.leadK s.q s.n who k = some k') (W : World) (S : Nat → Prop) (hS : Lt S W) (h : KAt W S C s m x k) :
    Calls Tryz.prog 11 #[.pointer (some ⟨C, 0, none⟩), .int .i64 (s.n : Int), .int .i64 (who : Int)] W fun e W' => e = .returned (.bool true) ∧ ∃ S', KAt W' S' C s m x k' ∧ Step S W W' S' := by
  obtain ⟨k0, k1, k2, nd, l, h0, h1, h2, h3, h4, h5, h6, h7⟩ := leadK_parts hk
  have hn7 := hs.n7
  have hnn : s.n ≤ 7 := hn7
  have HU := Lib.hid (fun (i : Nat) k k' hk W S h => krise s m x C i ⟨8, (i : Int), 0, false, cm0⟩ rfl rfl k k' hk W S h)
  have HSt := Lib.hid (fun W S h => kstand s hs m hm x C who hw ⟨5, (who : Int), 0, false, cm0⟩ rfl rfl k1 k2 h2 W S h)
  have HA1 := Lib.hid (fun W S hS h => kall s hs m hm x hx C 200 (by omega) k0 k1 h1 W S hS h)
  have HA2 := Lib.hid (fun W S hS h => kall s hs m hm x hx C 200 (by omega) k2 k' h3 W S hS h)
  have HL := Lib.hid (fun W S h => kleads s m x C who k' nd l h4 h7 h5 W S h)
  have HB := Lib.hid h6
  have H0 := Lib.hid h0
  have HK := Lib.hid h
  have HS := Lib.hid hS
  unfold spv spcells cmcells cm0 at HU HSt
  simp only [List.cons_append, List.nil_append] at HU HSt
  clear h0 h1 h2 h3 h4 h5 h6 h7 hk h hS
  go_enter Tryz.func11, Tryz.ntmps11
  go_wp2
  go_loopw [7] (fun i wr => ∃ (r f : Nat) (kk : Mdl.Km) (S' : Nat → Prop), f + r = 8 ∧ r ≤ s.n ∧ i = .int .i64 r ∧ Hid (Mdl.upAll s.n f r kk = some k0) ∧ Hid (KAt wr S' C s m x kk) ∧ Hid (Step S W wr S')) (fun i _ => s.n - (intOf i).toNat)
  case atStart => exact ⟨0, 8, k, S, rfl, Nat.zero_le _, rfl, H0, HK, Lib.hid (Step.refl HS.out)⟩
  case round =>
    obtain ⟨r, f, kk, S', hrf, hrn, rfl, HUp, HW, HSp⟩ := hrel
    by_cases hr : r < s.n
    · obtain ⟨f', rfl⟩ : ∃ f', f = f' + 1 := ⟨f - 1, by omega⟩
      obtain ⟨kn, hu, ha⟩ := upAll_more HUp.out hr
      have HD := Lib.hid (HU.out r kk kn hu wr S' HW.out)
      have HA := Lib.hid ha
      have d0 : ((r : Nat) : Int) < ((s.n : Nat) : Int) := by omega
      clear ha hu
      go_wp2_with (first | (go_at_call 12; refine HD.out.mono ?_; rintro e w2 ⟨rfl, S2, hK2, hS2⟩; have HK2 := Lib.hid hK2; have HS2 := Lib.hid hS2; clear hK2 hS2))
      go_roundw
      case rel => exact ⟨r + 1, f', kn, S2, by omega, by omega, by go_num, HA, HK2, Lib.hid (HSp.out.trans HS2.out)⟩
      case measure => simp [intOf]; omega
    · have he := upAll_none HUp.out hr
      have HW0 := Lib.hid (show KAt wr S' C s m x k0 by rw [he]; exact HW.out)
      have HC1 := Lib.hid (HA1.out wr S' HSp.out.lt HW0.out)
      obtain rfl : r = s.n := by omega
      clear he
      go_wp2_with fail
      refine HC1.out.mono ?_
      rintro e w2 ⟨rfl, S2, hK2, hS2⟩
      have HC2 := Lib.hid (HSt.out w2 S2 hK2)
      have HS2 := Lib.hid hS2
      clear hK2 hS2
      go_wp2
      refine wp_loop_rounds 1 ?_
      rw [rounds_succ]
      go_wp2_with fail
      refine HC2.out.mono ?_
      rintro e w3 ⟨rfl, S3, hK3, hS3⟩
      have HC3 := Lib.hid (HA2.out w3 S3 hS3.lt hK3)
      have HS3 := Lib.hid hS3
      clear hK3 hS3
      go_wp2_with fail
      refine HC3.out.mono ?_
      rintro e w4 ⟨rfl, S4, hK4, hS4⟩
      have HC4 := Lib.hid (HL.out w4 S4 hK4)
      have HK4 := Lib.hid hK4
      have HS4 := Lib.hid hS4
      clear hK4 hS4
      go_wp2_with fail
      refine HC4.out.mono ?_
      rintro e w5 ⟨rfl, rfl⟩
      rw [HB.out]
      go_wp2
      go_ret
      exact ⟨rfl, S4, HK4.out, ((HSp.out.trans HS2.out).trans HS3.out).trans HS4.out⟩
theorem ktopask (s : Shp) (hs : s.Ok) (m : Nat) (hm : 5000 ≤ m) (x : Cm) (hx : ∀ j, rightC (cmdAt x j) = true) (C who : Nat) (hw : who < s.n) (k k2 k' : Mdl.Km) (hk : Mdl.askK s.n who k = some k2) (hk2 : Mdl.allK s.n s.q 200 k2 = some k') (c : Cm) (hc : ∀ nd lm, k.nodes[who]? = some nd → nd.ld = some lm → c = cmdAt x lm.es.length) (W : World) (S : Nat → Prop) (hS : Lt S W) (h : KAt W S C s m x k) :
    Calls Tryz.prog 13 #[.pointer (some ⟨C, 0, none⟩), .int .i64 (who : Int), cmv c] W fun e W' => ∃ (told : List Td) (L : List Ans) (A : Option Addr) (cc : Nat) (S' : Nat → Prop), e = .returned (.slice A L.length cc) ∧ OwnT acells 45 7 W' W.heap.size A cc L ∧ Hid (L = (told.drop k.told.length).map Td.a) ∧ TdR x told k'.told ∧ KAt W' S' C s m x k' ∧ Step S W W' S' := by
  obtain ⟨i1, hi1, hy0, hy1, hy2⟩ := info_parts Tryz.infoAn
  have HT := Lib.hid (fun k W S h => ktold s m x C k W S h)
  have HD := Lib.hid (fun W S h => kask s hs m x hx C who hw ⟨1, (who : Int), 0, false, c⟩ rfl rfl k k2 hk hc W S h)
  have HA := Lib.hid (fun W S hS h => kall s hs m hm x hx C 200 (by omega) k2 k' hk2 W S hS h)
  have HK := Lib.hid h
  have HS := Lib.hid hS
  clear h hS hk hk2 hc
  obtain ⟨cl0, sq, kind, row, col, tt, at_, value, expect, has⟩ := c
  unfold spv spcells cmcells at HD
  unfold cmv cmcells
  simp only [List.cons_append, List.nil_append] at HD ⊢
  go_enter Tryz.func13, Tryz.ntmps13
  go_wp2_with fail
  generalize hw1 : World.alloc W _ = w1
  have hB := named_new hw1.symm
  have hb1 := named_below hw1.symm
  have hz1 : W.heap.size < w1.heap.size := by rw [named_size hw1.symm]; omega
  clear hw1
  have hK1 : KAt w1 S C s m x k := HK.out.frame hb1.size fun j hj => hb1.block j (HS.out j hj)
  have HC1 := Lib.hid (HT.out k w1 S hK1)
  have HB := Lib.hid hB
  have HB1 := Lib.hid hb1
  have HK1 := Lib.hid hK1
  clear hB hb1 hK1
  refine HC1.out.mono ?_
  rintro e w2 ⟨told1, A1, c1, rfl, hO1, hR1, hl1, hT2⟩
  have hwas : told1.length = k.told.length := by
    have := congrArg List.length hR1
    rwa [List.length_map, List.length_map] at this
  have hs1 := hT2.size
  have hB2 := (hT2.block W.heap.size hz1 (fun e => e)).trans HB.out
  have x0 : w2.cell? ⟨W.heap.size, 0, none⟩ = some (.int .i64 cl0) := cob hB2 0 rfl
  have x1 : w2.cell? ⟨W.heap.size, 1, none⟩ = some (.int .i64 sq) := cob hB2 1 rfl
  have x2 : w2.cell? ⟨W.heap.size, 2, none⟩ = some (.int .i64 kind) := cob hB2 2 rfl
  have x3 : w2.cell? ⟨W.heap.size, 3, none⟩ = some (.string row) := cob hB2 3 rfl
  have x4 : w2.cell? ⟨W.heap.size, 4, none⟩ = some (.string col) := cob hB2 4 rfl
  have x5 : w2.cell? ⟨W.heap.size, 5, none⟩ = some (.string tt) := cob hB2 5 rfl
  have x6 : w2.cell? ⟨W.heap.size, 6, none⟩ = some (.int .i64 at_) := cob hB2 6 rfl
  have x7 : w2.cell? ⟨W.heap.size, 7, none⟩ = some (.string value) := cob hB2 7 rfl
  have x8 : w2.cell? ⟨W.heap.size, 8, none⟩ = some (.string expect) := cob hB2 8 rfl
  have x9 : w2.cell? ⟨W.heap.size, 9, none⟩ = some (.bool has) := cob hB2 9 rfl
  have hS1 : Lt S w1 := fun j hj => Nat.lt_trans (HS.out j hj) hz1
  have HC2 := Lib.hid (HD.out w2 S (HK1.out.frame hT2.size fun j hj => hT2.block j (hS1 j hj) (fun e => e)))
  have HSt2 := Lib.hid (show Step S W w2 S from Step.of_turned ((Turned.of_below HB1.out).trans (hT2.wide fun _ e _ => e.elim)) HS.out)
  have HW := Lib.hid hwas
  clear hO1 hR1 hT2 hB2 hwas
  go_wp2_with fail
  refine HC2.out.mono ?_
  rintro e w3 ⟨rfl, S3, hK3, hS3⟩
  have HC3 := Lib.hid (HA.out w3 S3 hS3.lt hK3)
  have HS3 := Lib.hid hS3
  clear hK3 hS3 x0 x1 x2 x3 x4 x5 x6 x7 x8 x9
  go_wp2_with fail
  refine HC3.out.mono ?_
  rintro e w4 ⟨rfl, S4, hK4, hS4⟩
  have HC4 := Lib.hid (HT.out k' w4 S4 hK4)
  have HK4 := Lib.hid hK4
  have HS4 := Lib.hid hS4
  clear hK4 hS4
  go_wp2_with fail
  refine HC4.out.mono ?_
  rintro e w5 ⟨told, A5, c5, rfl, hO5, hR5, hl5, hT5⟩
  have HO5 := Lib.hid hO5
  have HR5 := Lib.hid hR5
  have HT5 := Lib.hid hT5
  have HSt5 := Lib.hid (show Step S W w5 S4 from ((HSt2.out.trans HS3.out).trans HS4.out).trans (Step.of_turned (hT5.wide fun _ e _ => e.elim) HS4.out.lt))
  have hz5 : W.heap.size ≤ w5.heap.size := HSt5.out.t.size
  clear hO5 hR5 hT5
  go_wp2
  go_loopw [9, 10] (fun o i wr => ∃ (r : Nat) (L : List Ans) (A : Option Addr) (cc : Nat), told1.length ≤ r ∧ i = .int .i64 r ∧ o = .slice A L.length cc ∧ Hid (L = ((told.take r).drop told1.length).map Td.a) ∧ L.length ≤ r ∧ Hid (OwnT acells 45 7 wr w5.heap.size A cc L) ∧ Hid (Below w5.heap.size w5 wr)) (fun _ i _ => told.length - (intOf i).toNat)
  case atStart => exact ⟨told1.length, [], none, 0, Nat.le_refl _, rfl, rfl, Lib.hid (by rw [List.drop_eq_nil_of_le (by rw [List.length_take]; omega)]; rfl), Nat.zero_le _, Lib.hid (OwnT.nil _ _ _ _ _), Lib.hid (Below.refl _ _)⟩
  case round =>
    obtain ⟨r, L, A, cc, hr1, rfl, rfl, hL, hLr, hO, hB⟩ := hrel
    by_cases hr : r < told.length
    · have hOt := HO5.out.below hB.out (Nat.le_refl _)
      obtain ⟨g, rfl, hgb, hgl, _⟩ := hOt.form (by omega)
      obtain ⟨t, ht⟩ : ∃ t, t = told[r] := ⟨_, rfl⟩
      have hget : told[r]? = some t := by rw [ht]; exact List.getElem?_eq_getElem hr
      obtain ⟨tat, ⟨acl, asq, asl, ⟨are, ard, arv⟩⟩⟩ := t
      have q1 := hOt.cell tdcells_len r 1 hr (.int .i64 acl) (by rw [← ht]; rfl)
      have q2 := hOt.cell tdcells_len r 2 hr (.int .i64 asq) (by rw [← ht]; rfl)
      have q3 := hOt.cell tdcells_len r 3 hr (.int .i64 asl) (by rw [← ht]; rfl)
      have q4 := hOt.cell tdcells_len r 4 hr (.int .i64 are) (by rw [← ht]; rfl)
      have q5 := hOt.cell tdcells_len r 5 hr (.bool ard) (by rw [← ht]; rfl)
      have q6 := hOt.cell tdcells_len r 6 hr (.string arv) (by rw [← ht]; rfl)
      have q7 := hOt.cell tdcells_len r 7 hr (.slice none 0 0) (by rw [← ht]; rfl)
      have d0 : ((r : Nat) : Int) < ((told.length : Nat) : Int) := by omega
      have HG := Lib.hid hget
      clear hOt ht hget
      go_wp2_with (at_builtin; refine wpList_append_st acells _ acells_one rfl _ _ _ rfl w5.heap.size 45 i1 _ 7 80 acells_len (by decide) Tryz.underlying38 hi1 hy0 hy1 hy2 rfl _ _ L rfl (hO.out.of_block fun j hj => heap_alloc_old _ _ (hO.out.lt j hj).2) wr.heap.size _ ⟨acl, asq, asl, ⟨are, ard, arv⟩⟩ (0, 0) _ rfl (heap_alloc_new _ _) (by simp [maxLen]; omega) (by omega) (by have := hB.out.size; simp; omega) ?_; intro X2 B4 d4 w8 hX2 ho8 hb8 hg8 ha8)
      have HB8 := Lib.hid (show Below w5.heap.size w5 w8 from (hB.out.alloc (by have := hB.out.size; omega) _).trans hb8)
      have hX := hX2.out
      have HL8 : Hid (X2 = ((told.take (r + 1)).drop told1.length).map Td.a) := Lib.hid (by
        rw [hX, List.take_add_one, HG.out, List.drop_append_of_le_length (by rw [List.length_take]; omega), List.map_append, ← hL.out]; rfl)
      have hl8 : X2.length ≤ r + 1 := by rw [hX, List.length_append]; simp; omega
      have HO8 := Lib.hid ho8
      clear hX2 hX ha8 hg8 hb8 ho8
      go_roundw
      case rel => exact ⟨r + 1, X2, B4, d4, by omega, by go_num, rfl, HL8, hl8, HO8, HB8⟩
      case measure => simp [intOf]; omega
    · have hL' : L = (told.drop told1.length).map Td.a := by rw [hL.out, List.take_of_length_le (by omega)]
      have HL' := Lib.hid hL'
      clear hL'
      go_wp2
      go_ret
      refine ⟨told, L, A, cc, S4, rfl, hO.out.low hz5, Lib.hid (by rw [HL'.out, HW.out]), HR5.out, ?_, ?_⟩
      · exact (HK4.out.frame HT5.out.size fun j hj => HT5.out.block j (HS4.out.lt j hj) (fun e => e)).frame hB.out.size fun j hj => hB.out.block j (HSt5.out.lt j hj)
      · exact HSt5.out.below hB.out
end Go.Proofs.YtoigogjmhkpdlaaGreat
