/- A part of the proof of WholeFew: the texts Propose, LdHear, Chosen, Value, Again. -/
import Derived.Test.YtoigogjmhkpdlaaGreatJ16
import Derived.Deep.RegionLaw
import Derived.OwnWalk
set_option maxHeartbeats 3200000
set_option maxRecDepth 100000
namespace Go.Proofs.YtoigogjmhkpdlaaGreat
open Go.RowKit
theorem new2 (W : World) (o o2 : Obj) : ((W.alloc o).alloc o2).heap[W.heap.size + 1]? = some o2 := by
  have := heap_alloc_new (W.alloc o) o2
  rw [World.size_alloc] at this
  exact this
theorem Tryz.infoE : (Tryz.prog.info? 217).map (fun i => (i.zero, i.size, i.bytes)) = some (some (.agg #[.string ByteArray.empty, .int .i64 0, .map none]), 3, 32) := by kernel_rfl
theorem OwnT.not_map {α : Type} {mk : α → List Value} {e : TypeId} {sz : Nat} {w : World} {base : Nat} {A : Option Addr} {c : Nat} {l : List α} (h : OwnT mk e sz w base A c l) {d : TypeDesc} {M : Nat} {m : List (Value × Value)} (hM : MapIs w d M m) : blk A ≠ some M := by
  intro e
  obtain ⟨es, clock, hb, _⟩ := hM
  rcases h.2 with ⟨h1, _⟩ | ⟨g2, cap, cur, hv, _, hh, _⟩
  · injection h1 with h1 _ _; rw [h1] at e; cases e
  · injection hv with hA _ _
    rw [hA] at e
    have e2 : g2 = M := by simpa [blk] using e
    rw [e2, hb] at hh
    cases hh
structure EntOk (n b : Nat) (e : Ent) : Prop where
  v : e.value.size ≤ 512
  o1 : 1 ≤ e.origin
  o2 : e.origin ≤ b
  a : ∀ x ∈ e.acks, x < n
theorem ldpropose_any (S : Nat → Prop) (P : Nat) (s : Shp) (hs : s.Ok) (me b : Nat) (hme : me < s.n) (hb1 : 1 ≤ b) (hb2 : b ≤ 2147483647) (ps : List Nat) (es : List Ent) (W : World) (h : LdAt W S P s me b ps es true) (hS : Lt S W) (hk64 : es.length < 64) (v : ByteArray) (hv : v.size ≤ 512) :
    Calls Tryz.prog 97 #[.pointer (some ⟨P, 0, none⟩), .string v] W fun e W' => ∃ (L : List Mg) (A : Option Addr) (c : Nat) (S' : Nat → Prop) (q : Nat), Hid (L.map absM = accL me b es.length b [] s.n) ∧ (∀ m ∈ L, MgOk m) ∧ e = .returned (.tuple #[.int .i64 (es.length : Nat), .slice A L.length c, .int .i64 0]) ∧ OwnT mcells 133 11 W' W.heap.size A c L ∧ LdAt W' S' P s me b ps (es ++ [⟨v, b, q, []⟩]) true ∧ Step S W W' S' := by
  have Hleads := Lib.hid (fun w h => ldleads_any S P s me b ps es true w h)
  obtain ⟨i1, hi1, hy0, hy1, hy2⟩ := info_parts Tryz.infoE
  have hmm := @run_makeMap Tryz.prog
  have HLd := Lib.hid h
  obtain ⟨MP, A, c, hP, sP, sM, sA, hM, hO, hE, hN⟩ := h
  have hPl := hS P sP
  have hPA : blk A ≠ some P := fun e => by
    rcases hO.2 with ⟨h1, _⟩ | ⟨g2, cap, cur, hv, _, hh, _⟩
    · injection h1 with h1 _ _; rw [h1] at e; cases e
    · injection hv with hA _ _
      rw [hA] at e
      have e2 : g2 = P := by simpa [blk] using e
      rw [e2, hP] at hh
      injection hh with hh
      injection hh with _ ht _
      cases ht
  have c3 : W.cell? ⟨P, 3, none⟩ = some (.int .i64 (b : Int)) := cob hP 3 rfl
  have c5 : W.cell? ⟨P, 5, none⟩ = some (.slice A es.length c) := cob hP 5 rfl
  have f5 : W.frozen? ⟨P, 5, none⟩ = false := by simp [World.frozen?, hP]
  have h512 : decide ((v.size : Int) > 512) = false := by simp; omega
  have h64 : (((es.length : Nat) : Int) == 64) = false := by simp; omega
  go_enter Tryz.func97, Tryz.ntmps97
  go_wp2_with (first | (go_at_call 91; refine (Hleads.out _ HLd.out).mono ?_; rintro e w1 ⟨rfl, rfl⟩))
  have HT := Lib.hid (show ∀ w' : World, (∀ q, q < W.heap.size → (blk A ≠ some q) → w'.heap[q]? = W.heap[q]?) → w'.cell? ⟨P, 3, none⟩ = some (.int .i64 (b : Int)) ∧ w'.cell? ⟨P, 5, none⟩ = some (.slice A es.length c) ∧ w'.frozen? ⟨P, 5, none⟩ = false from
    fun w' hw' => ⟨cob ((hw' P hPl hPA).trans hP) 3 rfl, cob ((hw' P hPl hPA).trans hP) 5 rfl, by simp [World.frozen?, (hw' P hPl hPA).trans hP]⟩)
  have hT0 := And.intro c3 (And.intro c5 f5)
  have HW0 := Lib.hid ((((Below.refl W.heap.size W).drew.alloc (Nat.le_refl _) (.map #[] 0)).alloc (by simp) (.cells #[.string v, .int .i64 (b : Int), .map (some W.heap.size)] 217)))
  have hPA2 := hPA
  clear hPA
  go_region_law
    (refine step_append_st ecells _ ecells_one (by rfl) _ _ _ (by rfl) 0 217 i1 _ 3 32 ecells_len (by decide) Tryz.underlying205 hi1 hy0 hy1 hy2 (by rfl) _ _ es (by rfl) (((hO.alloc _).alloc _).drew) (W.heap.size + 1) _ ⟨v, b, W.heap.size, []⟩ (0, 0) _ (by rfl) (new2 _ _ _) (by unfold maxLen; omega) (by omega) (by omega) ?_; intro X2 B4 d4 w4 hX2 ho4 hb4 hg4 ha4; have HS4 := HT.out w4 (fun q hq hn => (hg4.block q (by simp; omega) (fun e => hn e.symm)).trans (HW0.out.block q hq)); have HS5 := HS4.2.1; have HS6 := HS4.2.2)
  all_goals
    obtain ⟨w5, hw5⟩ : ∃ w5, w5 = w4.setCell ⟨P, 5, none⟩ (.slice B4 X2.length d4) := ⟨_, rfl⟩
    rw [← hw5]
    have hs4 := hb4.size
    have hg4s : W.heap.size + 2 ≤ w4.heap.size := by have := hg4.size; simp at this; omega
    have hkp : ∀ k, k < W.heap.size → blk A ≠ some k → w4.heap[k]? = W.heap[k]? := fun k hk hn => (hg4.block k (by simp; omega) (fun e => hn e.symm)).trans (HW0.out.block k hk)
    have hP4 := (hkp P hPl hPA2).trans hP
    have hP5 := heap_setCell_same w4 P 5 _ _ (.slice B4 X2.length d4) hP4
    have ho5 : ∀ k, k ≠ P → w5.heap[k]? = w4.heap[k]? := fun k hk => by rw [hw5]; exact heap_setCell_other _ _ _ _ hk
    have hz5 : w5.heap.size = w4.heap.size := by rw [hw5]; simp
    rw [← hw5] at hP5
    have hMP : MP ≠ P := fun e => by
      obtain ⟨es, clock, hb, _⟩ := hM
      rw [e, hP] at hb; cases hb
    have hAl : ∀ k, blk A = some k → k < W.heap.size := fun k hk => (hO.lt k hk).2
    have hBP : ∀ k, blk B4 = some k → k ≠ P := by
      intro k hk e
      rcases ha4 with h | h
      · rw [h] at hk; exact hPA2 (e ▸ hk)
      · rw [h] at hk
        injection hk with hk
        simp at hk; omega
    have hmn : w5.heap[W.heap.size]? = some (.map #[] 0) := (ho5 _ (by omega)).trans ((hg4.block W.heap.size (by simp; omega) (fun e => by have := hAl _ e.symm; omega)).trans ((heap_alloc_old _ _ (by simp)).trans (heap_alloc_new _ _)))
    have hX := hX2.out
    subst hX
    have hL5 : LdAt w5 (fun k => S k ∨ k = W.heap.size ∨ blk B4 = some k) P s me b ps (es ++ [⟨v, b, W.heap.size, []⟩]) true := by
      refine ⟨MP, B4, d4, hP5, .inl sP, .inl sM, fun k hk => .inr (.inr hk), ?_, ?_, ?_, ?_⟩
      · exact hM.of_block ((ho5 MP hMP).trans (hkp MP (hS MP sM) (hO.not_map hM)))
      · exact ho4.of_block fun k hk => ho5 k (hBP k hk)
      · intro e he
        rcases List.mem_append.1 he with h | h
        · obtain ⟨h1, h2, h3⟩ := hE e h
          have hne : e.map ≠ P := fun ee => by
            obtain ⟨es2, clock, hb, _⟩ := h3
            rw [ee, hP] at hb; cases hb
          exact ⟨.inl h1, h2, h3.of_block ((ho5 _ hne).trans (hkp _ (hS _ h1) (hO.not_map h3)))⟩
        · rw [List.mem_singleton.1 h]
          exact ⟨.inr (.inl rfl), fun e => by have := hS MP sM; simp at e; omega, (MapIs.made W (.int .i64)).of_block (hmn.trans (heap_alloc_new _ _).symm)⟩
      · rw [List.map_append]
        refine List.nodup_append.2 ⟨hN, by simp, ?_⟩
        intro a ha b hb e
        obtain ⟨x, hx, rfl⟩ := List.mem_map.1 ha
        have h1 := hS _ (hE x hx).1
        simp at hb
        omega
    have hSt : Step S W w5 (fun k => S k ∨ k = W.heap.size ∨ blk B4 = some k) := by
      have hT4 : Turned S W w4 := (Turned.of_below HW0.out).grown (hg4 : _) (fun k hk => .inl (sA k hk.symm.symm))
      refine ⟨by rw [hw5]; exact hT4.setCell (.inl sP) _, ?_, ?_⟩
      · intro k hk
        rcases hk with hk | hk | hk
        · exact .inl hk
        · exact .inr (by omega)
        · rcases ha4 with h | h
          · exact .inl (sA k (by rw [← h]; exact hk))
          · rw [h] at hk
            injection hk with hk
            simp at hk
            exact .inr (by omega)
      · intro k hk
        rw [hz5]
        rcases hk with hk | hk | hk
        · have := hS k hk; omega
        · omega
        · exact (ho4.lt k hk).2
    have Hacc := Lib.hid (ldaccepts_any _ P s hs me b hme hb1 hb2 ps (es ++ [⟨v, b, W.heap.size, []⟩]) true false w5 hL5 hSt.lt es.length ⟨v, b, W.heap.size, []⟩ (by simp) hk64 hv hb1 (Nat.le_refl _))
    have HL5 := Lib.hid hL5
    have HSt := Lib.hid hSt
    have HS := Lib.hid hS
    clear hL5 hSt hw5 hmn ho4 ho5 hkp hBP hAl hX2 hb4 hg4 ha4 hP4 hP5 hO hE hN HS4 HS5 HS6 hz5 hs4 hg4s hMP hM sA c3 c5 f5 hS
    go_wp2_with (first | (go_at_call 132; refine (Hacc.out).mono ?_; rintro e w6 ⟨L, A6, c6, hLa, hLm, rfl, hO6, hb6⟩))
    go_ret3
    refine ⟨L, A6, c6, _, W.heap.size, hLa, hLm, rfl, hO6.low HSt.out.t.size, HL5.out.frame (fun k hk => hb6.block k (HSt.out.lt k hk)), HSt.out.trans (Step.of_turned (Turned.of_below hb6) HSt.out.lt)⟩
theorem ldhear_prom (S : Nat → Prop) (P : Nat) (s : Shp) (me b : Nat) (ps : List Nat) (es : List Ent) (lead : Bool) (W : World) (h : LdAt W S P s me b ps es lead) (a : Mg) (ha : MgOk a) (hk : a.kind = 2) (hto : a.to = me) (Q : World → Prop)
    (hp : ∀ w, Below W.heap.size W w → Calls Tryz.prog 142 #[.pointer (some ⟨P, 0, none⟩), mgv a] w fun e w' => e = .returned (.slice none 0 0) ∧ Q w') :
    Calls Tryz.prog 106 #[.pointer (some ⟨P, 0, none⟩), mgv a] W fun e W' => e = .returned (.slice none 0 0) ∧ Q W' := by
  have Hr := Lib.hid (fun w => mright_yes a ha w)
  obtain ⟨kind, frm, to, ballot, slot, ⟨vs, vb, vo, vf, vy⟩⟩ := a
  simp only at hk hto
  subst hk
  subst hto
  obtain ⟨MP, A, c, hP, _⟩ := h
  have hPl := (Array.getElem?_eq_some_iff.1 hP).1
  have HP := Lib.hid hp
  clear hp ha
  unfold mgv mcells at Hr HP ⊢
  simp only at HP Hr ⊢
  unfold lcells at hP
  simp only [show ((2 : Nat) : Int) = 2 from rfl] at HP Hr ⊢
  obtain ⟨w0, hw0⟩ : ∃ w0, w0 = W.alloc (.cells #[.int .i64 2, .int .i64 (frm : Int), .int .i64 (to : Int), .int .i64 (ballot : Int), .int .i64 (slot : Int), .int .i64 (vs : Int), .int .i64 (vb : Int), .int .i64 (vo : Int), .bool vf, .string vy, .slice none 0 0] 133) := ⟨_, rfl⟩
  have hM0 := named_new hw0
  have hb0 := named_below hw0
  have hs0 := named_size hw0
  have hP0 := named_old hw0 hP
  have HSS := Lib.hid (show ∀ w' : World, Below w0.heap.size w0 w' → w'.cell? ⟨P, 2, none⟩ = some (.int .i64 (to : Int)) ∧ w'.cell? ⟨P, 7, none⟩ = some (.bool false) ∧
      w'.cell? ⟨W.heap.size, 0, none⟩ = some (.int .i64 2) ∧ w'.cell? ⟨W.heap.size, 1, none⟩ = some (.int .i64 (frm : Int)) ∧ w'.cell? ⟨W.heap.size, 2, none⟩ = some (.int .i64 (to : Int)) ∧ w'.cell? ⟨W.heap.size, 3, none⟩ = some (.int .i64 (ballot : Int)) ∧ w'.cell? ⟨W.heap.size, 4, none⟩ = some (.int .i64 (slot : Int)) ∧ w'.cell? ⟨W.heap.size, 5, none⟩ = some (.int .i64 (vs : Int)) ∧ w'.cell? ⟨W.heap.size, 6, none⟩ = some (.int .i64 (vb : Int)) ∧ w'.cell? ⟨W.heap.size, 7, none⟩ = some (.int .i64 (vo : Int)) ∧ w'.cell? ⟨W.heap.size, 8, none⟩ = some (.bool vf) ∧ w'.cell? ⟨W.heap.size, 9, none⟩ = some (.string vy) ∧ w'.cell? ⟨W.heap.size, 10, none⟩ = some (.slice none 0 0) from by
    intro w' hb
    have e1 := (hb.block P (by omega)).trans hP0
    have e2 := (hb.block W.heap.size (by omega)).trans hM0
    exact ⟨cob e1 2 rfl, cob e1 7 rfl, cob e2 0 rfl, cob e2 1 rfl, cob e2 2 rfl, cob e2 3 rfl, cob e2 4 rfl, cob e2 5 rfl, cob e2 6 rfl, cob e2 7 rfl, cob e2 8 rfl, cob e2 9 rfl, cob e2 10 rfl⟩)
  have hS0 := HSS.out w0 (Below.refl _ _)
  have HB0 := Lib.hid hb0
  clear hb0
  go_enter Tryz.func106, Tryz.ntmps106
  go_wp2
  rw [← hw0]
  clear hw0
  go_region_held3 (fun w' => w'.cell? ⟨P, 2, none⟩ = some (.int .i64 (to : Int)) ∧ w'.cell? ⟨P, 7, none⟩ = some (.bool false) ∧
      w'.cell? ⟨W.heap.size, 0, none⟩ = some (.int .i64 2) ∧ w'.cell? ⟨W.heap.size, 1, none⟩ = some (.int .i64 (frm : Int)) ∧ w'.cell? ⟨W.heap.size, 2, none⟩ = some (.int .i64 (to : Int)) ∧ w'.cell? ⟨W.heap.size, 3, none⟩ = some (.int .i64 (ballot : Int)) ∧ w'.cell? ⟨W.heap.size, 4, none⟩ = some (.int .i64 (slot : Int)) ∧ w'.cell? ⟨W.heap.size, 5, none⟩ = some (.int .i64 (vs : Int)) ∧ w'.cell? ⟨W.heap.size, 6, none⟩ = some (.int .i64 (vb : Int)) ∧ w'.cell? ⟨W.heap.size, 7, none⟩ = some (.int .i64 (vo : Int)) ∧ w'.cell? ⟨W.heap.size, 8, none⟩ = some (.bool vf) ∧ w'.cell? ⟨W.heap.size, 9, none⟩ = some (.string vy) ∧ w'.cell? ⟨W.heap.size, 10, none⟩ = some (.slice none 0 0))
    (first | exact HS1 | exact hS0)
    (first | (go_at_call 105; refine (Hr.out _).mono ?_; rintro e w1 ⟨rfl, hb1'⟩; have hb1 : Below w0.heap.size w0 w1 := below_undrew hb1'; have HS1 := HSS.out w1 hb1))
  have HB1 := Lib.hid (below_next HB0.out hb1)
  obtain ⟨k2, k7, m0, m1, m2, m3, m4, m5, m6, m7, m8, m9, m10⟩ := HS1
  go_wp2_with (first | (go_at_call 142; refine (HP.out _ HB1.out).mono ?_; rintro e w2 ⟨rfl, hQ⟩))
  go_ret
  exact ⟨rfl, hQ⟩
def ackAdd (acks : List Nat) (f : Nat) : List Nat := if f ∈ acks then acks else acks ++ [f]
theorem ack_store {P : Program} {w : World} {t k e : TypeId} {M : Nat} {acks : List Nat} (ht : P.underlying t = some (.map k e)) (hk : P.underlying k = some (.int .i64)) (f : Nat) (h : MapIs w (.int .i64) M (acks.map akv)) :
    ∃ w', (Instr.mapUpdate t (.map (some M)) (.int .i64 (f : Int)) (.bool true)).run P w = .ok () w' ∧ MapIs w' (.int .i64) M ((ackAdd acks f).map akv) ∧ w.grownBy w' (some M) ∧ w'.heap.size = w.heap.size := by
  by_cases hf : f ∈ acks
  · obtain ⟨j, hj, e⟩ := List.getElem_of_mem hf
    have hjm : (acks.map akv)[j]? = some (.int .i64 (f : Int), .bool true) := by rw [List.getElem?_map, List.getElem?_eq_getElem hj, e]; rfl
    obtain ⟨w', h1, h2, h3, h4⟩ := h.store_old (P := P) (key := .int .i64 (f : Int)) ht hk rfl hjm (.bool true)
    refine ⟨w', h1, ?_, h3, h4⟩
    have hl : (acks.map akv).set j (.int .i64 (f : Int), .bool true) = acks.map akv := by
      obtain ⟨hj2, e2⟩ := List.getElem?_eq_some_iff.1 hjm
      rw [← e2]; exact List.set_getElem_self hj2
    rw [hl] at h2
    rw [ackAdd, if_pos hf]; exact h2
  · have hnot : ∀ q ∈ acks.map akv, q.1 ≠ .int .i64 (f : Int) := by
      intro q hq e
      obtain ⟨g2, hg2, rfl⟩ := List.mem_map.1 hq
      injection e with _ e
      exact hf (by have : g2 = f := by omega
                   rwa [← this])
    obtain ⟨w', h1, h2, h3, h4⟩ := h.store_new (P := P) (key := .int .i64 (f : Int)) ht hk rfl hnot (.bool true)
    refine ⟨w', h1, ?_, h3, h4⟩
    rw [ackAdd, if_neg hf, List.map_append]; exact h2
theorem set_map_same {α β : Type} (f : α → β) (l : List α) (j : Nat) (x y : α) (hx : l[j]? = some x) (h : f y = f x) : (l.set j y).map f = l.map f := by
  rw [List.map_set, h]
  obtain ⟨hj, e⟩ := List.getElem?_eq_some_iff.1 hx
  have hj2 : j < (l.map f).length := by simpa using hj
  have : (l.map f)[j]'hj2 = f x := by rw [List.getElem_map, e]
  rw [← this]; exact List.set_getElem_self hj2
def Ent.ack (e : Ent) (f : Nat) : Ent := { e with acks := ackAdd e.acks f }
theorem ldhear_acc (S : Nat → Prop) (P : Nat) (s : Shp) (hs : s.Ok) (me b : Nat) (ps : List Nat) (es : List Ent) (W : World) (h : LdAt W S P s me b ps es true) (hS : Lt S W) (a : Mg) (ha : MgOk a) (hk : a.kind = 4) (hto : a.to = me) (hb : a.ballot = b) (hfn : a.frm < s.n) (e0 : Ent) (hke : es[a.slot]? = some e0) :
    Calls Tryz.prog 106 #[.pointer (some ⟨P, 0, none⟩), mgv a] W fun e W' => e = .returned (.slice none 0 0) ∧ LdAt W' S P s me b ps (es.set a.slot (e0.ack a.frm)) true ∧ Turned S W W' := by
  have Hr := Lib.hid (fun w => mright_yes a ha w)
  have Hn := Lib.hid (fun w => cn_any s hs w)
  obtain ⟨kind, frm, to, ballot, slot, ⟨vs, vb, vo, vf, vy⟩⟩ := a
  simp only at hk hto hb hfn hke
  subst hk
  subst hto
  subst hb
  have HLd := Lib.hid h
  have HS := Lib.hid hS
  obtain ⟨MP, A, c, hP, sP, sM, sA, hM, hO, hE, hN⟩ := h
  have hPl := hS P sP
  have hkl : slot < es.length := (List.getElem?_eq_some_iff.1 hke).1
  have hkg : es[slot] = e0 := (List.getElem?_eq_some_iff.1 hke).2
  obtain ⟨g, rfl, _, hgl, hcl⟩ := hO.form (by omega)
  obtain ⟨sE, hEM, hME⟩ := hE e0 (List.mem_of_getElem? hke)
  have hEl := hS _ sE
  have q2 := hO.cell ecells_len slot 2 hkl (.map (some e0.map)) (by rw [hkg]; rfl)
  have hEP : e0.map ≠ P := fun ee => by
    obtain ⟨es2, clock, hb, _⟩ := hME
    rw [ee, hP] at hb; cases hb
  have hEg : e0.map ≠ g := fun ee => hO.not_map hME (by rw [ee]; rfl)
  clear ha hkg hS
  unfold mgv mcells at Hr ⊢
  simp only at Hr ⊢
  unfold lcells at hP
  unfold shv at Hn
  have HP := Lib.hid hP
  simp only [show ((4 : Nat) : Int) = 4 from rfl] at Hr ⊢
  obtain ⟨w0, hw0⟩ : ∃ w0, w0 = W.alloc (.cells #[.int .i64 4, .int .i64 (frm : Int), .int .i64 (to : Int), .int .i64 (ballot : Int), .int .i64 (slot : Int), .int .i64 (vs : Int), .int .i64 (vb : Int), .int .i64 (vo : Int), .bool vf, .string vy, .slice none 0 0] 133) := ⟨_, rfl⟩
  have hM0 := named_new hw0
  have hb0 := named_below hw0
  have hs0 := named_size hw0
  have hP0 := named_old hw0 hP
  have Hq2 := Lib.hid ((hb0.cell (p := ⟨g, slot * 3 + 2, none⟩) hgl).trans q2)
  have HSS := Lib.hid (show ∀ w' : World, Below w0.heap.size w0 w' → w'.cell? ⟨P, 0, none⟩ = some (.int .i64 (s.K : Int)) ∧ w'.cell? ⟨P, 1, none⟩ = some (.int .i64 (s.F : Int)) ∧ w'.cell? ⟨P, 2, none⟩ = some (.int .i64 (to : Int)) ∧ w'.cell? ⟨P, 3, none⟩ = some (.int .i64 (ballot : Int)) ∧ w'.cell? ⟨P, 5, none⟩ = some (.slice (some ⟨g, 0, none⟩) es.length c) ∧ w'.cell? ⟨P, 6, none⟩ = some (.bool true) ∧ w'.cell? ⟨P, 7, none⟩ = some (.bool false) ∧ w'.cell? ⟨W.heap.size, 0, none⟩ = some (.int .i64 4) ∧ w'.cell? ⟨W.heap.size, 1, none⟩ = some (.int .i64 (frm : Int)) ∧ w'.cell? ⟨W.heap.size, 2, none⟩ = some (.int .i64 (to : Int)) ∧ w'.cell? ⟨W.heap.size, 3, none⟩ = some (.int .i64 (ballot : Int)) ∧ w'.cell? ⟨W.heap.size, 4, none⟩ = some (.int .i64 (slot : Int)) ∧ w'.cell? ⟨W.heap.size, 5, none⟩ = some (.int .i64 (vs : Int)) ∧ w'.cell? ⟨W.heap.size, 6, none⟩ = some (.int .i64 (vb : Int)) ∧ w'.cell? ⟨W.heap.size, 7, none⟩ = some (.int .i64 (vo : Int)) ∧ w'.cell? ⟨W.heap.size, 8, none⟩ = some (.bool vf) ∧ w'.cell? ⟨W.heap.size, 9, none⟩ = some (.string vy) ∧ w'.cell? ⟨W.heap.size, 10, none⟩ = some (.slice none 0 0) ∧ w'.cell? ⟨g, slot * 3 + 2, none⟩ = some (.map (some e0.map)) from by
    intro w' hb
    have e1 := (hb.block P (by omega)).trans hP0
    have e2 := (hb.block W.heap.size (by omega)).trans hM0
    exact ⟨cob e1 0 rfl, cob e1 1 rfl, cob e1 2 rfl, cob e1 3 rfl, cob e1 5 rfl, cob e1 6 rfl, cob e1 7 rfl, cob e2 0 rfl, cob e2 1 rfl, cob e2 2 rfl, cob e2 3 rfl, cob e2 4 rfl, cob e2 5 rfl, cob e2 6 rfl, cob e2 7 rfl, cob e2 8 rfl, cob e2 9 rfl, cob e2 10 rfl, (hb.cell (p := ⟨g, slot * 3 + 2, none⟩) (by show g < _; omega)).trans Hq2.out⟩)
  have hS0 := HSS.out w0 (Below.refl _ _)
  have HB0 := Lib.hid hb0
  have hd1 : decide ((slot : Int) < (es.length : Int)) = true := by simp; omega
  have hd2 : decide ((frm : Int) < (s.n : Int)) = true := by simp; omega
  clear hb0 q2
  go_enter Tryz.func106, Tryz.ntmps106
  go_wp2
  rw [← hw0]
  clear hw0
  go_region_held3 (fun w' => w'.cell? ⟨P, 0, none⟩ = some (.int .i64 (s.K : Int)) ∧ w'.cell? ⟨P, 1, none⟩ = some (.int .i64 (s.F : Int)) ∧ w'.cell? ⟨P, 2, none⟩ = some (.int .i64 (to : Int)) ∧ w'.cell? ⟨P, 3, none⟩ = some (.int .i64 (ballot : Int)) ∧ w'.cell? ⟨P, 5, none⟩ = some (.slice (some ⟨g, 0, none⟩) es.length c) ∧ w'.cell? ⟨P, 6, none⟩ = some (.bool true) ∧ w'.cell? ⟨P, 7, none⟩ = some (.bool false) ∧ w'.cell? ⟨W.heap.size, 0, none⟩ = some (.int .i64 4) ∧ w'.cell? ⟨W.heap.size, 1, none⟩ = some (.int .i64 (frm : Int)) ∧ w'.cell? ⟨W.heap.size, 2, none⟩ = some (.int .i64 (to : Int)) ∧ w'.cell? ⟨W.heap.size, 3, none⟩ = some (.int .i64 (ballot : Int)) ∧ w'.cell? ⟨W.heap.size, 4, none⟩ = some (.int .i64 (slot : Int)) ∧ w'.cell? ⟨W.heap.size, 5, none⟩ = some (.int .i64 (vs : Int)) ∧ w'.cell? ⟨W.heap.size, 6, none⟩ = some (.int .i64 (vb : Int)) ∧ w'.cell? ⟨W.heap.size, 7, none⟩ = some (.int .i64 (vo : Int)) ∧ w'.cell? ⟨W.heap.size, 8, none⟩ = some (.bool vf) ∧ w'.cell? ⟨W.heap.size, 9, none⟩ = some (.string vy) ∧ w'.cell? ⟨W.heap.size, 10, none⟩ = some (.slice none 0 0) ∧ w'.cell? ⟨g, slot * 3 + 2, none⟩ = some (.map (some e0.map)))
    (first | exact HS1 | exact hS0)
    (first | (go_at_call 105; refine (Hr.out _).mono ?_; rintro e w1 ⟨rfl, hb1'⟩; have hb1 : Below w0.heap.size w0 w1 := below_undrew hb1'; have HS1 := HSS.out w1 hb1))
  have HB1 := Lib.hid hb1
  have hs1 := hb1.size
  have HC1 := Lib.hid HS1
  obtain ⟨k0, k1, k2, k3, k5, k6, k7, m0, m1, m2, m3, m4, m5, m6, m7, m8, m9, m10, q2⟩ := HS1
  clear hb1 hb1'
  go_wp2
  go_region_held3 (fun w' => w'.cell? ⟨P, 0, none⟩ = some (.int .i64 (s.K : Int)) ∧ w'.cell? ⟨P, 1, none⟩ = some (.int .i64 (s.F : Int)) ∧ w'.cell? ⟨P, 2, none⟩ = some (.int .i64 (to : Int)) ∧ w'.cell? ⟨P, 3, none⟩ = some (.int .i64 (ballot : Int)) ∧ w'.cell? ⟨P, 5, none⟩ = some (.slice (some ⟨g, 0, none⟩) es.length c) ∧ w'.cell? ⟨P, 6, none⟩ = some (.bool true) ∧ w'.cell? ⟨P, 7, none⟩ = some (.bool false) ∧ w'.cell? ⟨W.heap.size, 0, none⟩ = some (.int .i64 4) ∧ w'.cell? ⟨W.heap.size, 1, none⟩ = some (.int .i64 (frm : Int)) ∧ w'.cell? ⟨W.heap.size, 2, none⟩ = some (.int .i64 (to : Int)) ∧ w'.cell? ⟨W.heap.size, 3, none⟩ = some (.int .i64 (ballot : Int)) ∧ w'.cell? ⟨W.heap.size, 4, none⟩ = some (.int .i64 (slot : Int)) ∧ w'.cell? ⟨W.heap.size, 5, none⟩ = some (.int .i64 (vs : Int)) ∧ w'.cell? ⟨W.heap.size, 6, none⟩ = some (.int .i64 (vb : Int)) ∧ w'.cell? ⟨W.heap.size, 7, none⟩ = some (.int .i64 (vo : Int)) ∧ w'.cell? ⟨W.heap.size, 8, none⟩ = some (.bool vf) ∧ w'.cell? ⟨W.heap.size, 9, none⟩ = some (.string vy) ∧ w'.cell? ⟨W.heap.size, 10, none⟩ = some (.slice none 0 0) ∧ w'.cell? ⟨g, slot * 3 + 2, none⟩ = some (.map (some e0.map)))
    (first | exact HS2 | exact HC1.out)
    (first | (go_at_call 59; refine (Hn.out _).mono ?_; rintro e w2 ⟨rfl, hb2'⟩; have hb2 : Below w0.heap.size w0 w2 := HB1.out.trans ((below_undrew hb2').mono hs1); have HS2 := HSS.out w2 hb2))
  have hs2 := hb2.size
  have hP2 := (hb2.block P (by omega)).trans hP0
  have hM2 := (hb2.block W.heap.size (by omega)).trans hM0
  have HK2 := Lib.hid (show Below W.heap.size W w2 from below_next HB0.out hb2)
  obtain ⟨w3, hst, hA3, hg3, hz3⟩ := ack_store (P := Tryz.prog) (w := w2.drew) Tryz.underlying215 Tryz.underlying3 frm (hME.of_block (w' := w2.drew) (HK2.out.block _ hEl))
  have HA3 := Lib.hid hA3
  have hP3 := (hg3.block P (by show P < w2.heap.size; omega) (by simpa using hEP.symm)).trans hP2
  have hM3 := (hg3.block W.heap.size (by show W.heap.size < w2.heap.size; omega) (by simp; omega)).trans hM2
  have hG3 : w3.heap[g]? = w2.heap[g]? := hg3.block g (by show g < w2.heap.size; omega) (by simpa using hEg.symm)
  obtain ⟨_, _, _, _, l5, _, _, _, n1, _, _, n4, _, _, _, _, _, _, r2⟩ := HS2
  have r3 : w3.cell? ⟨g, slot * 3 + 2, none⟩ = some (.map (some e0.map)) := by
    rw [← r2]; unfold World.cell?; rw [show (⟨g, slot * 3 + 2, none⟩ : Addr).block = g from rfl, hG3]
  have l5' : w3.cell? ⟨P, 5, none⟩ = some (.slice (some ⟨g, 0, none⟩) es.length c) := cob hP3 5 rfl
  have n1' : w3.cell? ⟨W.heap.size, 1, none⟩ = some (.int .i64 (frm : Int)) := cob hM3 1 rfl
  have n4' : w3.cell? ⟨W.heap.size, 4, none⟩ = some (.int .i64 (slot : Int)) := cob hM3 4 rfl
  clear hA3
  go_wp2
  go_region_held3 (fun w' => w'.cell? ⟨P, 5, none⟩ = some (.slice (some ⟨g, 0, none⟩) es.length c) ∧ w'.cell? ⟨W.heap.size, 1, none⟩ = some (.int .i64 (frm : Int)) ∧ w'.cell? ⟨W.heap.size, 4, none⟩ = some (.int .i64 (slot : Int)) ∧ w'.cell? ⟨g, slot * 3 + 2, none⟩ = some (.map (some e0.map)))
    (first | exact ⟨l5', n1', n4', r3⟩ | exact ⟨l5, n1, n4, r2⟩)
    (fail)
  go_wp2
  go_ret
  have hT3 : Turned S W w3 := ((Turned.of_below HK2.out).drew).grown hg3 (fun k hk => by cases hk; exact .inl sE)
  have hkp : ∀ k, k < W.heap.size → k ≠ e0.map → w3.heap[k]? = W.heap[k]? := fun k hk hn => (hg3.block k (by show k < w2.heap.size; omega) (by simpa using hn)).trans (HK2.out.block k hk)
  have hfl : (es.set slot (e0.ack frm)).flatMap ecells = es.flatMap ecells := by
    rw [List.flatMap_def, List.flatMap_def, set_map_same ecells es slot e0 (e0.ack frm) hke rfl]
  have hmp : (es.set slot (e0.ack frm)).map (·.map) = es.map (·.map) := set_map_same (·.map) es slot e0 (e0.ack frm) hke rfl
  refine ⟨rfl, ⟨MP, some ⟨g, 0, none⟩, c, ?_, sP, sM, sA, hM.of_block (hkp MP (HS.out MP sM) (Ne.symm hEM)), ?_, ?_, ?_⟩, hT3⟩
  · rw [List.length_set]; exact hP3
  · have := hO.of_block (w' := w3) (fun k hk => hkp k (hO.lt k hk).2 (fun e => hO.not_map hME (by rw [hk, e])))
    unfold OwnT at this ⊢
    rw [hfl, List.length_set]
    exact this
  · intro e he
    obtain ⟨j, hj, ej⟩ := List.getElem_of_mem he
    rw [List.getElem_set] at ej
    rw [List.length_set] at hj
    by_cases hjs : slot = j
    · rw [if_pos hjs] at ej
      rw [← ej]
      exact ⟨sE, hEM, HA3.out⟩
    · rw [if_neg hjs] at ej
      obtain ⟨h1, h2, h3⟩ := hE e (by rw [← ej]; exact List.getElem_mem _)
      have hne : e.map ≠ e0.map := by
        intro e1
        apply hjs
        have hjj : j < (es.map (·.map)).length := by simpa using hj
        have hss : slot < (es.map (·.map)).length := by simpa using hkl
        refine ((List.getElem_inj (h₀ := hss) (h₁ := hjj) hN).1 ?_)
        rw [List.getElem_map, List.getElem_map, ej, e1]
        exact congrArg (·.map) (List.getElem?_eq_some_iff.1 hke).2
      exact ⟨h1, h2, h3.of_block (hkp _ (HS.out _ h1) hne)⟩
  · rw [hmp]; exact hN
def chosenN (q : Nat) : List Ent → Nat
  | [] => 0
  | e :: t => if e.acks.length < q then 0 else 1 + chosenN q t
theorem chosen_at {q : Nat} : ∀ {es : List Ent} {k : Nat} {e : Ent}, es[k]? = some e → (∀ j x, j < k → es[j]? = some x → ¬ x.acks.length < q) → e.acks.length < q → chosenN q es = k
  | [], k, e, h, _, _ => by simp at h
  | x :: t, 0, e, h, _, he => by
    simp at h; rw [chosenN, h, if_pos he]
  | x :: t, k + 1, e, h, hj, he => by
    have h0 := hj 0 x (by omega) rfl
    rw [chosenN, if_neg h0, chosen_at (es := t) (k := k) (e := e) (by simpa using h) (fun j y hjk hy => hj (j + 1) y (by omega) (by simpa using hy)) he]
    omega
theorem chosen_all {q : Nat} : ∀ {es : List Ent}, (∀ (j : Nat) (x : Ent), es[j]? = some x → ¬ x.acks.length < q) → chosenN q es = es.length
  | [], _ => rfl
  | x :: t, h => by
    rw [chosenN, if_neg (h 0 x rfl), chosen_all (es := t) (fun j y hy => h (j + 1) y (by simpa using hy))]
    simp; omega
theorem ldchosen_any (S : Nat → Prop) (P : Nat) (s : Shp) (hs : s.Ok) (me b : Nat) (ps : List Nat) (es : List Ent) (lead : Bool) (W : World) (h : LdAt W S P s me b ps es lead) (hS : Lt S W) (h64 : es.length ≤ 64) (hacks : ∀ e ∈ es, e.acks.length ≤ 7) :
    Calls Tryz.prog 143 #[.pointer (some ⟨P, 0, none⟩)] W fun e W' => e = .returned (.int .i64 (chosenN s.q es : Nat)) ∧ Below W.heap.size W W' := by
  have Hq := Lib.hid (fun w => quorum_any s hs w)
  obtain ⟨MP, A, c, hP, sP, sM, sA, hM, hO, hE, _⟩ := h
  have hPl := hS P sP
  have HE := Lib.hid hE
  have HA := Lib.hid hacks
  have HS := Lib.hid hS
  have hq7 : s.q ≤ 7 := by have := hs.n7; unfold Shp.q; omega
  have c5 : W.cell? ⟨P, 5, none⟩ = some (.slice A es.length c) := cob hP 5 rfl
  unfold shv at Hq
  unfold lcells at hP
  clear hacks hE hS
  go_enter Tryz.func143, Tryz.ntmps143
  go_wp2
  go_loopw [10] (fun i wr => ∃ (k : Nat), k ≤ es.length ∧ i = .int .i64 k ∧ Hid (∀ j x, j < k → es[j]? = some x → ¬ x.acks.length < s.q) ∧ Below W.heap.size W wr) (fun i _ => es.length - (intOf i).toNat)
  case atStart => exact ⟨0, Nat.zero_le _, rfl, Lib.hid (fun j x hj => by omega), Below.refl _ _⟩
  case round =>
    obtain ⟨k, hk, rfl, hall, hB⟩ := hrel
    have hsw := hB.size
    have hPr := (hB.block P hPl).trans hP
    have d5 : wr.cell? ⟨P, 5, none⟩ = some (.slice A es.length c) := cob hPr 5 rfl
    by_cases hkn : k < es.length
    · obtain ⟨g, rfl, _, hgl, hcl⟩ := hO.form (by omega)
      obtain ⟨e0, he0⟩ : ∃ e0, e0 = es[k] := ⟨_, rfl⟩
      have hget : es[k]? = some e0 := by rw [he0]; exact List.getElem?_eq_getElem hkn
      have hmem : e0 ∈ es := List.mem_of_getElem? hget
      obtain ⟨sE, _, hME⟩ := HE.out e0 hmem
      have hEl := HS.out _ sE
      have ha7 := HA.out e0 hmem
      have q0 := (hB.cell (p := ⟨g, k * 3, none⟩) hgl).trans (hO.cell ecells_len k 0 hkn (.string e0.value) (by rw [he0]; rfl))
      have q1 := (hB.cell (p := ⟨g, k * 3 + 1, none⟩) hgl).trans (hO.cell ecells_len k 1 hkn (.int .i64 (e0.origin : Int)) (by rw [he0]; rfl))
      have q2 := (hB.cell (p := ⟨g, k * 3 + 2, none⟩) hgl).trans (hO.cell ecells_len k 2 hkn (.map (some e0.map)) (by rw [he0]; rfl))
      have Hget := Lib.hid hget
      clear he0 hget
      go_wp2
      obtain ⟨w0, hw0⟩ : ∃ w0, w0 = wr.alloc (.cells #[.string e0.value, .int .i64 (e0.origin : Int), .map (some e0.map)] 217) := ⟨_, rfl⟩
      rw [← hw0]
      have hE0 := named_new hw0
      have hP0 := named_old hw0 hPr
      have hb0 := named_below hw0
      have hs0 := named_size hw0
      have HM0 := Lib.hid ((hME.of_block (hB.block _ hEl)).of_block (hb0.block _ (by omega)))
      have HB0 := Lib.hid (hB.trans (hb0.mono hsw))
      clear hw0 hb0 q0 q1 q2
      have hml : (e0.acks.map akv).length = e0.acks.length := by simp
      have hlen : ∀ w', w'.heap[e0.map]? = w0.heap[e0.map]? → (Builtin.len_ #[215] 3 #[.map (some e0.map)]).run Tryz.prog w' = .ok (.int .i64 ((e0.acks.length : Nat) : Int)) w' := fun w' hw' => by
        have := (HM0.out.of_block hw').len (P := Tryz.prog) Tryz.underlying215 3
        rw [hml] at this; exact this
      have HLn := Lib.hid hlen
      clear hlen hml
      have HSS := Lib.hid (show ∀ w', Below w0.heap.size w0 w' → w'.cell? ⟨P, 0, none⟩ = some (.int .i64 (s.K : Int)) ∧ w'.cell? ⟨P, 1, none⟩ = some (.int .i64 (s.F : Int)) ∧ w'.cell? ⟨wr.heap.size, 2, none⟩ = some (.map (some e0.map)) ∧ (Builtin.len_ #[215] 3 #[.map (some e0.map)]).run Tryz.prog w' = .ok (.int .i64 ((e0.acks.length : Nat) : Int)) w' from fun w' hb =>
        ⟨cob ((hb.block P (by omega)).trans hP0) 0 rfl, cob ((hb.block P (by omega)).trans hP0) 1 rfl, cob ((hb.block wr.heap.size (by omega)).trans hE0) 2 rfl, HLn.out w' (hb.block _ (by omega))⟩)
      have hS0 := HSS.out w0 (Below.refl _ _)
      have hS0d := HSS.out w0.drew (Below.refl _ _).drew
      go_region_held3 (fun w' => w'.cell? ⟨P, 0, none⟩ = some (.int .i64 (s.K : Int)) ∧ w'.cell? ⟨P, 1, none⟩ = some (.int .i64 (s.F : Int)) ∧ w'.cell? ⟨wr.heap.size, 2, none⟩ = some (.map (some e0.map)) ∧ (Builtin.len_ #[215] 3 #[.map (some e0.map)]).run Tryz.prog w' = .ok (.int .i64 ((e0.acks.length : Nat) : Int)) w')
        (first | exact HS1 | exact hS0 | exact hS0d)
        (first | (go_at_call 157; refine (Hq.out _).mono ?_; rintro e w1 ⟨rfl, hb1'⟩; have hb1 : Below w0.heap.size w0 w1 := below_undrew hb1'; have HS1 := HSS.out w1 hb1))
      have HB1 := Lib.hid (show Below W.heap.size W w1 from HB0.out.trans (hb1.mono (by omega)))
      clear hS0 hS0d HS1 hb1 hb1'
      by_cases hlt : e0.acks.length < s.q
      · have HC := Lib.hid (chosen_at Hget.out hall.out hlt)
        go_wp2
        go_ret
        exact ⟨by rw [HC.out]; rfl, HB1.out⟩
      · have HC := Lib.hid (show ∀ j x, j < k + 1 → es[j]? = some x → ¬ x.acks.length < s.q from fun j x hj hx => by
          rcases Nat.lt_or_ge j k with h | h
          · exact hall.out j x h hx
          · obtain rfl : j = k := by omega
            rw [Hget.out] at hx; injection hx with hx; rw [← hx]; exact hlt)
        go_wp2
        go_roundw
        case rel => exact ⟨k + 1, by omega, by go_num, HC, HB1.out⟩
        case measure => simp [intOf]; omega
    · obtain rfl : k = es.length := by omega
      have HC := Lib.hid (chosen_all (q := s.q) (es := es) (fun j x hx => hall.out j x (List.getElem?_eq_some_iff.1 hx).1 hx))
      go_wp2
      go_ret
      exact ⟨by rw [HC.out]; rfl, hB⟩
theorem ldvalue_any (S : Nat → Prop) (P : Nat) (s : Shp) (me b : Nat) (ps : List Nat) (es : List Ent) (lead : Bool) (W : World) (h : LdAt W S P s me b ps es lead) (k : Nat) (e0 : Ent) (hk : es[k]? = some e0) :
    Calls Tryz.prog 144 #[.pointer (some ⟨P, 0, none⟩), .int .i64 (k : Int)] W fun e W' => e = .returned (.tuple #[.string e0.value, .int .i64 (e0.origin : Int)]) ∧ Below W.heap.size W W' := by
  obtain ⟨MP, A, c, hP, _, _, _, _, hO, _, _⟩ := h
  have hkl : k < es.length := (List.getElem?_eq_some_iff.1 hk).1
  have hke : es[k] = e0 := (List.getElem?_eq_some_iff.1 hk).2
  obtain ⟨g, rfl, _, hgl, hcl⟩ := hO.form (by omega)
  have q0 := hO.cell ecells_len k 0 hkl (.string e0.value) (by rw [hke]; rfl)
  rw [Nat.add_zero] at q0
  have q1 := hO.cell ecells_len k 1 hkl (.int .i64 (e0.origin : Int)) (by rw [hke]; rfl)
  have c5 : W.cell? ⟨P, 5, none⟩ = some (.slice (some ⟨g, 0, none⟩) es.length c) := cob hP 5 rfl
  have hd1 : decide ((k : Int) < 0) = false := by simp
  have hd2 : decide ((k : Int) ≥ (es.length : Int)) = false := by simp; omega
  clear hk hke
  go_enter Tryz.func144, Tryz.ntmps144
  go_wp2
  go_quiet (fail)
  go_wp2
  go_ret2
  exact ⟨rfl, below_drewN (Below.refl _ _)⟩
section
variable {P : Program} {α : Type} (mk : α → List Value) (w : World)
theorem run_append_stl (h1 : ∀ x, ∀ u ∈ mk x, u.oneCell' = true) (base : Nat) (t ty e : TypeId) (i : TypeInfo) (z : Value) (sz bsz : Nat) (hmk : ∀ x, (mk x).length = sz) (hs0 : 0 < sz) (ht : P.underlying t = some (.slice e)) (hi : P.info? e = some i) (hz : i.zero = some z)
    (hsize : i.size = sz) (hby : i.bytes = bsz) (hzs : z.cells.size = sz) (S : Option Addr) (d : Nat) (l : List α) (hown : OwnT mk e sz w base S d l)
    (base2 : Nat) (A2 : Option Addr) (c2 : Nat) (l2 : List α) (hown2 : OwnT mk e sz w base2 A2 c2 l2) (h63 : l.length + l2.length ≤ maxLen) (hb : (l.length + l2.length) * bsz ≤ 140737488355328) (hbase : base ≤ w.heap.size) :
    ∃ A' c' w', (Builtin.append_ #[t, t] ty #[.slice S l.length d, .slice A2 l2.length c2]).run P w = .ok (.slice A' (l ++ l2).length c') w' ∧ OwnT mk e sz w' base A' c' (l ++ l2) ∧ Below base w w' ∧ w.grownBy w' (blk S) ∧ (blk A' = blk S ∨ blk A' = some w.heap.size) := by
  have hsub := hown2.2
  rcases hsub with ⟨e1, e2⟩ | ⟨g, cap, cur, e1, hb2, hg, hn, hc, hs, htk⟩
  · have hl0 : l2 = [] := List.eq_nil_of_length_eq_zero e2
    subst hl0
    have hrun := run_append_owned_none (P := P) (w := w) base t ty e i sz ht hi _ _ _ hown
    injection e1 with e3 _ e4
    subst e3; subst e4
    refine ⟨S, d, w, by rw [List.append_nil]; exact hrun, by rw [List.append_nil]; exact hown, Below.refl _ _, ⟨rfl, rfl, rfl, Nat.le_refl _, fun _ _ _ => rfl⟩, .inl rfl⟩
  · injection e1 with e3 _ e4
    subst e3
    obtain ⟨v', w', hrun, h2, h3, _, h5⟩ := run_append_own_at (P := P) w base t ty e i z sz bsz ht hi hz hsize hby hzs hs0 (.slice S l.length d) l.length (l.flatMap mk) hown ⟨g, 0, none⟩ l2.length c2 (l2.flatMap mk) (flat_len mk sz hmk l2)
      (fun j u hu => World.ownsRow.cells hown2 (g := g) rfl j u hu) (by
        intro u hu
        obtain ⟨x, hx, hu⟩ := List.mem_flatMap.1 hu
        exact h1 x u hu) h63 hb hbase
    have hshape : ∃ A' c', v' = .slice A' (l ++ l2).length c' := by
      rcases h2.2 with ⟨e1, e2⟩ | ⟨g, cap, cur, e1, _⟩
      · have hl0 : (l ++ l2).length = 0 := by rw [List.length_append]; exact e2
        exact ⟨none, 0, by rw [e1, hl0]⟩
      · exact ⟨_, _, by rw [e1, List.length_append]⟩
    obtain ⟨A', c', rfl⟩ := hshape
    rw [ownBlock_blk] at h3; rw [ownBlock_blk, ownBlock_blk] at h5
    refine ⟨A', c', w', hrun, ?_, ?_, h3, h5⟩
    · unfold OwnT; rw [List.flatMap_append, List.length_append]; rw [List.length_append] at h2; exact h2
    · refine (Below.refl base w).grown h3 hbase fun k hk => ?_
      exact (World.ownsRow.lt hown k (by rw [ownBlock_blk]; exact hk)).1
theorem wpList_append_stl (h1 : ∀ x, ∀ u ∈ mk x, u.oneCell' = true) {ops : Array Oper} {rest : List Oper} {o : Oper} {a : Act} {Q : Exit → Act → World → Prop} (hgd : o.guard = none) (s x : Operand) (t : TypeId)
    (ho : o.op = .call { callee := .builtin .append, args := #[s, x], argTypes := #[t, t] })
    (base : Nat) (e : TypeId) (i : TypeInfo) (z : Value) (sz bsz : Nat) (hmk : ∀ x, (mk x).length = sz) (hs0 : 0 < sz) (ht : P.underlying t = some (.slice e)) (hi : P.info? e = some i) (hz : i.zero = some z)
    (hsize : i.size = sz) (hby : i.bytes = bsz) (hzs : z.cells.size = sz) (S : Option Addr) (d : Nat) (l : List α) (hs : a.eval s = .slice S l.length d) (hown : OwnT mk e sz w base S d l)
    (base2 : Nat) (A2 : Option Addr) (c2 : Nat) (l2 : List α) (hx : a.eval x = .slice A2 l2.length c2) (hown2 : OwnT mk e sz w base2 A2 c2 l2) (h63 : l.length + l2.length ≤ maxLen) (hb : (l.length + l2.length) * bsz ≤ 140737488355328) (hbase : base ≤ w.heap.size)
    (h : ∀ L A' c' w', Hid (L = l ++ l2) → OwnT mk e sz w' base A' c' L → Below base w w' → w.grownBy w' (blk S) → (blk A' = blk S ∨ blk A' = some w.heap.size) → wpList P ops Q rest (a.put o.dst (.slice A' L.length c')) w') :
    wpList P ops Q (o :: rest) a w := by
  refine wpList_plain hgd fun K hK => ?_
  obtain ⟨A', c', w', hrun, h2, h3, h4, h5⟩ := run_append_stl (P := P) mk w h1 base t o.type e i z sz bsz hmk hs0 ht hi hz hsize hby hzs S d l hown base2 A2 c2 l2 hown2 h63 hb hbase
  unfold Oper.wp execOp
  simp only [ho, resolve, invoke, builtin, Sem.run_bind, Sem.run_pure, Result.andThen_ok, List.map_toArray, List.map_cons, List.map_nil, hs, hx, hrun]
  exact hK _ _ (h _ A' c' w' (Lib.hid rfl) h2 h3 h4 h5)
end
def againL (q n me b : Nat) (es : List Ent) : Nat → List Am
  | 0 => []
  | k + 1 => againL q n me b es k ++ (match es[k]? with | some e => if e.acks.length < q then accL me b k e.origin e.acks n else [] | none => [])
theorem ldagain_any (S : Nat → Prop) (P : Nat) (s : Shp) (hs : s.Ok) (me b : Nat) (hme : me < s.n) (hb1 : 1 ≤ b) (hb2 : b ≤ 2147483647) (ps : List Nat) (es : List Ent) (full : Bool) (W : World) (h : LdAt W S P s me b ps es true) (hS : Lt S W) (h64 : es.length ≤ 64) (hok : ∀ e ∈ es, EntOk s.n b e ∧ e.acks.length ≤ 7) :
    Calls Tryz.prog 116 #[.pointer (some ⟨P, 0, none⟩), .bool full] W fun e W' => ∃ (L : List Mg) (A : Option Addr) (c : Nat), Hid (L.map absM = againL s.q s.n me b es es.length) ∧ (∀ m ∈ L, MgOk m) ∧ e = .returned (.slice A L.length c) ∧ OwnT mcells 133 11 W' W.heap.size A c L ∧ Below W.heap.size W W' := by
  have Hq := Lib.hid (fun w => quorum_any s hs w)
  obtain ⟨i1, hi1, hy0, hy1, hy2⟩ := info_parts Tryz.infoM
  have Hacc := Lib.hid (fun (w : World) (h : LdAt w S P s me b ps es true) (hS : Lt S w) (k : Nat) (e0 : Ent) (hk : es[k]? = some e0) => ldaccepts_any S P s hs me b hme hb1 hb2 ps es true full w h hS k e0 hk (by have := (List.getElem?_eq_some_iff.1 hk).1; omega) (hok e0 (List.mem_of_getElem? hk)).1.v (hok e0 (List.mem_of_getElem? hk)).1.o1 (hok e0 (List.mem_of_getElem? hk)).1.o2)
  have HLd := Lib.hid h
  obtain ⟨MP, A, c, hP, sP, sM, sA, hM, hO, hE, _⟩ := h
  have hPl := hS P sP
  have HE := Lib.hid hE
  have HA := Lib.hid (show ∀ e ∈ es, e.acks.length ≤ 7 from fun e he => (hok e he).2)
  have HS := Lib.hid hS
  have hn7 : s.n ≤ 7 := hs.n7
  have hq7 : s.q ≤ 7 := by unfold Shp.q; unfold Shp.n at hn7; omega
  unfold shv at Hq
  unfold lcells at hP
  clear hok hE hS
  go_enter Tryz.func116, Tryz.ntmps116
  have y6 : W.cell? ⟨P, 6, none⟩ = some (.bool true) := cob hP 6 rfl
  have y7 : W.cell? ⟨P, 7, none⟩ = some (.bool false) := cob hP 7 rfl
  have y5 : W.cell? ⟨P, 5, none⟩ = some (.slice A es.length c) := cob hP 5 rfl
  go_wp2
  generalize hw0 : World.alloc W _ = w0
  have hX0 := named_new hw0.symm
  have hP0 := named_old hw0.symm hP
  have hb0 := named_below hw0.symm
  have hs0 := named_size hw0.symm
  have HL0 := Lib.hid (show ([] : List Mg).map absM = againL s.q s.n me b es 0 from rfl)
  clear hw0 y5 y6 y7
  go_loopw [5, 28] (fun o i wr => ∃ (k : Nat) (L : List Mg) (A2 : Option Addr) (c2 : Nat), k ≤ es.length ∧ i = .int .i64 k ∧ o = .slice A2 L.length c2 ∧ Hid (L.map absM = againL s.q s.n me b es k) ∧ Hid (∀ m ∈ L, MgOk m) ∧ L.length ≤ 7 * k ∧ OwnT mcells 133 11 wr w0.heap.size A2 c2 L ∧ Below w0.heap.size w0 wr) (fun _ i _ => es.length - (intOf i).toNat)
  case atStart => exact ⟨0, [], none, 0, Nat.zero_le _, rfl, rfl, HL0, Lib.hid (fun m hm => (by cases hm)), Nat.le_refl _, OwnT.nil _ _ _ _ _, Below.refl _ _⟩
  case round =>
    obtain ⟨k, L, A2, c2, hk, rfl, rfl, hL, hLm, hlk, hO2, hB⟩ := hrel
    have hsw := hB.size
    by_cases hkn : k < es.length
    · obtain ⟨g, rfl, _, hgl, hcl⟩ := hO.form (by omega)
      obtain ⟨e0, he0⟩ : ∃ e0, e0 = es[k] := ⟨_, rfl⟩
      have hget : es[k]? = some e0 := by rw [he0]; exact List.getElem?_eq_getElem hkn
      have hmem : e0 ∈ es := List.mem_of_getElem? hget
      obtain ⟨sE, _, hME⟩ := HE.out e0 hmem
      have hEl := HS.out _ sE
      have ha7 := HA.out e0 hmem
      have hBW : Below W.heap.size W wr := hb0.trans (hB.mono (by omega))
      have q0 := (hBW.cell (p := ⟨g, k * 3, none⟩) hgl).trans (hO.cell ecells_len k 0 hkn (.string e0.value) (by rw [he0]; rfl))
      have q1 := (hBW.cell (p := ⟨g, k * 3 + 1, none⟩) hgl).trans (hO.cell ecells_len k 1 hkn (.int .i64 (e0.origin : Int)) (by rw [he0]; rfl))
      have q2 := (hBW.cell (p := ⟨g, k * 3 + 2, none⟩) hgl).trans (hO.cell ecells_len k 2 hkn (.map (some e0.map)) (by rw [he0]; rfl))
      have Hget := Lib.hid hget
      clear he0 hget
      go_wp2
      generalize hw5 : World.alloc wr _ = w5
      have hZ5 := named_new hw5.symm
      have hb5 := named_below hw5.symm
      have hs5 := named_size hw5.symm
      clear hw5 q0 q1 q2
      have hX5 := (hb5.block W.heap.size (by omega)).trans ((hB.block W.heap.size (by omega)).trans hX0)
      have hP5 := (hb5.block P (by omega)).trans ((hB.block P (by omega)).trans hP0)
      have hM5 := hME.of_block ((hb5.block _ (by omega)).trans (hBW.block _ hEl))
      have hml : (e0.acks.map akv).length = e0.acks.length := by simp
      obtain ⟨M, hM⟩ : ∃ M, w5.heap[e0.map]? = some M := ⟨_, Array.getElem?_eq_getElem (by omega)⟩
      obtain ⟨Y, hY⟩ : ∃ Y, w5.heap[P]? = some Y := ⟨_, hP5⟩
      obtain ⟨X, hX⟩ : ∃ X, w5.heap[W.heap.size]? = some X := ⟨_, hX5⟩
      obtain ⟨Z, hZ⟩ : ∃ Z, w5.heap[wr.heap.size]? = some Z := ⟨_, hZ5⟩
      have hlen : ∀ w', w'.heap[e0.map]? = some M → (Builtin.len_ #[215] 3 #[.map (some e0.map)]).run Tryz.prog w' = .ok (.int .i64 ((e0.acks.length : Nat) : Int)) w' := fun w' hw' => by
        have := (hM5.of_block (hw'.trans hM.symm)).len (P := Tryz.prog) Tryz.underlying215 3
        rw [hml] at this; exact this
      clear hml
      have k0 : ∀ w : World, w.heap[P]? = some Y → w.cell? ⟨P, 0, none⟩ = some (.int .i64 (s.K : Int)) := fun w hw => cob (hw.trans (hY.symm.trans hP5)) 0 rfl
      have k1 : ∀ w : World, w.heap[P]? = some Y → w.cell? ⟨P, 1, none⟩ = some (.int .i64 (s.F : Int)) := fun w hw => cob (hw.trans (hY.symm.trans hP5)) 1 rfl
      have x0 : ∀ w : World, w.heap[W.heap.size]? = some X → w.cell? ⟨W.heap.size, 0, none⟩ = some (.pointer (some ⟨P, 0, none⟩)) := fun w hw => cob (hw.trans (hX.symm.trans hX5)) 0 rfl
      have z2 : ∀ w : World, w.heap[wr.heap.size]? = some Z → w.cell? ⟨wr.heap.size, 2, none⟩ = some (.map (some e0.map)) := fun w hw => cob (hw.trans (hZ.symm.trans hZ5)) 2 rfl
      have HSS := Lib.hid (show ∀ w', Below w5.heap.size w5 w' → w'.heap[P]? = some Y ∧ w'.heap[W.heap.size]? = some X ∧ w'.heap[wr.heap.size]? = some Z ∧ w'.heap[e0.map]? = some M from fun w' hb =>
        ⟨(hb.block P (by omega)).trans hY, (hb.block W.heap.size (by omega)).trans hX, (hb.block wr.heap.size (by omega)).trans hZ, (hb.block e0.map (by omega)).trans hM⟩)
      have hS0 := HSS.out w5 (Below.refl _ _)
      have hS0d := HSS.out w5.drew (Below.refl _ _).drew
      go_region_held3 (fun w' => w'.heap[P]? = some Y ∧ w'.heap[W.heap.size]? = some X ∧ w'.heap[wr.heap.size]? = some Z ∧ w'.heap[e0.map]? = some M)
        (first | exact HS1 | exact hS0 | exact hS0d)
        (first | (go_at_call 157; refine (Hq.out _).mono ?_; rintro e w6 ⟨rfl, hb6'⟩; have hb6 : Below w5.heap.size w5 w6 := below_undrew hb6'; have HS1 := HSS.out w6 hb6))
      have HB6 := Lib.hid (show Below w0.heap.size w0 w6 from hB.trans ((hb5.trans (hb6.mono (by omega))).mono hsw))
      have hs6 := hb6.size
      have HO6 := Lib.hid ((hO2.below hb5 (Nat.le_refl _)).below hb6 (Nat.le_refl _))
      have hx6 := x0 w6 HS1.2.1
      clear hS0 hS0d HS1 hb6 hb6' hlen k0 k1 x0 z2 hO2 hX5 hP5 hM5 hZ5
      by_cases hlt : e0.acks.length < s.q
      · have Hlt := Lib.hid hlt
        have HBW6 := Lib.hid (show Below W.heap.size W w6 from hb0.trans (HB6.out.mono (by omega)))
        have HA6 := Lib.hid (Hacc.out w6 (HLd.out.frame (fun q hq => HBW6.out.block q (HS.out q hq))) (fun q hq => Nat.lt_of_lt_of_le (HS.out q hq) HBW6.out.size) k e0 Hget.out)
        have HLen := Lib.hid (show ∀ L7 : List Mg, L7.map absM = accL me b k e0.origin e0.acks s.n → L7.length ≤ 7 from fun L7 h => by
          have := congrArg List.length h
          rw [List.length_map] at this
          rw [this]
          exact Nat.le_trans (accL_len _ _ _ _ _ _) hn7)
        go_wp2_with (first | (have _ := hl7; at_builtin; refine wpList_append_stl mcells _ mcells_one rfl (.tmp 42) (.tmp 46) _ rfl w0.heap.size 133 i1 _ 11 112 mcells_len (by decide) Tryz.underlying127 hi1 hy0 hy1 hy2 (by rfl) A2 c2 L rfl hO67 w6.heap.size A7 c7 L7 rfl hO7 (by unfold maxLen; omega) (by omega) (by omega) ?_; intro X2 B4 d4 w8 hX2 ho8 hb8 hg8 ha8) | (go_at_call 132; refine HA6.out.mono ?_; rintro e w7 ⟨L7, A7, c7, hL7, hm7, rfl, hO7, hb7⟩; have hl7 := HLen.out L7 hL7.out; have hb7s := hb7.size; have hO67 := HO6.out.below hb7 (Nat.le_refl _)))
        have hB8 : Below w0.heap.size w0 w8 := (HB6.out.trans (hb7.mono (by omega))).trans hb8
        have hX := hX2.out
        have hL8 : X2.map absM = againL s.q s.n me b es (k + 1) := by
          rw [hX, List.map_append, hL.out, hL7.out, againL, Hget.out]
          simp only []
          rw [if_pos Hlt.out]
        have hm8 : ∀ m ∈ X2, MgOk m := by
          rw [hX]; intro m hm
          rcases List.mem_append.1 hm with h | h
          · exact hLm.out m h
          · exact hm7 m h
        have hl8 : X2.length ≤ 7 * (k + 1) := by rw [hX, List.length_append]; omega
        clear hX2 hX ha8 hg8 hb8 hb7
        go_roundw
        case rel => exact ⟨k + 1, X2, B4, d4, by omega, by go_num, rfl, Lib.hid hL8, Lib.hid hm8, hl8, ho8, hB8⟩
        case measure => simp [intOf]; omega
      · have hL8 : Hid (L.map absM = againL s.q s.n me b es (k + 1)) := Lib.hid (by
          rw [hL.out, againL, Hget.out]
          simp only []
          rw [if_neg hlt, List.append_nil])
        go_wp2
        go_roundw
        case rel => exact ⟨k + 1, L, A2, c2, by omega, by go_num, rfl, hL8, hLm, by omega, HO6.out, HB6.out⟩
        case measure => simp [intOf]; omega
    · obtain rfl : k = es.length := by omega
      go_wp2
      go_ret
      exact ⟨L, A2, c2, hL, hLm.out, rfl, hO2.low (by omega), hb0.trans (hB.mono (by omega))⟩
end Go.Proofs.YtoigogjmhkpdlaaGreat
