/- A part of the proof of WholeFew: the texts ApplyB, NoteA, ClustF. -/
import Derived.Test.YtoigogjmhkpdlaaGreatJ23
import Derived.Test.YtoigogjmhkpdlaaGreatJ36
set_option maxHeartbeats 6400000
set_option maxRecDepth 100000
namespace Go.Proofs.YtoigogjmhkpdlaaGreat
open Go.RowKit
def waitv (slot : Nat) (c : Cm) : Value × Value := (.int .i64 (slot : Int), .agg #[.int .i64 c.client, .int .i64 c.seq])
theorem napply_1 (S : Nat → Prop) (N : Nat) (s : Shp) (hs : s.Ok) (me D m : Nat) (rs : List Rc) (l : LdM) (dn : List (Value × Value))
    (hl : l.leads = true) (hch : chosenN s.q l.es = 1) (h64 : l.es.length ≤ 64) (hac : ∀ e ∈ l.es, e.acks.length ≤ 7) (e0 : Ent) (he : l.es[0]? = some e0) (c : Cm) (hr : rightC c = true) (hv : e0.value = strN (cmdN c))
    (W : World) (h : NodeAt TreeE W S N s me D m rs (some l) 0 [] [waitv 0 c] dn) :
    Calls Tryz.prog 107 #[.pointer (some ⟨N, 0, none⟩)] W fun e W' => ∃ (g cap : Nat) (r : Rp) (dn' : List (Value × Value)) (S' : Nat → Prop), e = .returned (.slice (some ⟨g, 0, none⟩) 1 cap) ∧ OwnT acells 45 7 W' W.heap.size (some ⟨g, 0, none⟩) cap [⟨c.client, c.seq, 0, r⟩] ∧ r.e = 0 ∧ NodeAt (TreeK c) W' S' N s me D m rs (some l) 1 [(.int .i64 c.client, lastv c.seq r)] [] dn' ∧ Step S W W' S' := by
  refine (napply_one TreeE (TreeK c) TreeE.framed (TreeK.framed c) S N s hs me D m rs l 0 [] dn hl hch h64 hac e0 he c hr hv 0 (seq_of hr) (fun S P w h => stlast_none TreeE S P c.client w h) (fun r cl' => cl' = [(.int .i64 c.client, lastv c.seq r)]) (fun S P w h hS => ?_) W h).mono ?_
  · refine (stapply_1 c hr S P w h hS).mono ?_
    rintro e W' ⟨r, S', rfl, h0, h1, h2⟩
    exact ⟨r, _, S', rfl, h0, rfl, h1, h2⟩
  · rintro e W' ⟨g, cap, r, cl', dn', S', rfl, h1, h2, rfl, h3, h4⟩
    exact ⟨g, cap, r, dn', S', rfl, h1, h2, h3, h4⟩
theorem napply_2 (S : Nat → Prop) (N : Nat) (s : Shp) (hs : s.Ok) (me D m : Nat) (rs : List Rc) (l : LdM) (dn : List (Value × Value))
    (hl : l.leads = true) (hch : chosenN s.q l.es = 2) (h64 : l.es.length ≤ 64) (hac : ∀ e ∈ l.es, e.acks.length ≤ 7) (e0 : Ent) (he : l.es[1]? = some e0) (c : Cm) (hr : rightC c = true) (hv : e0.value = strN (cmdN c)) (q : Int) (r0 : Rp) (hq : q < c.seq)
    (W : World) (h : NodeAt (TreeK c) W S N s me D m rs (some l) 1 [(.int .i64 c.client, lastv q r0)] [waitv 1 c] dn) :
    Calls Tryz.prog 107 #[.pointer (some ⟨N, 0, none⟩)] W fun e W' => ∃ (g cap : Nat) (r : Rp) (cl' dn' : List (Value × Value)) (S' : Nat → Prop), e = .returned (.slice (some ⟨g, 0, none⟩) 1 cap) ∧ OwnT acells 45 7 W' W.heap.size (some ⟨g, 0, none⟩) cap [⟨c.client, c.seq, 1, r⟩] ∧ r.e = 0 ∧ NodeAt TreeU W' S' N s me D m rs (some l) 2 cl' [] dn' ∧ Step S W W' S' := by
  refine (napply_one (TreeK c) TreeU (TreeK.framed c) TreeU.framed S N s hs me D m rs l 1 _ dn hl hch h64 hac e0 he c hr hv q hq (fun S P w h => stlast_some (TreeK c) S P c.client q r0 w h) (fun _ _ => True) (fun S P w h hS => ?_) W h).mono ?_
  · refine (stapply_2 c hr q r0 hq S P w h hS).mono ?_
    rintro e W' ⟨r, cl', S', rfl, h0, h1, h2⟩
    exact ⟨r, cl', S', rfl, h0, trivial, h1, h2⟩
  · rintro e W' ⟨g, cap, r, cl', dn', S', rfl, h1, h2, _, h3, h4⟩
    exact ⟨g, cap, r, cl', dn', S', rfl, h1, h2, h3, h4⟩
structure Td where
  at_ : Nat
  a : Ans
def tdcells (t : Td) : List Value := .int .i64 (t.at_ : Int) :: acells t.a
theorem tdcells_len (t : Td) : (tdcells t).length = 8 := rfl
theorem tdcells_one (t : Td) : ∀ u ∈ tdcells t, u.oneCell' = true := by
  intro u hu
  rcases List.mem_cons.1 hu with rfl | hu
  · rfl
  · exact acells_one _ u hu
theorem Tryz.infoTd : (Tryz.prog.info? 52).map (fun i => (i.zero, i.size, i.bytes)) = some (some (.agg #[.int .i64 0, .int .i64 0, .int .i64 0, .int .i64 0, .int .i64 0, .bool false, .string ByteArray.empty, .slice none 0 0]), 8, 88) := by kernel_rfl
theorem note_none (C : Nat) (W : World) : Calls Tryz.prog 64 #[.pointer (some ⟨C, 0, none⟩), .slice none 0 0] W fun e W' => e = .returned (.tuple #[]) ∧ W = W' := by
  go_enter Tryz.func64, Tryz.ntmps64
  go_wp2
  refine wp_loop_rounds 1 ?_
  rw [rounds_succ]
  go_wp2
  go_end0
  exact ⟨rfl, rfl⟩
theorem note_one (C : Nat) (v0 v1 v2 v4 v6 : Value) (clock : Nat) (A : Option Addr) (tc base : Nat) (told : List Td) (ht : told.length ≤ 1000000) (g cap base2 : Nat) (a : Ans) (W : World) (hC : W.heap[C]? = some (.cells #[v0, v1, v2, .int .i64 (clock : Int), v4, .slice A told.length tc, v6] 88)) (hO : OwnT tdcells 52 8 W base A tc told) (hg : OwnT acells 45 7 W base2 (some ⟨g, 0, none⟩) cap [a]) (hbase : base ≤ W.heap.size) :
    Calls Tryz.prog 64 #[.pointer (some ⟨C, 0, none⟩), .slice (some ⟨g, 0, none⟩) 1 cap] W fun e W' => e = .returned (.tuple #[]) ∧ ∃ A' tc', W'.heap[C]? = some (.cells #[v0, v1, v2, .int .i64 (clock : Int), v4, .slice A' (told.length + 1) tc', v6] 88) ∧ OwnT tdcells 52 8 W' base A' tc' (told ++ [⟨clock, a⟩]) ∧ Turned (fun k => k = C ∨ blk A = some k) W W' ∧ (blk A' = blk A ∨ ∃ k, blk A' = some k ∧ W.heap.size ≤ k) := by
  obtain ⟨i1, hi1, hy0, hy1, hy2⟩ := info_parts Tryz.infoTd
  have hCl := (Array.getElem?_eq_some_iff.1 hC).1
  have hCA : blk A ≠ some C := fun e => by
    rcases hO.2 with ⟨h1, _⟩ | ⟨g2, cap2, cur, hv, _, hh, _⟩
    · injection h1 with h1 _ _; rw [h1] at e; cases e
    · injection hv with hA _ _
      rw [hA] at e
      have e2 : g2 = C := by simpa [blk] using e
      rw [e2, hC] at hh
      injection hh with hh
      injection hh with _ ht _
      cases ht
  obtain ⟨acl, asq, asl, ⟨are, ard, arv⟩⟩ := a
  have g0 := OwnT.cell hg acells_len 0 0 (by simp) (.int .i64 acl) rfl
  have g1 := OwnT.cell hg acells_len 0 1 (by simp) (.int .i64 asq) rfl
  have g2 := OwnT.cell hg acells_len 0 2 (by simp) (.int .i64 asl) rfl
  have g3 := OwnT.cell hg acells_len 0 3 (by simp) (.int .i64 are) rfl
  have g4 := OwnT.cell hg acells_len 0 4 (by simp) (.bool ard) rfl
  have g5 := OwnT.cell hg acells_len 0 5 (by simp) (.string arv) rfl
  have g6 := OwnT.cell hg acells_len 0 6 (by simp) (.slice none 0 0) rfl
  simp only [Nat.zero_mul, Nat.zero_add] at g0 g1 g2 g3 g4 g5 g6
  have HCb := Lib.hid (fun (w : World) (h : w.heap[C]? = W.heap[C]?) => h.trans hC)
  have HO := Lib.hid hO
  have hAl : ∀ k, blk A = some k → k < W.heap.size := fun k hk => (hO.lt k hk).2
  clear hC hO hg
  go_enter Tryz.func64, Tryz.ntmps64
  go_wp2
  refine wp_loop_rounds 2 ?_
  rw [rounds_succ]
  go_upto_region 3 with (fail)
  generalize hw1 : World.alloc W _ = w1
  have hB := named_new hw1.symm
  have hb1 := named_below hw1.symm
  have hz1 : W.heap.size < w1.heap.size := by rw [named_size hw1.symm]; omega
  clear hw1
  have hC1 := HCb.out w1 (hb1.block C hCl)
  have c3 : w1.cell? ⟨C, 3, none⟩ = some (.int .i64 (clock : Int)) := cob hC1 3 rfl
  have c5 : w1.cell? ⟨C, 5, none⟩ = some (.slice A told.length tc) := cob hC1 5 rfl
  have f5 : w1.frozen? ⟨C, 5, none⟩ = false := by simp [World.frozen?, hC1]
  have x0 : w1.cell? ⟨W.heap.size, 0, none⟩ = some (.int .i64 acl) := cob hB 0 rfl
  have x1 : w1.cell? ⟨W.heap.size, 1, none⟩ = some (.int .i64 asq) := cob hB 1 rfl
  have x2 : w1.cell? ⟨W.heap.size, 2, none⟩ = some (.int .i64 asl) := cob hB 2 rfl
  have x3 : w1.cell? ⟨W.heap.size, 3, none⟩ = some (.int .i64 are) := cob hB 3 rfl
  have x4 : w1.cell? ⟨W.heap.size, 4, none⟩ = some (.bool ard) := cob hB 4 rfl
  have x5 : w1.cell? ⟨W.heap.size, 5, none⟩ = some (.string arv) := cob hB 5 rfl
  have x6 : w1.cell? ⟨W.heap.size, 6, none⟩ = some (.slice none 0 0) := cob hB 6 rfl
  have hO1 : OwnT tdcells 52 8 w1 base A tc told := HO.out.of_block fun k hk => hb1.block k (hAl k hk)
  have HT := Lib.hid (fun (w' : World) (h : w'.heap[C]? = w1.heap[C]?) => (⟨cob (h.trans hC1) 3 rfl, cob (h.trans hC1) 5 rfl, by simp [World.frozen?, h.trans hC1]⟩ : w'.cell? ⟨C, 3, none⟩ = some (.int .i64 (clock : Int)) ∧ w'.cell? ⟨C, 5, none⟩ = some (.slice A told.length tc) ∧ w'.frozen? ⟨C, 5, none⟩ = false))
  have HC1 := Lib.hid hC1
  have hCl1 : C < w1.heap.size := by omega
  have ca3 := fun o => (HT.out (w1.alloc o).drew (heap_alloc_old w1 o hCl1)).1
  have ca5 := fun o => (HT.out (w1.alloc o).drew (heap_alloc_old w1 o hCl1)).2.1
  have caf := fun o => (HT.out (w1.alloc o).drew (heap_alloc_old w1 o hCl1)).2.2
  clear hC1 hB g0 g1 g2 g3 g4 g5 g6
  go_region_law
    (refine step_append_st tdcells _ tdcells_one (by rfl) _ _ _ (by rfl) base 52 i1 _ 8 88 tdcells_len (by decide) Tryz.underlying49 hi1 hy0 hy1 hy2 (by rfl) _ _ told (by rfl) ((hO1.alloc _).drew) w1.heap.size _ ⟨clock, ⟨acl, asq, asl, ⟨are, ard, arv⟩⟩⟩ (0, 0) _ (by rfl) (heap_alloc_new w1 _) (by unfold maxLen; omega) (by omega) (by simp; omega) ?_; intro X2 B4 d4 w4 hX2 ho4 hb4 hg4 ha4; have HS4 := HT.out w4 ((hg4.block C (by simp; omega) (fun e => hCA e.symm)).trans (heap_alloc_old w1 _ (by omega))); have HS5 := HS4.2.1; have HS6 := HS4.2.2)
  all_goals
    have hX : X2 = told ++ [⟨clock, ⟨acl, asq, asl, ⟨are, ard, arv⟩⟩⟩] := hX2.out
    have hXl : X2.length = told.length + 1 := by rw [hX]; simp
    have hC4 := ((hg4.block C (by simp; omega) (fun e => hCA e.symm)).trans (heap_alloc_old w1 _ hCl1)).trans HC1.out
    have hC5 := heap_setCell_same w4 C 5 _ _ (.slice B4 X2.length d4) hC4
    have hBC : ∀ k, blk B4 = some k → k ≠ C := by
      intro k hk e
      rcases ha4 with h | h
      · rw [h] at hk; exact hCA (e ▸ hk)
      · rw [h] at hk
        injection hk with hk
        simp at hk; omega
    have hO5 : OwnT tdcells 52 8 (w4.setCell ⟨C, 5, none⟩ (.slice B4 X2.length d4)) base B4 d4 X2 := ho4.of_block fun k hk => heap_setCell_other _ _ _ _ (hBC k hk)
    have t4 : Turned (fun k => k = C ∨ blk A = some k) W (w4.setCell ⟨C, 5, none⟩ (.slice B4 X2.length d4)) := Turned.setCell (S := fun k => k = C ∨ blk A = some k) (((((Turned.of_below hb1).alloc _).drew).grown hg4 (fun k hk => .inl (.inr hk)))) (p := ⟨C, 5, none⟩) (.inl (.inl rfl)) _
    have hbb : blk B4 = blk A ∨ ∃ k, blk B4 = some k ∧ W.heap.size ≤ k := by
      rcases ha4 with h | h
      · exact .inl h
      · refine .inr ⟨_, h, ?_⟩
        simp; omega
    rw [hXl] at hC5 hO5 t4 ⊢
    rw [hX] at hO5
    obtain ⟨w5, hw5⟩ : ∃ w5, w5 = w4.setCell ⟨C, 5, none⟩ (.slice B4 ((told.length + 1 : Nat) : Int).toNat d4) := ⟨_, rfl⟩
    simp only [Int.toNat_natCast] at hw5
    rw [← hw5] at hC5 hO5 t4 ⊢
    clear hw5
    go_wp2
    rw [rounds_succ]
    go_wp2
    go_end0
    exact ⟨rfl, B4, d4, hC5, hO5, t4, hbb⟩
theorem cstand_of (C : Nat) (v4 v5 v6 : Value) (U A : Option Addr) (uc ac base base2 : Nat) (ups : List Bool) (nds : List Nat) (i N : Nat) (hi : ups[i]? = some true) (hn : nds[i]? = some N) (x : Sp) (hx : x.node = (i : Int)) (clock : Nat) (hc : clock < 1000000)
    (PS T : Nat → Prop) (G nx : Nat) (l : List Pk) (hbef : ∀ q ∈ l, q.due ≤ clock ∧ q.no < nx) (W : World) (hC : W.heap[C]? = some (.cells #[.slice A nds.length ac, .slice U ups.length uc, .pointer (some ⟨G, 0, none⟩), .int .i64 (clock : Int), v4, v5, v6] 88)) (hU : OwnT bcell 4 1 W base U uc ups) (hA : OwnT ncell 89 1 W base2 A ac nds)
    (hP : PlAt W PS G nx l) (hS : Lt PS W) (hSC : ¬ PS C) (hT : Lt T W) (hTC : ¬ T C) (hTA : ∀ k, blk A = some k → ¬ T k) (hTS : ∀ k, T k → ¬ PS k) (hSA : ∀ k, blk A = some k → ¬ PS k)
    (Q : World → List Mg → World → Prop)
    (HT : ∀ w, Below W.heap.size W w → Calls Tryz.prog 73 #[.pointer (some ⟨N, 0, none⟩)] w fun e w' => ∃ (L : List Mg) (B : Option Addr) (cc : Nat), e = .returned (.slice B L.length cc) ∧ OwnT mcells 133 11 w' w.heap.size B cc L ∧ l.length + L.length ≤ 400 ∧ nx + L.length ≤ 900000 ∧ Turned T w w' ∧ Q w L w') :
    Calls Tryz.prog 35 #[.pointer (some ⟨C, 0, none⟩), spv x] W fun e W' => e = .returned (.tuple #[]) ∧ ∃ (L : List Mg) (S' : Nat → Prop) (w1 w2 : World), Below W.heap.size W w1 ∧ Q w1 L w2 ∧ Turned T w1 w2 ∧ PlAt W' S' G (nx + L.length) (l ++ sentT clock nx L) ∧ Step PS w2 W' S' := by
  have hCl := (Array.getElem?_eq_some_iff.1 hC).1
  obtain ⟨hil, hie⟩ := List.getElem?_eq_some_iff.1 hn
  obtain ⟨ga, rfl, _, hga, _⟩ := hA.form (by omega)
  have hTa : ¬ T ga := hTA ga (by simp [blk])
  have hSga : ¬ PS ga := hSA ga (by simp [blk])
  have a0 := hA.cell ncell_len i 0 hil (.pointer (some ⟨N, 0, none⟩)) (by rw [hie]; rfl)
  simp only [Nat.mul_one, Nat.add_zero] at a0
  obtain ⟨Y, hY⟩ : ∃ Y, W.heap[C]? = some Y := ⟨_, hC⟩
  obtain ⟨X, hX⟩ : ∃ X, W.heap[ga]? = some X := ⟨_, Array.getElem?_eq_getElem hga⟩
  have k0 : ∀ w : World, w.heap[C]? = some Y → w.cell? ⟨C, 0, none⟩ = some (.slice (some ⟨ga, 0, none⟩) nds.length ac) := fun w hw => cob (hw.trans (hY.symm.trans hC)) 0 rfl
  have ka : ∀ w : World, w.heap[ga]? = some X → w.cell? ⟨ga, i, none⟩ = some (.pointer (some ⟨N, 0, none⟩)) := fun w hw => (World.cell?_of_block (hw.trans hX.symm)).trans a0
  have HUp := Lib.hid (fun w (hb : Below W.heap.size W w) => up_any C _ (.pointer (some ⟨G, 0, none⟩)) (.int .i64 (clock : Int)) v4 v5 v6 _ uc base ups i true hi w ((hb.block C hCl).trans hC) (hU.of_block fun k hk => hb.block k (hU.lt k hk).2))
  have HSe := Lib.hid (fun w (hw : w.heap[C]? = some Y) (hp : ∀ k, PS k → w.heap[k]? = W.heap[k]?) (hz : W.heap.size ≤ w.heap.size) base B cc L (hl : l.length + L.length ≤ 400) (hx : nx + L.length ≤ 900000) (ho : OwnT mcells 133 11 w base B cc L) (hnS : ∀ k, blk B = some k → ¬ PS k) => csend_any C _ _ v4 v5 v6 clock hc x PS G nx base l L B cc hl hx hbef w (hw.trans (hY.symm.trans hC)) (hP.frame hp) (hS.wide hz) hSC ho hnS)
  have HTx := Lib.hid HT
  have d2 : ((i : Nat) : Int) < ((nds.length : Nat) : Int) := by omega
  clear hC hU hA a0 hi hn hie hTA hP hbef HT
  obtain ⟨kd, nd, j, full, ⟨cl0, sq, kind, row, col, tt, at_, value, expect, has⟩⟩ := x
  simp only at hx
  subst hx
  unfold spv spcells cmcells at HSe
  unfold spv spcells cmcells
  simp only [List.cons_append, List.nil_append] at HSe ⊢
  go_enter Tryz.func35, Tryz.ntmps35
  go_wp2_with fail
  generalize hw1 : World.alloc W _ = w1
  have hB := named_new hw1.symm
  have hb1 := named_below hw1.symm
  have hz1 : W.heap.size < w1.heap.size := by rw [named_size hw1.symm]; omega
  clear hw1
  obtain ⟨Z, hZ⟩ : ∃ Z, w1.heap[W.heap.size]? = some Z := ⟨_, hB⟩
  have x0 : ∀ w : World, w.heap[W.heap.size]? = some Z → w.cell? ⟨W.heap.size, 0, none⟩ = some (.int .i64 kd) := fun w hw => cob (hw.trans (hZ.symm.trans hB)) 0 rfl
  have x1 : ∀ w : World, w.heap[W.heap.size]? = some Z → w.cell? ⟨W.heap.size, 1, none⟩ = some (.int .i64 (i : Int)) := fun w hw => cob (hw.trans (hZ.symm.trans hB)) 1 rfl
  have x2 : ∀ w : World, w.heap[W.heap.size]? = some Z → w.cell? ⟨W.heap.size, 2, none⟩ = some (.int .i64 j) := fun w hw => cob (hw.trans (hZ.symm.trans hB)) 2 rfl
  have x3 : ∀ w : World, w.heap[W.heap.size]? = some Z → w.cell? ⟨W.heap.size, 3, none⟩ = some (.int .i64 0) := fun w hw => cob (hw.trans (hZ.symm.trans hB)) 3 rfl
  have x4 : ∀ w : World, w.heap[W.heap.size]? = some Z → w.cell? ⟨W.heap.size, 4, none⟩ = some (.bool full) := fun w hw => cob (hw.trans (hZ.symm.trans hB)) 4 rfl
  have x5 : ∀ w : World, w.heap[W.heap.size]? = some Z → w.cell? ⟨W.heap.size, 5, none⟩ = some (.slice none 0 0) := fun w hw => cob (hw.trans (hZ.symm.trans hB)) 5 rfl
  have x6 : ∀ w : World, w.heap[W.heap.size]? = some Z → w.cell? ⟨W.heap.size, 6, none⟩ = some (.int .i64 cl0) := fun w hw => cob (hw.trans (hZ.symm.trans hB)) 6 rfl
  have x7 : ∀ w : World, w.heap[W.heap.size]? = some Z → w.cell? ⟨W.heap.size, 7, none⟩ = some (.int .i64 sq) := fun w hw => cob (hw.trans (hZ.symm.trans hB)) 7 rfl
  have x8 : ∀ w : World, w.heap[W.heap.size]? = some Z → w.cell? ⟨W.heap.size, 8, none⟩ = some (.int .i64 kind) := fun w hw => cob (hw.trans (hZ.symm.trans hB)) 8 rfl
  have x9 : ∀ w : World, w.heap[W.heap.size]? = some Z → w.cell? ⟨W.heap.size, 9, none⟩ = some (.string row) := fun w hw => cob (hw.trans (hZ.symm.trans hB)) 9 rfl
  have x10 : ∀ w : World, w.heap[W.heap.size]? = some Z → w.cell? ⟨W.heap.size, 10, none⟩ = some (.string col) := fun w hw => cob (hw.trans (hZ.symm.trans hB)) 10 rfl
  have x11 : ∀ w : World, w.heap[W.heap.size]? = some Z → w.cell? ⟨W.heap.size, 11, none⟩ = some (.string tt) := fun w hw => cob (hw.trans (hZ.symm.trans hB)) 11 rfl
  have x12 : ∀ w : World, w.heap[W.heap.size]? = some Z → w.cell? ⟨W.heap.size, 12, none⟩ = some (.int .i64 at_) := fun w hw => cob (hw.trans (hZ.symm.trans hB)) 12 rfl
  have x13 : ∀ w : World, w.heap[W.heap.size]? = some Z → w.cell? ⟨W.heap.size, 13, none⟩ = some (.string value) := fun w hw => cob (hw.trans (hZ.symm.trans hB)) 13 rfl
  have x14 : ∀ w : World, w.heap[W.heap.size]? = some Z → w.cell? ⟨W.heap.size, 14, none⟩ = some (.string expect) := fun w hw => cob (hw.trans (hZ.symm.trans hB)) 14 rfl
  have x15 : ∀ w : World, w.heap[W.heap.size]? = some Z → w.cell? ⟨W.heap.size, 15, none⟩ = some (.bool has) := fun w hw => cob (hw.trans (hZ.symm.trans hB)) 15 rfl
  have hY1 := (hb1.block C hCl).trans hY
  have hX1 := (hb1.block ga hga).trans hX
  have hYd : w1.drew.heap[C]? = some Y := hY1
  have hXd : w1.drew.heap[ga]? = some X := hX1
  have hZd : w1.drew.heap[W.heap.size]? = some Z := hZ
  have HC1 := Lib.hid (HTx.out w1.drew hb1.drew)
  have hSW : ¬ PS W.heap.size := fun e => by have := hS _ e; omega
  have nT : ¬ T W.heap.size := fun e => by have := hT _ e; omega
  clear hB
  refine (HUp.out w1 hb1).mono ?_
  rintro e w1' ⟨rfl, rfl⟩
  go_wp2
  go_region_held3 (fun w' => w'.heap[C]? = some Y ∧ w'.heap[ga]? = some X ∧ w'.heap[W.heap.size]? = some Z)
    (first | with_reducible exact HS2 | with_reducible exact HS3 | with_reducible exact ⟨hY1, hX1, hZ⟩ | with_reducible exact ⟨hYd, hXd, hZd⟩)
    (first
      | (go_at_call 73; (with_reducible refine HC1.out.mono ?_); rintro e w2 ⟨L, B, cc, rfl, hO2, hl2, hx2, hT2, hQ2⟩; have HS2 : _ ∧ _ ∧ _ := ⟨(hT2.block C (Nat.lt_trans hCl hz1) hTC).trans hYd, (hT2.block ga (Nat.lt_trans hga hz1) hTa).trans hXd, (hT2.block W.heap.size hz1 nT).trans hZd⟩; have hz2 := hT2.size; rw [drew_size] at hz2; have hSx := HSe.out w2 HS2.1 (fun k hk => (hT2.block k (by have := hS k hk; rw [drew_size]; omega) (fun e => hTS k e hk)).trans (hb1.block k (hS k hk))) (by omega) w1.drew.heap.size B cc L hl2 hx2 hO2 (fun k hk e => by have := (hO2.lt k hk).1; rw [drew_size] at this; have := hS k e; omega); have HSx := Lib.hid hSx; clear hSx)
      | (go_at_call 65; (with_reducible refine HSx.out.mono ?_); rintro e w3 ⟨rfl, S', hP3, hS3⟩; have HS3 : _ ∧ _ ∧ _ := ⟨(hS3.t.block C (by omega) hSC).trans HS2.1, (hS3.t.block ga (by omega) hSga).trans HS2.2.1, (hS3.t.block W.heap.size (by omega) hSW).trans HS2.2.2⟩))
  all_goals
    go_wp2
    go_end0
    exact ⟨rfl, L, S', w1.drew, w2, hb1.drew, hQ2, hT2, hP3, hS3⟩
theorem ctick_of (C : Nat) (v4 v5 v6 : Value) (U A : Option Addr) (uc ac base base2 : Nat) (ups : List Bool) (nds : List Nat) (i N : Nat) (hi : ups[i]? = some true) (hn : nds[i]? = some N) (x : Sp) (hx : x.node = (i : Int)) (clock : Nat) (hc : clock < 1000000)
    (PS T : Nat → Prop) (G nx : Nat) (l : List Pk) (hbef : ∀ q ∈ l, q.due ≤ clock ∧ q.no < nx) (W : World) (hC : W.heap[C]? = some (.cells #[.slice A nds.length ac, .slice U ups.length uc, .pointer (some ⟨G, 0, none⟩), .int .i64 (clock : Int), v4, v5, v6] 88)) (hU : OwnT bcell 4 1 W base U uc ups) (hA : OwnT ncell 89 1 W base2 A ac nds)
    (hP : PlAt W PS G nx l) (hS : Lt PS W) (hSC : ¬ PS C) (hT : Lt T W) (hTC : ¬ T C) (hTA : ∀ k, blk A = some k → ¬ T k) (hTS : ∀ k, T k → ¬ PS k) (hSA : ∀ k, blk A = some k → ¬ PS k)
    (Q : World → List Mg → World → Prop)
    (HT : ∀ w, Below W.heap.size W w → Calls Tryz.prog 74 #[.pointer (some ⟨N, 0, none⟩), .bool x.full] w fun e w' => ∃ (L : List Mg) (B : Option Addr) (cc : Nat), e = .returned (.slice B L.length cc) ∧ OwnT mcells 133 11 w' w.heap.size B cc L ∧ l.length + L.length ≤ 400 ∧ nx + L.length ≤ 900000 ∧ Turned T w w' ∧ Q w L w') :
    Calls Tryz.prog 36 #[.pointer (some ⟨C, 0, none⟩), spv x] W fun e W' => e = .returned (.tuple #[]) ∧ ∃ (L : List Mg) (S' : Nat → Prop) (w1 w2 : World), Below W.heap.size W w1 ∧ Q w1 L w2 ∧ Turned T w1 w2 ∧ PlAt W' S' G (nx + L.length) (l ++ sentT clock nx L) ∧ Step PS w2 W' S' := by
  have hCl := (Array.getElem?_eq_some_iff.1 hC).1
  obtain ⟨hil, hie⟩ := List.getElem?_eq_some_iff.1 hn
  obtain ⟨ga, rfl, _, hga, _⟩ := hA.form (by omega)
  have hTa : ¬ T ga := hTA ga (by simp [blk])
  have hSga : ¬ PS ga := hSA ga (by simp [blk])
  have a0 := hA.cell ncell_len i 0 hil (.pointer (some ⟨N, 0, none⟩)) (by rw [hie]; rfl)
  simp only [Nat.mul_one, Nat.add_zero] at a0
  obtain ⟨Y, hY⟩ : ∃ Y, W.heap[C]? = some Y := ⟨_, hC⟩
  obtain ⟨X, hX⟩ : ∃ X, W.heap[ga]? = some X := ⟨_, Array.getElem?_eq_getElem hga⟩
  have k0 : ∀ w : World, w.heap[C]? = some Y → w.cell? ⟨C, 0, none⟩ = some (.slice (some ⟨ga, 0, none⟩) nds.length ac) := fun w hw => cob (hw.trans (hY.symm.trans hC)) 0 rfl
  have ka : ∀ w : World, w.heap[ga]? = some X → w.cell? ⟨ga, i, none⟩ = some (.pointer (some ⟨N, 0, none⟩)) := fun w hw => (World.cell?_of_block (hw.trans hX.symm)).trans a0
  have HUp := Lib.hid (fun w (hb : Below W.heap.size W w) => up_any C _ (.pointer (some ⟨G, 0, none⟩)) (.int .i64 (clock : Int)) v4 v5 v6 _ uc base ups i true hi w ((hb.block C hCl).trans hC) (hU.of_block fun k hk => hb.block k (hU.lt k hk).2))
  have HSe := Lib.hid (fun w (hw : w.heap[C]? = some Y) (hp : ∀ k, PS k → w.heap[k]? = W.heap[k]?) (hz : W.heap.size ≤ w.heap.size) base B cc L (hl : l.length + L.length ≤ 400) (hx : nx + L.length ≤ 900000) (ho : OwnT mcells 133 11 w base B cc L) (hnS : ∀ k, blk B = some k → ¬ PS k) => csend_any C _ _ v4 v5 v6 clock hc x PS G nx base l L B cc hl hx hbef w (hw.trans (hY.symm.trans hC)) (hP.frame hp) (hS.wide hz) hSC ho hnS)
  have HTx := Lib.hid HT
  have d2 : ((i : Nat) : Int) < ((nds.length : Nat) : Int) := by omega
  clear hC hU hA a0 hi hn hie hTA hP hbef HT
  obtain ⟨kd, nd, j, full, ⟨cl0, sq, kind, row, col, tt, at_, value, expect, has⟩⟩ := x
  simp only at hx
  subst hx
  unfold spv spcells cmcells at HSe
  unfold spv spcells cmcells
  simp only [List.cons_append, List.nil_append] at HSe ⊢
  simp only [] at HTx
  go_enter Tryz.func36, Tryz.ntmps36
  go_wp2_with fail
  generalize hw1 : World.alloc W _ = w1
  have hB := named_new hw1.symm
  have hb1 := named_below hw1.symm
  have hz1 : W.heap.size < w1.heap.size := by rw [named_size hw1.symm]; omega
  clear hw1
  obtain ⟨Z, hZ⟩ : ∃ Z, w1.heap[W.heap.size]? = some Z := ⟨_, hB⟩
  have x0 : ∀ w : World, w.heap[W.heap.size]? = some Z → w.cell? ⟨W.heap.size, 0, none⟩ = some (.int .i64 kd) := fun w hw => cob (hw.trans (hZ.symm.trans hB)) 0 rfl
  have x1 : ∀ w : World, w.heap[W.heap.size]? = some Z → w.cell? ⟨W.heap.size, 1, none⟩ = some (.int .i64 (i : Int)) := fun w hw => cob (hw.trans (hZ.symm.trans hB)) 1 rfl
  have x2 : ∀ w : World, w.heap[W.heap.size]? = some Z → w.cell? ⟨W.heap.size, 2, none⟩ = some (.int .i64 j) := fun w hw => cob (hw.trans (hZ.symm.trans hB)) 2 rfl
  have x3 : ∀ w : World, w.heap[W.heap.size]? = some Z → w.cell? ⟨W.heap.size, 3, none⟩ = some (.int .i64 0) := fun w hw => cob (hw.trans (hZ.symm.trans hB)) 3 rfl
  have x4 : ∀ w : World, w.heap[W.heap.size]? = some Z → w.cell? ⟨W.heap.size, 4, none⟩ = some (.bool full) := fun w hw => cob (hw.trans (hZ.symm.trans hB)) 4 rfl
  have x5 : ∀ w : World, w.heap[W.heap.size]? = some Z → w.cell? ⟨W.heap.size, 5, none⟩ = some (.slice none 0 0) := fun w hw => cob (hw.trans (hZ.symm.trans hB)) 5 rfl
  have x6 : ∀ w : World, w.heap[W.heap.size]? = some Z → w.cell? ⟨W.heap.size, 6, none⟩ = some (.int .i64 cl0) := fun w hw => cob (hw.trans (hZ.symm.trans hB)) 6 rfl
  have x7 : ∀ w : World, w.heap[W.heap.size]? = some Z → w.cell? ⟨W.heap.size, 7, none⟩ = some (.int .i64 sq) := fun w hw => cob (hw.trans (hZ.symm.trans hB)) 7 rfl
  have x8 : ∀ w : World, w.heap[W.heap.size]? = some Z → w.cell? ⟨W.heap.size, 8, none⟩ = some (.int .i64 kind) := fun w hw => cob (hw.trans (hZ.symm.trans hB)) 8 rfl
  have x9 : ∀ w : World, w.heap[W.heap.size]? = some Z → w.cell? ⟨W.heap.size, 9, none⟩ = some (.string row) := fun w hw => cob (hw.trans (hZ.symm.trans hB)) 9 rfl
  have x10 : ∀ w : World, w.heap[W.heap.size]? = some Z → w.cell? ⟨W.heap.size, 10, none⟩ = some (.string col) := fun w hw => cob (hw.trans (hZ.symm.trans hB)) 10 rfl
  have x11 : ∀ w : World, w.heap[W.heap.size]? = some Z → w.cell? ⟨W.heap.size, 11, none⟩ = some (.string tt) := fun w hw => cob (hw.trans (hZ.symm.trans hB)) 11 rfl
  have x12 : ∀ w : World, w.heap[W.heap.size]? = some Z → w.cell? ⟨W.heap.size, 12, none⟩ = some (.int .i64 at_) := fun w hw => cob (hw.trans (hZ.symm.trans hB)) 12 rfl
  have x13 : ∀ w : World, w.heap[W.heap.size]? = some Z → w.cell? ⟨W.heap.size, 13, none⟩ = some (.string value) := fun w hw => cob (hw.trans (hZ.symm.trans hB)) 13 rfl
  have x14 : ∀ w : World, w.heap[W.heap.size]? = some Z → w.cell? ⟨W.heap.size, 14, none⟩ = some (.string expect) := fun w hw => cob (hw.trans (hZ.symm.trans hB)) 14 rfl
  have x15 : ∀ w : World, w.heap[W.heap.size]? = some Z → w.cell? ⟨W.heap.size, 15, none⟩ = some (.bool has) := fun w hw => cob (hw.trans (hZ.symm.trans hB)) 15 rfl
  have hY1 := (hb1.block C hCl).trans hY
  have hX1 := (hb1.block ga hga).trans hX
  have hYd : w1.drew.heap[C]? = some Y := hY1
  have hXd : w1.drew.heap[ga]? = some X := hX1
  have hZd : w1.drew.heap[W.heap.size]? = some Z := hZ
  have HC1 := Lib.hid (HTx.out w1.drew hb1.drew)
  have hSW : ¬ PS W.heap.size := fun e => by have := hS _ e; omega
  have nT : ¬ T W.heap.size := fun e => by have := hT _ e; omega
  clear hB
  refine (HUp.out w1 hb1).mono ?_
  rintro e w1' ⟨rfl, rfl⟩
  go_wp2
  go_region_held3 (fun w' => w'.heap[C]? = some Y ∧ w'.heap[ga]? = some X ∧ w'.heap[W.heap.size]? = some Z)
    (first | with_reducible exact HS2 | with_reducible exact HS3 | with_reducible exact ⟨hY1, hX1, hZ⟩ | with_reducible exact ⟨hYd, hXd, hZd⟩)
    (first
      | (go_at_call 74; (with_reducible refine HC1.out.mono ?_); rintro e w2 ⟨L, B, cc, rfl, hO2, hl2, hx2, hT2, hQ2⟩; have HS2 : _ ∧ _ ∧ _ := ⟨(hT2.block C (Nat.lt_trans hCl hz1) hTC).trans hYd, (hT2.block ga (Nat.lt_trans hga hz1) hTa).trans hXd, (hT2.block W.heap.size hz1 nT).trans hZd⟩; have hz2 := hT2.size; rw [drew_size] at hz2; have hSx := HSe.out w2 HS2.1 (fun k hk => (hT2.block k (by have := hS k hk; rw [drew_size]; omega) (fun e => hTS k e hk)).trans (hb1.block k (hS k hk))) (by omega) w1.drew.heap.size B cc L hl2 hx2 hO2 (fun k hk e => by have := (hO2.lt k hk).1; rw [drew_size] at this; have := hS k e; omega); have HSx := Lib.hid hSx; clear hSx)
      | (go_at_call 65; (with_reducible refine HSx.out.mono ?_); rintro e w3 ⟨rfl, S', hP3, hS3⟩; have HS3 : _ ∧ _ ∧ _ := ⟨(hS3.t.block C (by omega) hSC).trans HS2.1, (hS3.t.block ga (by omega) hSga).trans HS2.2.1, (hS3.t.block W.heap.size (by omega) hSW).trans HS2.2.2⟩))
  all_goals
    go_wp2
    go_end0
    exact ⟨rfl, L, S', w1.drew, w2, hb1.drew, hQ2, hT2, hP3, hS3⟩
end Go.Proofs.YtoigogjmhkpdlaaGreat
