/- A part of the proof of WholeFew: the texts CellC, CellD, Quiet, CellE, CellF. -/
import Derived.Test.YtoigogjmhkpdlaaGreatJ12
import Derived.Test.YtoigogjmhkpdlaaGreatJ20
import Derived.BigQuiet
set_option maxHeartbeats 6400000
set_option maxRecDepth 100000
namespace Go.Proofs.YtoigogjmhkpdlaaGreat
open Go.RowKit
theorem clcells_len (c : Cl) : (clcells c).length = 5 := rfl
theorem clcells_one (c : Cl) : ∀ u ∈ clcells c, u.oneCell' = true := by
  intro u hu
  simp only [clcells, List.mem_cons, List.not_mem_nil, or_false] at hu
  rcases hu with rfl | rfl | rfl | rfl | rfl <;> rfl
def cl0 : Cl := ⟨{ data := #[] }, { data := #[] }, 0, { data := #[] }, false⟩
def C5 (W : World) (g : Nat) (c : Cl) : Prop := W.cell? ⟨g, 0, none⟩ = some (.string c.row) ∧ W.cell? ⟨g, 1, none⟩ = some (.string c.col) ∧ W.cell? ⟨g, 2, none⟩ = some (.int .i64 c.at_) ∧ W.cell? ⟨g, 3, none⟩ = some (.string c.value) ∧ W.cell? ⟨g, 4, none⟩ = some (.bool c.gone)
theorem C5.below {B g : Nat} {W W' : World} {c : Cl} (h : C5 W g c) (hb : Below B W W') (hg : g < B) : C5 W' g c := k5 hb hg h
theorem C5.of_block {g : Nat} {W W' : World} {c : Cl} (h : C5 W g c) (hb : W'.heap[g]? = W.heap[g]?) : C5 W' g c :=
  ⟨(World.cell?_of_block hb).trans h.1, (World.cell?_of_block hb).trans h.2.1, (World.cell?_of_block hb).trans h.2.2.1, (World.cell?_of_block hb).trans h.2.2.2.1, (World.cell?_of_block hb).trans h.2.2.2.2⟩
theorem C5.lt {g : Nat} {W : World} {c : Cl} (h : C5 W g c) : g < W.heap.size := lt_of_cell h.1
theorem OwnT.c5 {w : World} {base g cap : Nat} {c : Cl} (h : OwnT clcells 93 5 w base (some ⟨g, 0, none⟩) cap [c]) : C5 w g c :=
  ⟨h.cell clcells_len 0 0 (by simp) _ rfl, h.cell clcells_len 0 1 (by simp) _ rfl, h.cell clcells_len 0 2 (by simp) _ rfl, h.cell clcells_len 0 3 (by simp) _ rfl, h.cell clcells_len 0 4 (by simp) _ rfl⟩
theorem c5_block {w : World} {g : Nat} {c : Cl} {t : TypeId} {fr : Nat × Nat} (h : w.heap[g]? = some (.cells #[.string c.row, .string c.col, .int .i64 c.at_, .string c.value, .bool c.gone] t fr)) : C5 w g c :=
  ⟨cob h 0 rfl, cob h 1 rfl, cob h 2 rfl, cob h 3 rfl, cob h 4 rfl⟩
theorem cl_store (w : World) (g : Nat) (cur : Array Value) (h : w.heap[g]? = some (.cells cur 93 (0, 0))) (hs : cur.size = 5) (a b : ByteArray) (n : Int) (v : ByteArray) (d : Bool) :
    (((((w.setCell ⟨g, 0, none⟩ (.string a)).setCell ⟨g, 1, none⟩ (.string b)).setCell ⟨g, 2, none⟩ (.int .i64 n)).setCell ⟨g, 3, none⟩ (.string v)).setCell ⟨g, 4, none⟩ (.bool d)).heap[g]? = some (.cells #[.string a, .string b, .int .i64 n, .string v, .bool d] 93 (0, 0)) ∧
    w.grownBy (((((w.setCell ⟨g, 0, none⟩ (.string a)).setCell ⟨g, 1, none⟩ (.string b)).setCell ⟨g, 2, none⟩ (.int .i64 n)).setCell ⟨g, 3, none⟩ (.string v)).setCell ⟨g, 4, none⟩ (.bool d)) (some g) ∧
    (((((w.setCell ⟨g, 0, none⟩ (.string a)).setCell ⟨g, 1, none⟩ (.string b)).setCell ⟨g, 2, none⟩ (.int .i64 n)).setCell ⟨g, 3, none⟩ (.string v)).setCell ⟨g, 4, none⟩ (.bool d)).heap.size = w.heap.size := by
  have hfin := setCells_full (e := 93) g w cur (vs := [.string a, .string b, .int .i64 n, .string v, .bool d]) h hs
  have hgr := setCells_grown g ([.string a, .string b, .int .i64 n, .string v, .bool d]) 0 w
  simp only [World.setCells, Nat.zero_add, Nat.reduceAdd] at hfin hgr
  exact ⟨hfin, hgr, by simp⟩
theorem Tryz.sizeCl : (Tryz.prog.info? 93).map (·.size) = some 5 := by kernel_rfl
def SameKey (a b : Cl) : Prop := a.row = b.row ∧ a.col = b.col ∧ a.at_ = b.at_
theorem compare_same (a b : Cl) (h : SameKey a b) (W : World) : Calls Tryz.prog 267 #[clv a, clv b] W fun e W' => e = .returned (.int .i64 0) ∧ Below W.heap.size W W' := by
  obtain ⟨r, c, t, v, g⟩ := a
  obtain ⟨r2, c2, t2, v2, g2⟩ := b
  obtain ⟨h1, h2, h3⟩ := h
  simp only at h1 h2 h3
  subst h1 h2 h3
  have Hs := Lib.hid cmps_same
  have Hi := Lib.hid cmpi_same
  unfold clv clcells
  simp only []
  go_enter Tryz.func267, Tryz.ntmps267
  go_wp2_with fail
  generalize hw0 : World.alloc (World.alloc W _) _ = w0
  obtain ⟨hA0, hB0, hb0, hs0⟩ := two_new _ _ _ hw0.symm
  clear hw0
  have HSS := Lib.hid (show ∀ w', Below w0.heap.size w0 w' → (w'.cell? ⟨W.heap.size, 0, none⟩ = some (.string r) ∧ w'.cell? ⟨W.heap.size, 1, none⟩ = some (.string c) ∧ w'.cell? ⟨W.heap.size, 2, none⟩ = some (.int .i64 t)) ∧ w'.cell? ⟨W.heap.size + 1, 0, none⟩ = some (.string r) ∧ w'.cell? ⟨W.heap.size + 1, 1, none⟩ = some (.string c) ∧ w'.cell? ⟨W.heap.size + 1, 2, none⟩ = some (.int .i64 t) from fun w' hb =>
    ⟨⟨cob ((hb.block _ (by omega)).trans hA0) 0 rfl, cob ((hb.block _ (by omega)).trans hA0) 1 rfl, cob ((hb.block _ (by omega)).trans hA0) 2 rfl⟩, cob ((hb.block _ (by omega)).trans hB0) 0 rfl, cob ((hb.block _ (by omega)).trans hB0) 1 rfl, cob ((hb.block _ (by omega)).trans hB0) 2 rfl⟩)
  clear hA0 hB0
  have hS0 := HSS.out _ (Below.refl _ _)
  have hS1 := HSS.out _ (Below.refl _ _).drew
  have Hor := Lib.hid (or3_zero (W.heap.size + 2) 3 3 (w0.alloc (.cells #[.int .i64 0, .int .i64 0, .int .i64 0] 3)).drew (new_at w0 _ _ hs0.symm))
  go_region_held3 (fun w' => (w'.cell? ⟨W.heap.size, 0, none⟩ = some (.string r) ∧ w'.cell? ⟨W.heap.size, 1, none⟩ = some (.string c) ∧ w'.cell? ⟨W.heap.size, 2, none⟩ = some (.int .i64 t)) ∧ w'.cell? ⟨W.heap.size + 1, 0, none⟩ = some (.string r) ∧ w'.cell? ⟨W.heap.size + 1, 1, none⟩ = some (.string c) ∧ w'.cell? ⟨W.heap.size + 1, 2, none⟩ = some (.int .i64 t))
    (first | exact hS0 | exact hS1 | exact HSS.out _ ((Below.refl _ _).alloc (Nat.le_refl _) _).drew | exact HSS.out _ ((Below.refl _ _).alloc (Nat.le_refl _) _))
    (first | (go_at_call 189; refine Hor.out.mono ?_; rintro e w2 ⟨rfl, rfl⟩) | (go_at_call 296; refine (Hs.out _ _).mono ?_; rintro e w1 ⟨rfl, rfl⟩) | (go_at_call 190; refine (Hi.out _ _).mono ?_; rintro e w1 ⟨rfl, rfl⟩))
  go_wp2
  go_ret
  exact ⟨rfl, (hb0.alloc (by omega) _).drew⟩
def cmpF : Value := .func (.func 267) #[] #[]
theorem bsc_none (x : Cl) (W : World) : Calls Tryz.prog 266 #[.slice none 0 0, clv x, cmpF] W fun e W' => e = .returned (.tuple #[.int .i64 0, .bool false]) ∧ Below W.heap.size W W' := by
  obtain ⟨r, c, t, v, g⟩ := x
  unfold clv clcells cmpF
  simp only []
  go_enter Tryz.func266, Tryz.ntmps266
  go_wp2
  refine wp_loop_rounds 1 ?_
  rw [rounds_succ]
  go_wp2
  go_quiet (fail)
  go_wp2
  go_ret2
  exact ⟨rfl, below_drewN ((Below.refl _ _).alloc (Nat.le_refl _) _)⟩
theorem bsc_one (g cap : Nat) (c x : Cl) (hk : SameKey c x) (W : World) (hC : C5 W g c) : Calls Tryz.prog 266 #[.slice (some ⟨g, 0, none⟩) 1 cap, clv x, cmpF] W fun e W' => e = .returned (.tuple #[.int .i64 0, .bool true]) ∧ Below W.heap.size W W' := by
  have hgl := hC.lt
  have HCm := Lib.hid (fun w => compare_same c x hk w)
  have HC5 := Lib.hid (fun w (hb : Below W.heap.size W w) => hC.below hb hgl)
  clear hC hk
  obtain ⟨cr, cc, ct, cv, cg⟩ := c
  obtain ⟨r, k, t, v, d⟩ := x
  unfold clv clcells at HCm ⊢
  unfold cmpF
  simp only [] at HCm ⊢
  go_enter Tryz.func266, Tryz.ntmps266
  go_wp2
  generalize hw1 : World.alloc W _ = w1
  have hB := named_new hw1.symm
  have hb1 := named_below hw1.symm
  have hz1 : W.heap.size < w1.heap.size := by rw [named_size hw1.symm]; omega
  clear hw1
  refine wp_loop_rounds 2 ?_
  rw [rounds_succ]
  go_wp2
  have HSS := Lib.hid (show ∀ w', Below w1.heap.size w1 w' → C5 w' g ⟨cr, cc, ct, cv, cg⟩ ∧ C5 w' W.heap.size ⟨r, k, t, v, d⟩ from fun w' hb =>
    ⟨HC5.out w' (hb1.trans (hb.mono (Nat.le_of_lt hz1))), (c5_block (c := ⟨r, k, t, v, d⟩) hB).below hb hz1⟩)
  unfold C5 at HSS
  simp only [] at HSS
  have hS1 := HSS.out _ (Below.refl _ _)
  have hS1d := HSS.out _ (Below.refl _ _).drew
  go_region_held3 (fun w' => (w'.cell? ⟨g, 0, none⟩ = some (.string cr) ∧ w'.cell? ⟨g, 1, none⟩ = some (.string cc) ∧ w'.cell? ⟨g, 2, none⟩ = some (.int .i64 ct) ∧ w'.cell? ⟨g, 3, none⟩ = some (.string cv) ∧ w'.cell? ⟨g, 4, none⟩ = some (.bool cg)) ∧ w'.cell? ⟨W.heap.size, 0, none⟩ = some (.string r) ∧ w'.cell? ⟨W.heap.size, 1, none⟩ = some (.string k) ∧ w'.cell? ⟨W.heap.size, 2, none⟩ = some (.int .i64 t) ∧ w'.cell? ⟨W.heap.size, 3, none⟩ = some (.string v) ∧ w'.cell? ⟨W.heap.size, 4, none⟩ = some (.bool d))
    (first | with_reducible exact hS2 | with_reducible exact hS1 | with_reducible exact hS1d)
    (first | (go_at_call 267; refine (HCm.out w1.drew).mono ?_; rintro e w2 ⟨rfl, hb2'⟩; have hb2 := below_undrew hb2'; have hS2 := HSS.out w2 hb2))
  go_wp2
  have hz2 := hb2.size
  clear hS1 hS1d
  rw [rounds_succ]
  go_wp2
  have HSS2 := Lib.hid (fun w' (hb : Below w2.heap.size w2 w') => HSS.out w' (hb2.trans (hb.mono hz2)))
  have hS2d := HSS2.out _ (Below.refl _ _).drew
  go_region_held3 (fun w' => (w'.cell? ⟨g, 0, none⟩ = some (.string cr) ∧ w'.cell? ⟨g, 1, none⟩ = some (.string cc) ∧ w'.cell? ⟨g, 2, none⟩ = some (.int .i64 ct) ∧ w'.cell? ⟨g, 3, none⟩ = some (.string cv) ∧ w'.cell? ⟨g, 4, none⟩ = some (.bool cg)) ∧ w'.cell? ⟨W.heap.size, 0, none⟩ = some (.string r) ∧ w'.cell? ⟨W.heap.size, 1, none⟩ = some (.string k) ∧ w'.cell? ⟨W.heap.size, 2, none⟩ = some (.int .i64 t) ∧ w'.cell? ⟨W.heap.size, 3, none⟩ = some (.string v) ∧ w'.cell? ⟨W.heap.size, 4, none⟩ = some (.bool d))
    (first | with_reducible exact hS3 | with_reducible exact hS2 | with_reducible exact hS2d)
    (first | (go_at_call 267; refine (HCm.out w2.drew).mono ?_; rintro e w3 ⟨rfl, hb3'⟩; have hb3 := below_undrew hb3'; have hS3 := HSS2.out w3 hb3))
  go_wp2
  go_ret2
  exact ⟨rfl, (hb1.trans (hb2.mono (Nat.le_of_lt hz1))).trans (hb3.mono (Nat.le_trans (Nat.le_of_lt hz1) hz2))⟩
theorem zcell_run (w : World) : (Instr.build 93 #[]).run Tryz.prog w = .ok (.agg #[.string ByteArray.empty, .string ByteArray.empty, .int .i64 0, .string ByteArray.empty, .bool false]) w := by kernel_rfl
theorem newest_none (row col : ByteArray) (at_ : Int) (W : World) : Calls Tryz.prog 302 #[.slice none 0 0, .string row, .string col, .int .i64 at_] W fun e W' => e = .returned (.tuple #[clv cl0, .bool false]) ∧ Below W.heap.size W W' := by
  have HB := Lib.hid (fun w => bsc_none ⟨row, col, at_, ByteArray.empty, false⟩ w)
  unfold clv clcells cmpF at HB
  unfold clv clcells cl0
  simp only [] at HB ⊢
  have hz0 := zcell_run
  go_enter Tryz.func302, Tryz.ntmps302
  go_wp2_with fail
  generalize hw1 : World.alloc W _ = w1
  have hB := named_new hw1.symm
  have hb1 := named_below hw1.symm
  have hz1 : W.heap.size < w1.heap.size := by rw [named_size hw1.symm]; omega
  clear hw1
  refine (HB.out w1).mono ?_
  rintro e w2 ⟨rfl, hb2⟩
  have hB2 : Below W.heap.size W w2 := hb1.trans (hb2.mono (by omega))
  have hR2 := (hb2.block W.heap.size hz1).trans hB
  have hfr : ∀ j, w2.frozen? ⟨W.heap.size, j, none⟩ = false := fun j => by simp [World.frozen?, hR2]
  have d0 : w2.cell? ⟨W.heap.size, 0, none⟩ = some (.string { data := #[] }) := cob hR2 0 rfl
  have d1 : w2.cell? ⟨W.heap.size, 1, none⟩ = some (.string { data := #[] }) := cob hR2 1 rfl
  have d2 : w2.cell? ⟨W.heap.size, 2, none⟩ = some (.int .i64 0) := cob hR2 2 rfl
  have d3 : w2.cell? ⟨W.heap.size, 3, none⟩ = some (.string { data := #[] }) := cob hR2 3 rfl
  have d4 : w2.cell? ⟨W.heap.size, 4, none⟩ = some (.bool false) := cob hR2 4 rfl
  have HR2 := Lib.hid hR2
  clear hR2 hB
  go_wp2
  obtain ⟨hf9, hgr, hz9⟩ := cl_store w2 W.heap.size _ HR2.out rfl ({ data := #[] }) ({ data := #[] }) (0) ({ data := #[] }) (false)
  generalize World.setCell _ ⟨W.heap.size, 4, none⟩ _ = w9 at hf9 hgr hz9 ⊢
  refine bodyPost_ret (results_ct rfl _ _ W.heap.size _ _ (0, 0) _ rfl hf9 Tryz.underlying93 rfl Tryz.sizeCl) rfl ⟨rfl, ?_⟩
  exact hB2.grown hgr (by have := hB2.size; omega) (fun k hk => by injection hk with hk; omega)
theorem newest_one (g cap : Nat) (c : Cl) (W : World) (hC : C5 W g c) : Calls Tryz.prog 302 #[.slice (some ⟨g, 0, none⟩) 1 cap, .string c.row, .string c.col, .int .i64 c.at_] W fun e W' => e = .returned (.tuple #[clv c, .bool true]) ∧ Below W.heap.size W W' := by
  have hgl := hC.lt
  have HB := Lib.hid (fun w (hb : Below W.heap.size W w) => bsc_one g cap c ⟨c.row, c.col, c.at_, ByteArray.empty, false⟩ ⟨rfl, rfl, rfl⟩ w (hC.below hb hgl))
  have HC5 := Lib.hid (fun w (hb : Below W.heap.size W w) => hC.below hb hgl)
  clear hC
  obtain ⟨r, k, t, v, d⟩ := c
  unfold C5 at HC5
  unfold clv clcells cmpF at HB
  unfold clv clcells
  simp only [] at HB HC5 ⊢
  have hz0 := zcell_run
  go_enter Tryz.func302, Tryz.ntmps302
  go_wp2_with fail
  generalize hw1 : World.alloc W _ = w1
  have hB := named_new hw1.symm
  have hb1 := named_below hw1.symm
  have hz1 : W.heap.size < w1.heap.size := by rw [named_size hw1.symm]; omega
  clear hw1
  refine (HB.out w1 hb1).mono ?_
  rintro e w2 ⟨rfl, hb2⟩
  have hB2 : Below W.heap.size W w2 := hb1.trans (hb2.mono (by omega))
  have hR2 := (hb2.block W.heap.size hz1).trans hB
  have hfr : ∀ j, w2.frozen? ⟨W.heap.size, j, none⟩ = false := fun j => by simp [World.frozen?, hR2]
  have d0 : w2.cell? ⟨W.heap.size, 0, none⟩ = some (.string { data := #[] }) := cob hR2 0 rfl
  have d1 : w2.cell? ⟨W.heap.size, 1, none⟩ = some (.string { data := #[] }) := cob hR2 1 rfl
  have d2 : w2.cell? ⟨W.heap.size, 2, none⟩ = some (.int .i64 0) := cob hR2 2 rfl
  have d3 : w2.cell? ⟨W.heap.size, 3, none⟩ = some (.string { data := #[] }) := cob hR2 3 rfl
  have d4 : w2.cell? ⟨W.heap.size, 4, none⟩ = some (.bool false) := cob hR2 4 rfl
  obtain ⟨q0, q1, q2, q3, q4⟩ := HC5.out w2 hB2
  have HR2 := Lib.hid hR2
  clear hR2 hB
  go_wp2
  obtain ⟨hf9, hgr, hz9⟩ := cl_store w2 W.heap.size _ HR2.out rfl (r) (k) (t) (v) (d)
  generalize World.setCell _ ⟨W.heap.size, 4, none⟩ _ = w9 at hf9 hgr hz9 ⊢
  refine bodyPost_ret (results_ct rfl _ _ W.heap.size _ _ (0, 0) _ rfl hf9 Tryz.underlying93 rfl Tryz.sizeCl) rfl ⟨rfl, ?_⟩
  exact hB2.grown hgr (by have := hB2.size; omega) (fun k hk => by injection hk with hk; omega)
theorem mget_none (M : Nat) (v1 : Value) (row col : ByteArray) (at_ : Int) (W : World) (hM : W.heap[M]? = some (.cells #[.slice none 0 0, v1] 355)) : Calls Tryz.prog 274 #[.pointer (some ⟨M, 0, none⟩), .string row, .string col, .int .i64 at_] W fun e W' => e = .returned (.tuple #[clv cl0, .bool false]) ∧ Below W.heap.size W W' := by
  have hMl := (Array.getElem?_eq_some_iff.1 hM).1
  have HN := Lib.hid (fun w => newest_none row col at_ w)
  have m0 : ∀ o, (W.alloc o).cell? ⟨M, 0, none⟩ = some (.slice none 0 0) := fun o => cob ((heap_alloc_old _ _ hMl).trans hM) 0 rfl
  clear hM
  unfold clv clcells cl0 at HN ⊢
  simp only [] at HN ⊢
  go_enter Tryz.func274, Tryz.ntmps274
  go_wp2_with fail
  generalize hw1 : World.alloc W _ = w1
  have hB := named_new hw1.symm
  have hb1 := named_below hw1.symm
  have hz1 : W.heap.size < w1.heap.size := by rw [named_size hw1.symm]; omega
  clear hw1
  refine (HN.out w1).mono ?_
  rintro e w2 ⟨rfl, hb2⟩
  clear m0
  have hB2 : Below W.heap.size W w2 := hb1.trans (hb2.mono (by omega))
  have hR2 := (hb2.block W.heap.size hz1).trans hB
  have hfr : ∀ j, w2.frozen? ⟨W.heap.size, j, none⟩ = false := fun j => by simp [World.frozen?, hR2]
  have d0 : w2.cell? ⟨W.heap.size, 0, none⟩ = some (.string { data := #[] }) := cob hR2 0 rfl
  have d1 : w2.cell? ⟨W.heap.size, 1, none⟩ = some (.string { data := #[] }) := cob hR2 1 rfl
  have d2 : w2.cell? ⟨W.heap.size, 2, none⟩ = some (.int .i64 0) := cob hR2 2 rfl
  have d3 : w2.cell? ⟨W.heap.size, 3, none⟩ = some (.string { data := #[] }) := cob hR2 3 rfl
  have d4 : w2.cell? ⟨W.heap.size, 4, none⟩ = some (.bool false) := cob hR2 4 rfl
  have HR2 := Lib.hid hR2
  clear hR2 hB
  go_wp2
  obtain ⟨hf9, hgr, hz9⟩ := cl_store w2 W.heap.size _ HR2.out rfl ({ data := #[] }) ({ data := #[] }) (0) ({ data := #[] }) (false)
  generalize World.setCell _ ⟨W.heap.size, 4, none⟩ _ = w9 at hf9 hgr hz9 ⊢
  refine bodyPost_ret (results_ct rfl _ _ W.heap.size _ _ (0, 0) _ rfl hf9 Tryz.underlying93 rfl Tryz.sizeCl) rfl ⟨rfl, ?_⟩
  exact hB2.grown hgr (by have := hB2.size; omega) (fun k hk => by injection hk with hk; omega)
theorem mget_one (M g cap : Nat) (v1 : Value) (c : Cl) (W : World) (hM : W.heap[M]? = some (.cells #[.slice (some ⟨g, 0, none⟩) 1 cap, v1] 355)) (hC : C5 W g c) : Calls Tryz.prog 274 #[.pointer (some ⟨M, 0, none⟩), .string c.row, .string c.col, .int .i64 c.at_] W fun e W' => e = .returned (.tuple #[clv c, .bool true]) ∧ Below W.heap.size W W' := by
  have hMl := (Array.getElem?_eq_some_iff.1 hM).1
  have hgl := hC.lt
  have HN := Lib.hid (fun w (hb : Below W.heap.size W w) => newest_one g cap c w (hC.below hb hgl))
  have m0 : ∀ o, (W.alloc o).cell? ⟨M, 0, none⟩ = some (.slice (some ⟨g, 0, none⟩) 1 cap) := fun o => cob ((heap_alloc_old _ _ hMl).trans hM) 0 rfl
  clear hM hC
  obtain ⟨r, k, t, v, d⟩ := c
  unfold clv clcells at HN ⊢
  simp only [] at HN ⊢
  go_enter Tryz.func274, Tryz.ntmps274
  go_wp2_with fail
  generalize hw1 : World.alloc W _ = w1
  have hB := named_new hw1.symm
  have hb1 := named_below hw1.symm
  have hz1 : W.heap.size < w1.heap.size := by rw [named_size hw1.symm]; omega
  clear hw1
  refine (HN.out w1 hb1).mono ?_
  rintro e w2 ⟨rfl, hb2⟩
  clear m0
  have hB2 : Below W.heap.size W w2 := hb1.trans (hb2.mono (by omega))
  have hR2 := (hb2.block W.heap.size hz1).trans hB
  have hfr : ∀ j, w2.frozen? ⟨W.heap.size, j, none⟩ = false := fun j => by simp [World.frozen?, hR2]
  have d0 : w2.cell? ⟨W.heap.size, 0, none⟩ = some (.string { data := #[] }) := cob hR2 0 rfl
  have d1 : w2.cell? ⟨W.heap.size, 1, none⟩ = some (.string { data := #[] }) := cob hR2 1 rfl
  have d2 : w2.cell? ⟨W.heap.size, 2, none⟩ = some (.int .i64 0) := cob hR2 2 rfl
  have d3 : w2.cell? ⟨W.heap.size, 3, none⟩ = some (.string { data := #[] }) := cob hR2 3 rfl
  have d4 : w2.cell? ⟨W.heap.size, 4, none⟩ = some (.bool false) := cob hR2 4 rfl
  have HR2 := Lib.hid hR2
  clear hR2 hB
  go_wp2
  obtain ⟨hf9, hgr, hz9⟩ := cl_store w2 W.heap.size _ HR2.out rfl (r) (k) (t) (v) (d)
  generalize World.setCell _ ⟨W.heap.size, 4, none⟩ _ = w9 at hf9 hgr hz9 ⊢
  refine bodyPost_ret (results_ct rfl _ _ W.heap.size _ _ (0, 0) _ rfl hf9 Tryz.underlying93 rfl Tryz.sizeCl) rfl ⟨rfl, ?_⟩
  exact hB2.grown hgr (by have := hB2.size; omega) (fun k hk => by injection hk with hk; omega)
structure Of (C : World → Prop) where
  w : World
  h : C w
theorem wp_region_of {P : Program} (C : World → Prop) {id : Nat} {Q : Exit → Act → World → Prop} {a : Act} {w : World} {l : List Oper} (hm : P.follows .mixedOrders = true) (hB : Region.lexB .any l.toArray = true) (hC : C w.drew)
    (h : wpQuiet P l.toArray (fun w' => ∃ x : Of C, w' = x.w) (fun a' => ∀ w', (∃ x : Of C, w' = x.w) → Q .normal a' w') l a) : (Code.region id l.toArray true).wp P Q a w :=
  wp_region_quiet (C := fun w' => ∃ x : Of C, w' = x.w) hm hB ⟨⟨_, hC⟩, rfl⟩ (by simpa using h)
theorem quiet_of {C : World → Prop} {P : Program} {f : FuncId} {args : Array Value} {w : World} {v : Value} (h : Calls P f args w fun e w' => e = .returned v ∧ C w') : Calls P f args w fun e w'' => e = .returned v ∧ ∃ x : Of C, w'' = x.w :=
  h.mono fun _ w' ⟨h1, h2⟩ => ⟨h1, ⟨w', h2⟩, rfl⟩
theorem right_ok {c : Cl} (h : ClOk c) : rightB c = true := by
  obtain ⟨h1, h2, h3, h4, h5, h6, h7, h8⟩ := h
  unfold rightB nameB
  have h9 : (!c.gone || c.value.toList.isEmpty) = true := by
    cases hg : c.gone
    · rfl
    · rw [h8 hg]; simp
  have h7' : (c.value.size : Int) ≤ 256 := by omega
  simp [h1, h2, h3, h4, h5, h6, h7', h9]
theorem ok_right {c : Cl} (h : rightB c = true) : ClOk c := by
  unfold rightB nameB at h
  simp only [Bool.and_eq_true, decide_eq_true_eq, Bool.or_eq_true, Bool.not_eq_true'] at h
  obtain ⟨⟨⟨⟨⟨⟨h1, h2⟩, h3, h4⟩, h5⟩, h6⟩, h7⟩, h8⟩ := h
  refine ⟨h1, h2, h3, h4, h5, h6, by omega, fun hg => ?_⟩
  rcases h8 with h8 | h8
  · rw [hg] at h8; cases h8
  · have := em_size h8
    apply ByteArray.ext
    apply Array.eq_empty_of_size_eq_zero
    exact this
theorem sorted_one (g cap : Nat) (c : Cl) (hok : ClOk c) (W : World) (hC : C5 W g c) : Calls Tryz.prog 323 #[.slice (some ⟨g, 0, none⟩) 1 cap] W fun e W' => e = .returned (.bool true) ∧ Below W.heap.size W W' := by
  have HR := Lib.hid (fun w => cellright_any c w)
  rw [right_ok hok] at HR
  obtain ⟨r, k, t, v, d⟩ := c
  obtain ⟨q0, q1, q2, q3, q4⟩ := hC
  simp only [] at q0 q1 q2 q3 q4
  unfold clv clcells at HR
  simp only [] at HR
  clear hok
  go_enter Tryz.func323, Tryz.ntmps323
  go_wp2
  refine wp_loop_rounds 2 ?_
  rw [rounds_succ]
  go_wp2
  generalize hw1 : World.alloc W _ = w1
  have hB := named_new hw1.symm
  have hb1 := named_below hw1.symm
  have hz1 : W.heap.size < w1.heap.size := by rw [named_size hw1.symm]; omega
  clear hw1 q0 q1 q2 q3 q4
  have HS1 := c5_block (c := ⟨r, k, t, v, d⟩) hB
  unfold C5 at HS1
  simp only [] at HS1
  have e0 : ∀ x : Of (Below w1.heap.size w1), x.w.cell? ⟨W.heap.size, 0, none⟩ = some (.string r) := fun x => (x.h.cell hz1).trans HS1.1
  have e1 : ∀ x : Of (Below w1.heap.size w1), x.w.cell? ⟨W.heap.size, 1, none⟩ = some (.string k) := fun x => (x.h.cell hz1).trans HS1.2.1
  have e2 : ∀ x : Of (Below w1.heap.size w1), x.w.cell? ⟨W.heap.size, 2, none⟩ = some (.int .i64 t) := fun x => (x.h.cell hz1).trans HS1.2.2.1
  have e3 : ∀ x : Of (Below w1.heap.size w1), x.w.cell? ⟨W.heap.size, 3, none⟩ = some (.string v) := fun x => (x.h.cell hz1).trans HS1.2.2.2.1
  have e4 : ∀ x : Of (Below w1.heap.size w1), x.w.cell? ⟨W.heap.size, 4, none⟩ = some (.bool d) := fun x => (x.h.cell hz1).trans HS1.2.2.2.2
  clear HS1 hB
  haveI hne : Nonempty (Of (Below w1.heap.size w1)) := ⟨⟨_, Below.refl _ _⟩⟩
  refine wp_region_of (Below w1.heap.size w1) (by kernel_rfl) (by kernel_rfl) (Below.refl _ _).drew ?_
  repeat (go_big_quiet_step ((rename_i x; go_at_call 89; refine quiet_of ((HR.out x.w).mono fun e w' h => ⟨h.1, x.h.trans (h.2.mono x.h.size)⟩))))
  refine wpQuiet_nil ?_
  rintro _ ⟨x, rfl⟩
  obtain ⟨w2, hb2⟩ := x
  go_wp2
  rw [rounds_succ]
  go_wp2
  go_ret
  exact ⟨rfl, hb1.trans (hb2.mono (Nat.le_of_lt hz1))⟩
theorem cutflag_any (ad : Addr) (l rest : List Nat) (b : Bool) (c : Nat) (hl : l = b.toNat :: rest) (h2 : 2 ≤ l.length) (hc : l.length ≤ c) (W : World) (hr : RdB W (some ad) l) :
    Calls Tryz.prog 343 #[.slice (some ad) l.length c] W fun e W' => e = .returned (.tuple #[.bool b, .slice (some (ad.add 1)) (l.length - 1) (c - 1), .bool true]) ∧ RdB W' (some (ad.add 1)) rest ∧ Below W.heap.size W W' := by
  have hrd : RdB W (some (ad.add 1)) (l.drop 1) := RdB.drop hr 1
  rw [show l.drop 1 = rest by rw [hl]; rfl] at hrd
  have HRd := Lib.hid hrd
  obtain ⟨ad', h0, hcell⟩ := hr (by omega)
  obtain rfl : ad = ad' := by injection h0
  have hc0 := hcell 0 (by omega)
  have hb0 : l[0] = b.toNat := by simp [hl]
  rw [hb0] at hc0
  rw [Addr.add_zero'] at hc0
  clear hcell h0 hb0 hrd hr hl
  have hn0 : ((l.length : Nat) : Int) ≠ 0 := by omega
  have hz : (((l.length : Nat) : Int) == 0) = false := by rw [beq_eq_false_iff_ne]; exact hn0
  clear hn0
  cases b
  all_goals
    go_enter Tryz.func343, Tryz.ntmps343
    go_wp2
    go_quiet (fail)
    go_wp2
    go_ret3
    exact ⟨by simp [Addr.add], HRd.out.drewN _, below_drewN (Below.refl _ _)⟩
theorem cut_text (s : ByteArray) (hs : s.size ≤ 65536) (T : List Nat) {l : List Nat} (hl : l = textN s ++ T) : hasText l = true ∧ textOf l = s ∧ l.drop (4 + unNum l) = T := by
  have hu : unNum l = s.size := by rw [hl, textN, List.append_assoc]; exact unNum_app _ (by omega) _
  have hd4 : l.drop 4 = keyN s ++ T := by rw [hl, textN, List.append_assoc]; exact List.drop_left' (numN_length _)
  have hlen : l.length = 4 + s.size + T.length := by rw [hl]; simp [textN, numN_length, keyN_length]; omega
  refine ⟨?_, ?_, ?_⟩
  · unfold hasText; rw [hu]; simp; omega
  · unfold textOf
    rw [hu, hd4, List.take_left' (keyN_length s)]
    exact strN_keyN s
  · rw [hu, ← List.drop_drop, hd4, List.drop_left' (keyN_length s)]
def LeftAt (W W' : World) (T : List Nat) (v : Value) (e : Ending) : Prop :=
  ∃ (L : List Nat) (A : Option Addr) (c : Nat), Hid (L = T) ∧ e = .returned (.tuple #[v, .slice A L.length c, .bool true]) ∧ RdB W' A L ∧ L.length ≤ c ∧ c ≤ 9223372036854775807 ∧ Below W.heap.size W W'
theorem ctext_at (s : ByteArray) (hs : s.size ≤ 65536) (T : List Nat) (A : Option Addr) (l : List Nat) (c : Nat) (h : Hid (l = textN s ++ T)) (hl : Bytes l) (hc : l.length ≤ c) (hcm : c ≤ 9223372036854775807) (hm : l.length ≤ 140737488355328) (W : World) (hr : RdB W A l) :
    Calls Tryz.prog 185 #[.slice A l.length c] W fun e W' => LeftAt W W' T (.string s) e := by
  obtain ⟨h1, h2, h3⟩ := cut_text s hs T h.out
  refine (cuttext_any A l c hl hc hcm hm W hr).mono ?_
  rintro e w1 (⟨hx, _⟩ | ⟨_, L, A1, c1, HL, rfl, hr1, hc1, hcm1, hb1⟩)
  · rw [h1] at hx; cases hx
  · exact ⟨L, A1, c1, Lib.hid (by rw [HL.out, h3]), by rw [h2], hr1, hc1, hcm1, hb1⟩
theorem cnum_at (n : Nat) (hn : n ≤ 4294967295) (T : List Nat) (A : Option Addr) (l : List Nat) (c : Nat) (h : Hid (l = numN n ++ T)) (hl : Bytes l) (hc : l.length ≤ c) (hcm : c ≤ 9223372036854775807) (hm : l.length ≤ 140737488355328) (W : World) (hr : RdB W A l) :
    Calls Tryz.prog 160 #[.slice A l.length c] W fun e W' => LeftAt W W' T (.int .i64 (n : Int)) e := by
  have h1 : unNum l = n := by rw [h.out]; exact unNum_app _ (by omega) _
  have h3 : l.drop 4 = T := by rw [h.out]; exact List.drop_left' (numN_length _)
  have h4 : 4 ≤ l.length := by rw [h.out, List.length_append, numN_length]; omega
  refine (cutnum_any A l c hl hc hcm hm W hr).mono ?_
  rintro e w1 (⟨hx, _⟩ | ⟨_, L, A1, c1, HL, rfl, ho1, hc1, hb1⟩)
  · omega
  · have hcm1 := ho1.capmax
    unfold maxLen at hcm1
    exact ⟨L, A1, c1, Lib.hid (by rw [HL.out, h3]), by rw [h1], ho1.rd, hc1, hcm1, hb1⟩
theorem cflag_at (b : Bool) (T : List Nat) (hT : 1 ≤ T.length) (A : Option Addr) (l : List Nat) (c : Nat) (h : Hid (l = b.toNat :: T)) (hc : l.length ≤ c) (hcm : c ≤ 9223372036854775807) (W : World) (hr : RdB W A l) :
    Calls Tryz.prog 343 #[.slice A l.length c] W fun e W' => LeftAt W W' T (.bool b) e := by
  have hll : l.length = T.length + 1 := by rw [h.out]; rfl
  obtain ⟨ad, rfl, _⟩ := hr (by omega)
  refine (cutflag_any ad l T b c h.out (by omega) hc W hr).mono ?_
  rintro e w1 ⟨rfl, hr1, hb1⟩
  exact ⟨T, some (ad.add 1), c - 1, Lib.hid rfl, by rw [hll]; rfl, hr1, by omega, by omega, hb1⟩
theorem RdB.away {w : World} {A : Option Addr} {l : List Nat} (h : RdB w A l) (h0 : 0 < l.length) {g : Nat} {cs : Array Value} {t : TypeId} {fr : Nat × Nat} (hg : w.heap[g]? = some (.cells cs t fr)) (hs : ∀ (j : Nat) (v : Value) (n : Nat), cs[j]? = some v → v ≠ bv n) : ∀ q, blk A = some q → q ≠ g ∧ q < w.heap.size := by
  obtain ⟨ad, rfl, hc⟩ := h h0
  intro q hq
  have hb0 : (ad.add 0).block = ad.block := by unfold Addr.add; split <;> rfl
  have hbq : ad.block = q := by simpa [blk] using hq
  have h1 := hc 0 h0
  refine ⟨fun e => ?_, by rw [← hbq, ← hb0]; exact lt_of_cell h1⟩
  unfold World.cell? at h1
  rw [hb0, hbq, e, hg] at h1
  simp only [] at h1
  split at h1
  · cases h1
  · exact hs _ _ _ h1 rfl
theorem RdB.aside {w : World} {A : Option Addr} {l : List Nat} (h : RdB w A l) {g k : Nat} {cs : Array Value} {t : TypeId} {fr : Nat × Nat} (hg : w.heap[g]? = some (.cells cs t fr)) (hs : ∀ (j : Nat) (v : Value) (n : Nat), cs[j]? = some v → v ≠ bv n) (x : Value) : RdB (w.setCell ⟨g, k, none⟩ x) A l := by
  by_cases h0 : 0 < l.length
  · exact h.of_block fun q hq => heap_setCell_other _ _ _ _ (h.away h0 hg hs q hq).1
  · intro h1; exact absurd h1 h0
theorem RdB.grown_aside {w w' : World} {A : Option Addr} {l : List Nat} (h : RdB w A l) {g : Nat} {cs : Array Value} {t : TypeId} {fr : Nat × Nat} (hg : w.heap[g]? = some (.cells cs t fr)) (hs : ∀ (j : Nat) (v : Value) (n : Nat), cs[j]? = some v → v ≠ bv n) (gr : w.grownBy w' (some g)) : RdB w' A l := by
  by_cases h0 : 0 < l.length
  · exact h.of_block fun q hq => gr.block q (h.away h0 hg hs q hq).2 (fun e => (h.away h0 hg hs q hq).1 (Option.some.inj e))
  · intro h1; exact absurd h1 h0
theorem not_bv5 {a b c d e : Value} (ha : ∀ n, a ≠ bv n) (hb : ∀ n, b ≠ bv n) (hc : ∀ n, c ≠ bv n) (hd : ∀ n, d ≠ bv n) (he : ∀ n, e ≠ bv n) : ∀ (j : Nat) (v : Value) (n : Nat), (#[a, b, c, d, e] : Array Value)[j]? = some v → v ≠ bv n := by
  intro j v n h
  rcases j with _ | _ | _ | _ | _ | j
  · simp at h; rw [← h]; exact ha n
  · simp at h; rw [← h]; exact hb n
  · simp at h; rw [← h]; exact hc n
  · simp at h; rw [← h]; exact hd n
  · simp at h; rw [← h]; exact he n
  · simp at h
theorem bytes_right {a b : List Nat} (h : Bytes (a ++ b)) : Bytes b := fun x hx => h x (List.mem_append.2 (.inr hx))
theorem cellN_bytes (c : Cl) : Bytes (cellN c) := by
  intro x hx
  unfold cellN textN at hx
  simp only [List.mem_append, List.mem_singleton, or_assoc] at hx
  rcases hx with h | h | h | h | h | rfl | h | h
  all_goals first | exact numN_bytes _ x h | exact keyN_bytes _ x h | (cases c.gone <;> decide) | skip
theorem ccut_any (x : Cl) (h : ClOk x) (R : List Nat) (A : Option Addr) (l : List Nat) (c : Nat) (hl : Hid (l = cellN x ++ R)) (hb : Bytes l) (hc : l.length ≤ c) (hcm : c ≤ 9223372036854775807) (hm : l.length ≤ 140737488355328) (W : World) (hr : RdB W A l) :
    Calls Tryz.prog 342 #[.slice A l.length c] W fun e W' => ∃ (L : List Nat) (A' : Option Addr) (c' : Nat), Hid (L = R) ∧ e = .returned (.tuple #[clv x, .slice A' L.length c', .bool true]) ∧ RdB W' A' L ∧ L.length ≤ c' ∧ c' ≤ 9223372036854775807 ∧ Below W.heap.size W W' := by
  have HRi := Lib.hid (fun w => cellright_any x w)
  rw [right_ok h] at HRi
  obtain ⟨r, k, t, v, d⟩ := x
  obtain ⟨h1, h2, h3, h4, h5, h6, h7, _⟩ := h
  simp only at h1 h2 h3 h4 h5 h6 h7
  obtain ⟨n, rfl⟩ : ∃ n : Nat, t = n := ⟨t.toNat, by omega⟩
  have H0 : Hid (l = textN r ++ (textN k ++ (numN n ++ (d.toNat :: (textN v ++ R))))) := Lib.hid (by rw [hl.out]; simp [cellN])
  have hm0 : l.length ≤ 140737488355328 := hm
  have hb0 : Bytes l := hb
  have qr : r.size ≤ 65536 := by omega
  have qk : k.size ≤ 65536 := by omega
  have qv : v.size ≤ 65536 := by omega
  have qn : n ≤ 4294967295 := by omega
  have hq : ∀ w, (Op.equalIn 10000 445 (.agg #[.bool true, .bool true, .bool true, .bool true, .bool true]) (.agg #[.bool true, .bool true, .bool true, .bool true, .bool true])).run Tryz.prog w = .ok true w := fun w => by kernel_rfl
  unfold clv clcells at HRi ⊢
  simp only [] at HRi ⊢
  clear hl h1 h2 h3 h4 h5 h6 h7
  go_enter Tryz.func342, Tryz.ntmps342
  go_wp2_with fail
  generalize hw0 : World.alloc (World.alloc (World.alloc W _) _) _ = w0
  obtain ⟨hR0, hC0, hO0, hB0, hz0'⟩ := three_new _ _ _ _ hw0
  clear hw0
  simp only [Nat.add_assoc, Nat.reduceAdd]
  have hz0 : W.heap.size + 3 ≤ w0.heap.size := by omega
  clear hz0'
  have hr0 := hr.below hB0 (Nat.le_refl _)
  clear hr
  have HCut0 := Lib.hid (ctext_at r qr _ A l c H0 hb0 hc hcm hm0 w0 hr0)
  refine HCut0.out.mono ?_
  rintro e u0 ⟨L1, A1, c1, H1, rfl, hs1, hc1, hcm1, hv1⟩
  have hl1 := congrArg List.length H0.out
  simp only [List.length_append, List.length_cons] at hl1
  have hb1 : Bytes L1 := by
    rw [H1.out]
    have := hb0
    rw [H0.out] at this
    exact bytes_right this
  have hm1 : L1.length ≤ 140737488355328 := by
    have := congrArg List.length H1.out
    simp only [List.length_append, List.length_cons] at this
    omega
  clear hl1
  have hvz0 := hv1.size
  have hC0' := (hv1.block (W.heap.size + 1) (by omega)).trans hC0
  have hO0' := (hv1.block (W.heap.size + 2) (by omega)).trans hO0
  have hR0' := (hv1.block W.heap.size (by omega)).trans hR0
  have p0 : u0.cell? ⟨W.heap.size + 1, 0, none⟩ = some (.string { data := #[] }) := cob hC0' 0 rfl
  have p1 : u0.cell? ⟨W.heap.size + 2, 0, none⟩ = some (.bool false) := cob hO0' 0 rfl
  have hfr0 : ∀ j, u0.frozen? ⟨W.heap.size + 1, j, none⟩ = false := fun j => by simp [World.frozen?, hC0']
  have hfr1 : ∀ j, u0.frozen? ⟨W.heap.size + 2, j, none⟩ = false := fun j => by simp [World.frozen?, hO0']
  have HC0 := Lib.hid hC0'
  have HO0 := Lib.hid hO0'
  have HB0 := Lib.hid (hB0.trans (hv1.mono (by omega)))
  clear hC0 hO0 hR0 hC0' hO0' hB0 hv1 hr0 hb0 hb
  go_wp2_with fail
  clear p0 p1 hfr0 hfr1
  have g1 := heap_setCell_same u0 (W.heap.size + 1) 0 _ _ (.string r) HC0.out
  have g2 := heap_setCell_other u0 ⟨W.heap.size + 1, 0, none⟩ (W.heap.size + 2) (.string r) (by simp)
  have g3 := heap_setCell_same _ (W.heap.size + 2) 0 _ _ (.bool true) (g2.trans HO0.out)
  have g4 := (heap_setCell_other (u0.setCell ⟨W.heap.size + 1, 0, none⟩ (.string r)) ⟨W.heap.size + 2, 0, none⟩ (W.heap.size + 1) (.bool true) (by simp)).trans g1
  have g5 := (heap_setCell_other (u0.setCell ⟨W.heap.size + 1, 0, none⟩ (.string r)) ⟨W.heap.size + 2, 0, none⟩ W.heap.size (.bool true) (by simp)).trans ((heap_setCell_other u0 ⟨W.heap.size + 1, 0, none⟩ W.heap.size (.string r) (by simp)).trans hR0')
  have hr1 := (hs1.aside (k := 0) HC0.out (not_bv5 (fun _ h => by cases h) (fun _ h => by cases h) (fun _ h => by cases h) (fun _ h => by cases h) (fun _ h => by cases h)) (.string r)).aside (k := 0) (g2.trans HO0.out) (not_bv5 (fun _ h => by cases h) (fun _ h => by cases h) (fun _ h => by cases h) (fun _ h => by cases h) (fun _ h => by cases h)) (.bool true)
  have hB1 := (HB0.out.setCell (p := ⟨W.heap.size + 1, 0, none⟩) (by simp) (.string r)).setCell (p := ⟨W.heap.size + 2, 0, none⟩) (by simp) (.bool true)
  have hzz1 : ((u0.setCell ⟨W.heap.size + 1, 0, none⟩ (.string r)).setCell ⟨W.heap.size + 2, 0, none⟩ (.bool true)).heap.size = u0.heap.size := by simp
  obtain ⟨w1, hw1⟩ : ∃ w', w' = (u0.setCell ⟨W.heap.size + 1, 0, none⟩ (.string r)).setCell ⟨W.heap.size + 2, 0, none⟩ (.bool true) := ⟨_, rfl⟩
  rw [← hw1] at hr1 hB1 hzz1 g3 g4 g5 ⊢
  have hz1 : W.heap.size + 3 ≤ w1.heap.size := by omega
  have hC1 : w1.heap[W.heap.size + 1]? = some (.cells #[.string r, .string { data := #[] }, .int .i64 0, .string { data := #[] }, .bool false] 93) := g4
  have hO1 : w1.heap[W.heap.size + 2]? = some (.cells #[.bool true, .bool false, .bool false, .bool false, .bool false] 445) := g3
  have hR1 := g5
  clear g1 g2 g3 g4 g5 hw1 hzz1 hs1 HC0 HO0 HB0 hvz0 HCut0 hR0'
  have HCut1 := Lib.hid (ctext_at k qk _ A1 L1 c1 H1 hb1 hc1 hcm1 hm1 w1 hr1)
  refine HCut1.out.mono ?_
  rintro e u1 ⟨L2, A2, c2, H2, rfl, hs2, hc2, hcm2, hv2⟩
  have hl2 := congrArg List.length H1.out
  simp only [List.length_append, List.length_cons] at hl2
  have hb2 : Bytes L2 := by
    rw [H2.out]
    have := hb1
    rw [H1.out] at this
    exact bytes_right this
  have hm2 : L2.length ≤ 140737488355328 := by
    have := congrArg List.length H2.out
    simp only [List.length_append, List.length_cons] at this
    omega
  clear hl2
  have hvz1 := hv2.size
  have hC1' := (hv2.block (W.heap.size + 1) (by omega)).trans hC1
  have hO1' := (hv2.block (W.heap.size + 2) (by omega)).trans hO1
  have hR1' := (hv2.block W.heap.size (by omega)).trans hR1
  have p0 : u1.cell? ⟨W.heap.size + 1, 1, none⟩ = some (.string { data := #[] }) := cob hC1' 1 rfl
  have p1 : u1.cell? ⟨W.heap.size + 2, 1, none⟩ = some (.bool false) := cob hO1' 1 rfl
  have hfr0 : ∀ j, u1.frozen? ⟨W.heap.size + 1, j, none⟩ = false := fun j => by simp [World.frozen?, hC1']
  have hfr1 : ∀ j, u1.frozen? ⟨W.heap.size + 2, j, none⟩ = false := fun j => by simp [World.frozen?, hO1']
  have HC1 := Lib.hid hC1'
  have HO1 := Lib.hid hO1'
  have HB1 := Lib.hid (hB1.trans (hv2.mono (by omega)))
  clear hC1 hO1 hR1 hC1' hO1' hB1 hv2 hr1 hb1
  go_wp2_with fail
  clear p0 p1 hfr0 hfr1
  have g1 := heap_setCell_same u1 (W.heap.size + 1) 1 _ _ (.string k) HC1.out
  have g2 := heap_setCell_other u1 ⟨W.heap.size + 1, 1, none⟩ (W.heap.size + 2) (.string k) (by simp)
  have g3 := heap_setCell_same _ (W.heap.size + 2) 1 _ _ (.bool true) (g2.trans HO1.out)
  have g4 := (heap_setCell_other (u1.setCell ⟨W.heap.size + 1, 1, none⟩ (.string k)) ⟨W.heap.size + 2, 1, none⟩ (W.heap.size + 1) (.bool true) (by simp)).trans g1
  have g5 := (heap_setCell_other (u1.setCell ⟨W.heap.size + 1, 1, none⟩ (.string k)) ⟨W.heap.size + 2, 1, none⟩ W.heap.size (.bool true) (by simp)).trans ((heap_setCell_other u1 ⟨W.heap.size + 1, 1, none⟩ W.heap.size (.string k) (by simp)).trans hR1')
  have hr2 := (hs2.aside (k := 1) HC1.out (not_bv5 (fun _ h => by cases h) (fun _ h => by cases h) (fun _ h => by cases h) (fun _ h => by cases h) (fun _ h => by cases h)) (.string k)).aside (k := 1) (g2.trans HO1.out) (not_bv5 (fun _ h => by cases h) (fun _ h => by cases h) (fun _ h => by cases h) (fun _ h => by cases h) (fun _ h => by cases h)) (.bool true)
  have hB2 := (HB1.out.setCell (p := ⟨W.heap.size + 1, 1, none⟩) (by simp) (.string k)).setCell (p := ⟨W.heap.size + 2, 1, none⟩) (by simp) (.bool true)
  have hzz2 : ((u1.setCell ⟨W.heap.size + 1, 1, none⟩ (.string k)).setCell ⟨W.heap.size + 2, 1, none⟩ (.bool true)).heap.size = u1.heap.size := by simp
  obtain ⟨w2, hw2⟩ : ∃ w', w' = (u1.setCell ⟨W.heap.size + 1, 1, none⟩ (.string k)).setCell ⟨W.heap.size + 2, 1, none⟩ (.bool true) := ⟨_, rfl⟩
  rw [← hw2] at hr2 hB2 hzz2 g3 g4 g5 ⊢
  have hz2 : W.heap.size + 3 ≤ w2.heap.size := by omega
  have hC2 : w2.heap[W.heap.size + 1]? = some (.cells #[.string r, .string k, .int .i64 0, .string { data := #[] }, .bool false] 93) := g4
  have hO2 : w2.heap[W.heap.size + 2]? = some (.cells #[.bool true, .bool true, .bool false, .bool false, .bool false] 445) := g3
  have hR2 := g5
  clear g1 g2 g3 g4 g5 hw2 hzz2 hs2 HC1 HO1 HB1 hvz1 HCut1 hR1'
  have HCut2 := Lib.hid (cnum_at n qn _ A2 L2 c2 H2 hb2 hc2 hcm2 hm2 w2 hr2)
  refine HCut2.out.mono ?_
  rintro e u2 ⟨L3, A3, c3, H3, rfl, hs3, hc3, hcm3, hv3⟩
  have hl3 := congrArg List.length H2.out
  simp only [List.length_append, List.length_cons] at hl3
  have hb3 : Bytes L3 := by
    rw [H3.out]
    have := hb2
    rw [H2.out] at this
    exact bytes_right this
  have hm3 : L3.length ≤ 140737488355328 := by
    have := congrArg List.length H3.out
    simp only [List.length_append, List.length_cons] at this
    omega
  clear hl3
  have hvz2 := hv3.size
  have hC2' := (hv3.block (W.heap.size + 1) (by omega)).trans hC2
  have hO2' := (hv3.block (W.heap.size + 2) (by omega)).trans hO2
  have hR2' := (hv3.block W.heap.size (by omega)).trans hR2
  have p0 : u2.cell? ⟨W.heap.size + 1, 2, none⟩ = some (.int .i64 0) := cob hC2' 2 rfl
  have p1 : u2.cell? ⟨W.heap.size + 2, 2, none⟩ = some (.bool false) := cob hO2' 2 rfl
  have hfr0 : ∀ j, u2.frozen? ⟨W.heap.size + 1, j, none⟩ = false := fun j => by simp [World.frozen?, hC2']
  have hfr1 : ∀ j, u2.frozen? ⟨W.heap.size + 2, j, none⟩ = false := fun j => by simp [World.frozen?, hO2']
  have HC2 := Lib.hid hC2'
  have HO2 := Lib.hid hO2'
  have HB2 := Lib.hid (hB2.trans (hv3.mono (by omega)))
  clear hC2 hO2 hR2 hC2' hO2' hB2 hv3 hr2 hb2
  go_wp2_with fail
  clear p0 p1 hfr0 hfr1
  have g1 := heap_setCell_same u2 (W.heap.size + 1) 2 _ _ (.int .i64 (n : Int)) HC2.out
  have g2 := heap_setCell_other u2 ⟨W.heap.size + 1, 2, none⟩ (W.heap.size + 2) (.int .i64 (n : Int)) (by simp)
  have g3 := heap_setCell_same _ (W.heap.size + 2) 2 _ _ (.bool true) (g2.trans HO2.out)
  have g4 := (heap_setCell_other (u2.setCell ⟨W.heap.size + 1, 2, none⟩ (.int .i64 (n : Int))) ⟨W.heap.size + 2, 2, none⟩ (W.heap.size + 1) (.bool true) (by simp)).trans g1
  have g5 := (heap_setCell_other (u2.setCell ⟨W.heap.size + 1, 2, none⟩ (.int .i64 (n : Int))) ⟨W.heap.size + 2, 2, none⟩ W.heap.size (.bool true) (by simp)).trans ((heap_setCell_other u2 ⟨W.heap.size + 1, 2, none⟩ W.heap.size (.int .i64 (n : Int)) (by simp)).trans hR2')
  have hr3 := (hs3.aside (k := 2) HC2.out (not_bv5 (fun _ h => by cases h) (fun _ h => by cases h) (fun _ h => by cases h) (fun _ h => by cases h) (fun _ h => by cases h)) (.int .i64 (n : Int))).aside (k := 2) (g2.trans HO2.out) (not_bv5 (fun _ h => by cases h) (fun _ h => by cases h) (fun _ h => by cases h) (fun _ h => by cases h) (fun _ h => by cases h)) (.bool true)
  have hB3 := (HB2.out.setCell (p := ⟨W.heap.size + 1, 2, none⟩) (by simp) (.int .i64 (n : Int))).setCell (p := ⟨W.heap.size + 2, 2, none⟩) (by simp) (.bool true)
  have hzz3 : ((u2.setCell ⟨W.heap.size + 1, 2, none⟩ (.int .i64 (n : Int))).setCell ⟨W.heap.size + 2, 2, none⟩ (.bool true)).heap.size = u2.heap.size := by simp
  obtain ⟨w3, hw3⟩ : ∃ w', w' = (u2.setCell ⟨W.heap.size + 1, 2, none⟩ (.int .i64 (n : Int))).setCell ⟨W.heap.size + 2, 2, none⟩ (.bool true) := ⟨_, rfl⟩
  rw [← hw3] at hr3 hB3 hzz3 g3 g4 g5 ⊢
  have hz3 : W.heap.size + 3 ≤ w3.heap.size := by omega
  have hC3 : w3.heap[W.heap.size + 1]? = some (.cells #[.string r, .string k, .int .i64 (n : Int), .string { data := #[] }, .bool false] 93) := g4
  have hO3 : w3.heap[W.heap.size + 2]? = some (.cells #[.bool true, .bool true, .bool true, .bool false, .bool false] 445) := g3
  have hR3 := g5
  clear g1 g2 g3 g4 g5 hw3 hzz3 hs3 HC2 HO2 HB2 hvz2 HCut2 hR2'
  have HCut3 := Lib.hid (cflag_at d _ (by simp [textN, numN]) A3 L3 c3 H3 hc3 hcm3 w3 hr3)
  refine HCut3.out.mono ?_
  rintro e u3 ⟨L4, A4, c4, H4, rfl, hs4, hc4, hcm4, hv4⟩
  have hl4 := congrArg List.length H3.out
  simp only [List.length_append, List.length_cons] at hl4
  have hb4 : Bytes L4 := by
    rw [H4.out]
    have := hb3
    rw [H3.out] at this
    exact fun x hx => this x (List.mem_cons_of_mem _ hx)
  have hm4 : L4.length ≤ 140737488355328 := by
    have := congrArg List.length H4.out
    simp only [List.length_append] at this
    omega
  clear hl4
  have hvz3 := hv4.size
  have hC3' := (hv4.block (W.heap.size + 1) (by omega)).trans hC3
  have hO3' := (hv4.block (W.heap.size + 2) (by omega)).trans hO3
  have hR3' := (hv4.block W.heap.size (by omega)).trans hR3
  have p0 : u3.cell? ⟨W.heap.size + 1, 4, none⟩ = some (.bool false) := cob hC3' 4 rfl
  have p1 : u3.cell? ⟨W.heap.size + 2, 3, none⟩ = some (.bool false) := cob hO3' 3 rfl
  have hfr0 : ∀ j, u3.frozen? ⟨W.heap.size + 1, j, none⟩ = false := fun j => by simp [World.frozen?, hC3']
  have hfr1 : ∀ j, u3.frozen? ⟨W.heap.size + 2, j, none⟩ = false := fun j => by simp [World.frozen?, hO3']
  have HC3 := Lib.hid hC3'
  have HO3 := Lib.hid hO3'
  have HB3 := Lib.hid (hB3.trans (hv4.mono (by omega)))
  clear hC3 hO3 hR3 hC3' hO3' hB3 hv4 hr3 hb3
  go_wp2_with fail
  clear p0 p1 hfr0 hfr1
  have g1 := heap_setCell_same u3 (W.heap.size + 1) 4 _ _ (.bool d) HC3.out
  have g2 := heap_setCell_other u3 ⟨W.heap.size + 1, 4, none⟩ (W.heap.size + 2) (.bool d) (by simp)
  have g3 := heap_setCell_same _ (W.heap.size + 2) 3 _ _ (.bool true) (g2.trans HO3.out)
  have g4 := (heap_setCell_other (u3.setCell ⟨W.heap.size + 1, 4, none⟩ (.bool d)) ⟨W.heap.size + 2, 3, none⟩ (W.heap.size + 1) (.bool true) (by simp)).trans g1
  have g5 := (heap_setCell_other (u3.setCell ⟨W.heap.size + 1, 4, none⟩ (.bool d)) ⟨W.heap.size + 2, 3, none⟩ W.heap.size (.bool true) (by simp)).trans ((heap_setCell_other u3 ⟨W.heap.size + 1, 4, none⟩ W.heap.size (.bool d) (by simp)).trans hR3')
  have hr4 := (hs4.aside (k := 4) HC3.out (not_bv5 (fun _ h => by cases h) (fun _ h => by cases h) (fun _ h => by cases h) (fun _ h => by cases h) (fun _ h => by cases h)) (.bool d)).aside (k := 3) (g2.trans HO3.out) (not_bv5 (fun _ h => by cases h) (fun _ h => by cases h) (fun _ h => by cases h) (fun _ h => by cases h) (fun _ h => by cases h)) (.bool true)
  have hB4 := (HB3.out.setCell (p := ⟨W.heap.size + 1, 4, none⟩) (by simp) (.bool d)).setCell (p := ⟨W.heap.size + 2, 3, none⟩) (by simp) (.bool true)
  have hzz4 : ((u3.setCell ⟨W.heap.size + 1, 4, none⟩ (.bool d)).setCell ⟨W.heap.size + 2, 3, none⟩ (.bool true)).heap.size = u3.heap.size := by simp
  obtain ⟨w4, hw4⟩ : ∃ w', w' = (u3.setCell ⟨W.heap.size + 1, 4, none⟩ (.bool d)).setCell ⟨W.heap.size + 2, 3, none⟩ (.bool true) := ⟨_, rfl⟩
  rw [← hw4] at hr4 hB4 hzz4 g3 g4 g5 ⊢
  have hz4 : W.heap.size + 3 ≤ w4.heap.size := by omega
  have hC4 : w4.heap[W.heap.size + 1]? = some (.cells #[.string r, .string k, .int .i64 (n : Int), .string { data := #[] }, .bool d] 93) := g4
  have hO4 : w4.heap[W.heap.size + 2]? = some (.cells #[.bool true, .bool true, .bool true, .bool true, .bool false] 445) := g3
  have hR4 := g5
  clear g1 g2 g3 g4 g5 hw4 hzz4 hs4 HC3 HO3 HB3 hvz3 HCut3 hR3'
  have HCut4 := Lib.hid (ctext_at v qv _ A4 L4 c4 H4 hb4 hc4 hcm4 hm4 w4 hr4)
  refine HCut4.out.mono ?_
  rintro e u4 ⟨L5, A5, c5, H5, rfl, hs5, hc5, hcm5, hv5⟩
  have hl5 := congrArg List.length H4.out
  simp only [List.length_append] at hl5
  have hb5 : Bytes L5 := by
    rw [H5.out]
    have := hb4
    rw [H4.out] at this
    exact bytes_right this
  have hm5 : L5.length ≤ 140737488355328 := by
    have := congrArg List.length H5.out
    skip
    omega
  clear hl5
  have hvz4 := hv5.size
  have hC4' := (hv5.block (W.heap.size + 1) (by omega)).trans hC4
  have hO4' := (hv5.block (W.heap.size + 2) (by omega)).trans hO4
  have hR4' := (hv5.block W.heap.size (by omega)).trans hR4
  have p0 : u4.cell? ⟨W.heap.size + 1, 3, none⟩ = some (.string { data := #[] }) := cob hC4' 3 rfl
  have p1 : u4.cell? ⟨W.heap.size + 2, 4, none⟩ = some (.bool false) := cob hO4' 4 rfl
  have hfr0 : ∀ j, u4.frozen? ⟨W.heap.size + 1, j, none⟩ = false := fun j => by simp [World.frozen?, hC4']
  have hfr1 : ∀ j, u4.frozen? ⟨W.heap.size + 2, j, none⟩ = false := fun j => by simp [World.frozen?, hO4']
  have HC4 := Lib.hid hC4'
  have HO4 := Lib.hid hO4'
  have HB4 := Lib.hid (hB4.trans (hv5.mono (by omega)))
  clear hC4 hO4 hR4 hC4' hO4' hB4 hv5 hr4 hb4
  go_upto_region 8 with (fail)
  clear p0 p1 hfr0 hfr1
  have g1 := heap_setCell_same u4 (W.heap.size + 1) 3 _ _ (.string v) HC4.out
  have g2 := heap_setCell_other u4 ⟨W.heap.size + 1, 3, none⟩ (W.heap.size + 2) (.string v) (by simp)
  have g3 := heap_setCell_same _ (W.heap.size + 2) 4 _ _ (.bool true) (g2.trans HO4.out)
  have g4 := (heap_setCell_other (u4.setCell ⟨W.heap.size + 1, 3, none⟩ (.string v)) ⟨W.heap.size + 2, 4, none⟩ (W.heap.size + 1) (.bool true) (by simp)).trans g1
  have g5 := (heap_setCell_other (u4.setCell ⟨W.heap.size + 1, 3, none⟩ (.string v)) ⟨W.heap.size + 2, 4, none⟩ W.heap.size (.bool true) (by simp)).trans ((heap_setCell_other u4 ⟨W.heap.size + 1, 3, none⟩ W.heap.size (.string v) (by simp)).trans hR4')
  have hr5 := (hs5.aside (k := 3) HC4.out (not_bv5 (fun _ h => by cases h) (fun _ h => by cases h) (fun _ h => by cases h) (fun _ h => by cases h) (fun _ h => by cases h)) (.string v)).aside (k := 4) (g2.trans HO4.out) (not_bv5 (fun _ h => by cases h) (fun _ h => by cases h) (fun _ h => by cases h) (fun _ h => by cases h) (fun _ h => by cases h)) (.bool true)
  have hB5 := (HB4.out.setCell (p := ⟨W.heap.size + 1, 3, none⟩) (by simp) (.string v)).setCell (p := ⟨W.heap.size + 2, 4, none⟩) (by simp) (.bool true)
  have hzz5 : ((u4.setCell ⟨W.heap.size + 1, 3, none⟩ (.string v)).setCell ⟨W.heap.size + 2, 4, none⟩ (.bool true)).heap.size = u4.heap.size := by simp
  obtain ⟨w5, hw5⟩ : ∃ w', w' = (u4.setCell ⟨W.heap.size + 1, 3, none⟩ (.string v)).setCell ⟨W.heap.size + 2, 4, none⟩ (.bool true) := ⟨_, rfl⟩
  rw [← hw5] at hr5 hB5 hzz5 g3 g4 g5 ⊢
  have hz5 : W.heap.size + 3 ≤ w5.heap.size := by omega
  have hC5 : w5.heap[W.heap.size + 1]? = some (.cells #[.string r, .string k, .int .i64 (n : Int), .string v, .bool d] 93) := g4
  have hO5 : w5.heap[W.heap.size + 2]? = some (.cells #[.bool true, .bool true, .bool true, .bool true, .bool true] 445) := g3
  have hR5 := g5
  clear g1 g2 g3 g4 g5 hw5 hzz5 hs5 HC4 HO4 HB4 hvz4 HCut4 hR4'
  have o0 : w5.cell? ⟨W.heap.size + 2, 0, none⟩ = some (.bool true) := cob hO5 0 rfl
  have o1 : w5.cell? ⟨W.heap.size + 2, 1, none⟩ = some (.bool true) := cob hO5 1 rfl
  have o2 : w5.cell? ⟨W.heap.size + 2, 2, none⟩ = some (.bool true) := cob hO5 2 rfl
  have o3 : w5.cell? ⟨W.heap.size + 2, 3, none⟩ = some (.bool true) := cob hO5 3 rfl
  have o4 : w5.cell? ⟨W.heap.size + 2, 4, none⟩ = some (.bool true) := cob hO5 4 rfl
  have e0 : w5.cell? ⟨W.heap.size + 1, 0, none⟩ = some (.string r) := cob hC5 0 rfl
  have e1 : w5.cell? ⟨W.heap.size + 1, 1, none⟩ = some (.string k) := cob hC5 1 rfl
  have e2 : w5.cell? ⟨W.heap.size + 1, 2, none⟩ = some (.int .i64 (n : Int)) := cob hC5 2 rfl
  have e3 : w5.cell? ⟨W.heap.size + 1, 3, none⟩ = some (.string v) := cob hC5 3 rfl
  have e4 : w5.cell? ⟨W.heap.size + 1, 4, none⟩ = some (.bool d) := cob hC5 4 rfl
  go_wp2_with fail
  refine (HRi.out w5).mono ?_
  rintro e w6 ⟨rfl, hb6⟩
  have hC6 := (hb6.block (W.heap.size + 1) (by omega)).trans hC5
  have hR6 := (hb6.block W.heap.size (by omega)).trans hR5
  have hr6 := hr5.below hb6 (Nat.le_refl _)
  have hz6 := hb6.size
  have hB6 := hB5.trans (hb6.mono (by omega))
  clear o0 o1 o2 o3 o4 e0 e1 e2 e3 e4 hb6 hC5 hO5 hR5 hr5 hB5
  have e0 : w6.cell? ⟨W.heap.size + 1, 0, none⟩ = some (.string r) := cob hC6 0 rfl
  have e1 : w6.cell? ⟨W.heap.size + 1, 1, none⟩ = some (.string k) := cob hC6 1 rfl
  have e2 : w6.cell? ⟨W.heap.size + 1, 2, none⟩ = some (.int .i64 (n : Int)) := cob hC6 2 rfl
  have e3 : w6.cell? ⟨W.heap.size + 1, 3, none⟩ = some (.string v) := cob hC6 3 rfl
  have e4 : w6.cell? ⟨W.heap.size + 1, 4, none⟩ = some (.bool d) := cob hC6 4 rfl
  have d0 : w6.cell? ⟨W.heap.size, 0, none⟩ = some (.string { data := #[] }) := cob hR6 0 rfl
  have d1 : w6.cell? ⟨W.heap.size, 1, none⟩ = some (.string { data := #[] }) := cob hR6 1 rfl
  have d2 : w6.cell? ⟨W.heap.size, 2, none⟩ = some (.int .i64 0) := cob hR6 2 rfl
  have d3 : w6.cell? ⟨W.heap.size, 3, none⟩ = some (.string { data := #[] }) := cob hR6 3 rfl
  have d4 : w6.cell? ⟨W.heap.size, 4, none⟩ = some (.bool false) := cob hR6 4 rfl
  have hfr : ∀ j, w6.frozen? ⟨W.heap.size, j, none⟩ = false := fun j => by simp [World.frozen?, hR6]
  have HR6 := Lib.hid hR6
  clear hR6 hC6
  go_wp2
  obtain ⟨hf9, hgr, hz9⟩ := cl_store w6 W.heap.size _ HR6.out rfl (r) (k) ((n : Int)) (v) (d)
  generalize World.setCell _ ⟨W.heap.size, 4, none⟩ _ = w9 at hf9 hgr hz9 ⊢
  refine bodyPost_ret (results_ctt rfl _ _ W.heap.size _ _ (0, 0) _ rfl hf9 Tryz.underlying93 rfl Tryz.sizeCl) rfl ⟨L5, A5, c5, H5, rfl, ?_, hc5, hcm5, ?_⟩
  · exact hr6.grown_aside HR6.out (not_bv5 (fun _ h => by cases h) (fun _ h => by cases h) (fun _ h => by cases h) (fun _ h => by cases h) (fun _ h => by cases h)) hgr
  · exact hB6.grown hgr (by omega) (fun q hq => by injection hq with hq; omega)
end Go.Proofs.YtoigogjmhkpdlaaGreat
