/- A part of the proof of WholeFew: the texts CmdA. -/
import Derived.Test.YtoigogjmhkpdlaaGreatJ11
import Derived.Test.YtoigogjmhkpdlaaGreatJ18
set_option maxHeartbeats 1600000
set_option maxRecDepth 100000
namespace Go.Proofs.YtoigogjmhkpdlaaGreat
open Go.RowKit
structure Cm where
  client : Int
  seq : Int
  kind : Int
  row : ByteArray
  col : ByteArray
  to : ByteArray
  at_ : Int
  value : ByteArray
  expect : ByteArray
  has : Bool
def cmcells (c : Cm) : List Value := [.int .i64 c.client, .int .i64 c.seq, .int .i64 c.kind, .string c.row, .string c.col, .string c.to, .int .i64 c.at_, .string c.value, .string c.expect, .bool c.has]
def cmv (c : Cm) : Value := .agg (cmcells c).toArray
theorem bool_dec (b : Bool) : b = false ∨ b = true := by cases b <;> simp
def partOf (k : Int) : Bool × Bool × Bool × Bool := if k = 1 then (true, false, true, false) else if k = 3 then (true, false, true, true) else if k = 5 then (false, true, false, false) else (true, false, false, false)
def bareB (c : Cm) : Bool :=
  ((partOf c.kind).1 || c.col.toList.isEmpty) && ((partOf c.kind).2.1 || c.to.toList.isEmpty) && ((partOf c.kind).2.2.1 || c.value.toList.isEmpty) && ((partOf c.kind).2.2.2 || (!c.has && c.expect.toList.isEmpty)) && (c.has || c.expect.toList.isEmpty)
theorem bare1_any (cl sq : Int) (row col to : ByteArray) (at_ : Int) (value expect : ByteArray) (has : Bool) (W : World) : Calls Tryz.prog 53 #[cmv ⟨cl, sq, 1, row, col, to, at_, value, expect, has⟩] W fun e W' => e = .returned (.bool (bareB ⟨cl, sq, 1, row, col, to, at_, value, expect, has⟩)) ∧ Below W.heap.size W W' := by
  have HK := Lib.hid kinds_any
  have hix : ∀ w : World, (Instr.index 168 (.agg kindsV) (.int .i64 1)).run Tryz.prog w = .ok (.agg #[.bool true, .bool false, .bool true, .bool false]) w := fun w => by kernel_rfl
  unfold cmv cmcells
  simp only []
  go_enter Tryz.func53, Tryz.ntmps53
  go_wp2_with fail
  generalize hw1 : World.alloc W _ = w1
  have hX1 := named_new hw1.symm
  have hb1 := named_below hw1.symm
  have hlt1 : W.heap.size < w1.heap.size := by rw [named_size hw1.symm]; omega
  clear hw1
  obtain ⟨X, hX⟩ : ∃ X, w1.heap[W.heap.size]? = some X := ⟨_, hX1⟩
  have HQ := Lib.hid (show ∀ (o : Nat) (v : Value), w1.cell? ⟨W.heap.size, o, none⟩ = some v → ∀ w : World, w.heap[W.heap.size]? = some X → w.cell? ⟨W.heap.size, o, none⟩ = some v from fun o v hc w hw => (World.cell?_of_block (hw.trans hX.symm)).trans hc)
  have c2 := HQ.out 2 _ (cob hX1 2 rfl)
  have c4 := HQ.out 4 _ (cob hX1 4 rfl)
  have c5 := HQ.out 5 _ (cob hX1 5 rfl)
  have c7 := HQ.out 7 _ (cob hX1 7 rfl)
  have c8 := HQ.out 8 _ (cob hX1 8 rfl)
  have c9 := HQ.out 9 _ (cob hX1 9 rfl)
  clear hX1
  have HS := Lib.hid (show ∀ w, Below w1.heap.size w1 w → w.heap[W.heap.size]? = some X from fun w hb => (hb.block W.heap.size (by omega)).trans hX)
  have hS0 := HS.out w1.drew (Below.refl _ _).drew
  have hS3 := fun o => HS.out (w1.alloc o).drew ((Below.refl _ _).alloc (Nat.le_refl _) o).drew
  have hne : W.heap.size ≠ w1.heap.size := by omega
  go_region_held3 (fun w' => w'.heap[W.heap.size]? = some X)
    (first | with_reducible exact hX | with_reducible exact hS0 | with_reducible exact hX2 | with_reducible exact hS1 | with_reducible exact hS2 _ | with_reducible exact hS3 _ | exact (heap_setCell_other _ _ _ _ hne).trans ((heap_setCell_other _ _ _ _ hne).trans ((heap_setCell_other _ _ _ _ hne).trans ((heap_setCell_other _ _ _ _ hne).trans hX2))))
    (first | (go_at_call 88; refine (HK.out _).mono ?_; rintro e w2 ⟨rfl, hb2⟩; (first
      | (have HB2 := Lib.hid (show Below w1.heap.size w1 w2 from below_undrew hb2); have hX2 := HS.out w2 HB2.out; have hS2 := (fun o => HS.out (w2.alloc o) (HB2.out.alloc HB2.out.size o)))
      | (have HB2 := Lib.hid (show Below w1.heap.size w1 w2 from ((Below.refl w1.heap.size w1).alloc (Nat.le_refl _) _).trans ((below_undrew hb2).mono (by simp))); have hX2 := HS.out w2 HB2.out; have hS2 := (fun o => HS.out (w2.alloc o) (HB2.out.alloc HB2.out.size o)); have hbx := (hb2.block w1.heap.size (by rw [drew_size]; simp)).trans (heap_alloc_new w1 _); have hbf : ∀ j, w2.frozen? ⟨w1.heap.size, j, none⟩ = false := (fun j => by simp [World.frozen?, hbx]); have hb20 := cob hbx 0 rfl; have hb21 := cob hbx 1 rfl; have hb22 := cob hbx 2 rfl; have hb23 := cob hbx 3 rfl; clear hbx))))
  all_goals
    clear hS0 hS2 hS3 hX2 hX c2
    rcases bool_dec (to.toList.isEmpty) with h2 | h2
    · have _ := h2
      have HC := Lib.hid (show bareB ⟨cl, sq, 1, row, col, to, at_, value, expect, has⟩ = false by simp [bareB, partOf, *])
      go_wp2
      go_ret
      refine ⟨by rw [HC.out]; rfl, ?_⟩
      first
        | with_reducible exact hb1.trans ((HB2.out.alloc HB2.out.size _).mono (by omega))
        | exact hb1.trans (((((HB2.out.setCell (p := ⟨w1.heap.size, 0, none⟩) (Nat.le_refl _) _).setCell (p := ⟨w1.heap.size, 1, none⟩) (Nat.le_refl _) _).setCell (p := ⟨w1.heap.size, 2, none⟩) (Nat.le_refl _) _).setCell (p := ⟨w1.heap.size, 3, none⟩) (Nat.le_refl _) _).mono (by omega))
    · have _ := h2
      rcases bool_dec (has) with h4 | h4
      · have _ := h4
        rcases bool_dec (expect.toList.isEmpty) with h5 | h5
        · have _ := h5
          have HC := Lib.hid (show bareB ⟨cl, sq, 1, row, col, to, at_, value, expect, has⟩ = false by simp [bareB, partOf, *])
          go_wp2
          go_ret
          refine ⟨by rw [HC.out]; rfl, ?_⟩
          first
            | with_reducible exact hb1.trans ((HB2.out.alloc HB2.out.size _).mono (by omega))
            | exact hb1.trans (((((HB2.out.setCell (p := ⟨w1.heap.size, 0, none⟩) (Nat.le_refl _) _).setCell (p := ⟨w1.heap.size, 1, none⟩) (Nat.le_refl _) _).setCell (p := ⟨w1.heap.size, 2, none⟩) (Nat.le_refl _) _).setCell (p := ⟨w1.heap.size, 3, none⟩) (Nat.le_refl _) _).mono (by omega))
        · have _ := h5
          have HC := Lib.hid (show bareB ⟨cl, sq, 1, row, col, to, at_, value, expect, has⟩ = true by simp [bareB, partOf, *])
          go_wp2
          go_ret
          refine ⟨by rw [HC.out]; rfl, ?_⟩
          first
            | with_reducible exact hb1.trans ((HB2.out.alloc HB2.out.size _).mono (by omega))
            | exact hb1.trans (((((HB2.out.setCell (p := ⟨w1.heap.size, 0, none⟩) (Nat.le_refl _) _).setCell (p := ⟨w1.heap.size, 1, none⟩) (Nat.le_refl _) _).setCell (p := ⟨w1.heap.size, 2, none⟩) (Nat.le_refl _) _).setCell (p := ⟨w1.heap.size, 3, none⟩) (Nat.le_refl _) _).mono (by omega))
      · have _ := h4
        have HC := Lib.hid (show bareB ⟨cl, sq, 1, row, col, to, at_, value, expect, has⟩ = false by simp [bareB, partOf, *])
        go_wp2
        go_ret
        refine ⟨by rw [HC.out]; rfl, ?_⟩
        first
          | with_reducible exact hb1.trans ((HB2.out.alloc HB2.out.size _).mono (by omega))
          | exact hb1.trans (((((HB2.out.setCell (p := ⟨w1.heap.size, 0, none⟩) (Nat.le_refl _) _).setCell (p := ⟨w1.heap.size, 1, none⟩) (Nat.le_refl _) _).setCell (p := ⟨w1.heap.size, 2, none⟩) (Nat.le_refl _) _).setCell (p := ⟨w1.heap.size, 3, none⟩) (Nat.le_refl _) _).mono (by omega))
theorem bare2_any (cl sq : Int) (row col to : ByteArray) (at_ : Int) (value expect : ByteArray) (has : Bool) (W : World) : Calls Tryz.prog 53 #[cmv ⟨cl, sq, 2, row, col, to, at_, value, expect, has⟩] W fun e W' => e = .returned (.bool (bareB ⟨cl, sq, 2, row, col, to, at_, value, expect, has⟩)) ∧ Below W.heap.size W W' := by
  have HK := Lib.hid kinds_any
  have hix : ∀ w : World, (Instr.index 168 (.agg kindsV) (.int .i64 2)).run Tryz.prog w = .ok (.agg #[.bool true, .bool false, .bool false, .bool false]) w := fun w => by kernel_rfl
  unfold cmv cmcells
  simp only []
  go_enter Tryz.func53, Tryz.ntmps53
  go_wp2_with fail
  generalize hw1 : World.alloc W _ = w1
  have hX1 := named_new hw1.symm
  have hb1 := named_below hw1.symm
  have hlt1 : W.heap.size < w1.heap.size := by rw [named_size hw1.symm]; omega
  clear hw1
  obtain ⟨X, hX⟩ : ∃ X, w1.heap[W.heap.size]? = some X := ⟨_, hX1⟩
  have HQ := Lib.hid (show ∀ (o : Nat) (v : Value), w1.cell? ⟨W.heap.size, o, none⟩ = some v → ∀ w : World, w.heap[W.heap.size]? = some X → w.cell? ⟨W.heap.size, o, none⟩ = some v from fun o v hc w hw => (World.cell?_of_block (hw.trans hX.symm)).trans hc)
  have c2 := HQ.out 2 _ (cob hX1 2 rfl)
  have c4 := HQ.out 4 _ (cob hX1 4 rfl)
  have c5 := HQ.out 5 _ (cob hX1 5 rfl)
  have c7 := HQ.out 7 _ (cob hX1 7 rfl)
  have c8 := HQ.out 8 _ (cob hX1 8 rfl)
  have c9 := HQ.out 9 _ (cob hX1 9 rfl)
  clear hX1
  have HS := Lib.hid (show ∀ w, Below w1.heap.size w1 w → w.heap[W.heap.size]? = some X from fun w hb => (hb.block W.heap.size (by omega)).trans hX)
  have hS0 := HS.out w1.drew (Below.refl _ _).drew
  have hS3 := fun o => HS.out (w1.alloc o).drew ((Below.refl _ _).alloc (Nat.le_refl _) o).drew
  have hne : W.heap.size ≠ w1.heap.size := by omega
  go_region_held3 (fun w' => w'.heap[W.heap.size]? = some X)
    (first | with_reducible exact hX | with_reducible exact hS0 | with_reducible exact hX2 | with_reducible exact hS1 | with_reducible exact hS2 _ | with_reducible exact hS3 _ | exact (heap_setCell_other _ _ _ _ hne).trans ((heap_setCell_other _ _ _ _ hne).trans ((heap_setCell_other _ _ _ _ hne).trans ((heap_setCell_other _ _ _ _ hne).trans hX2))))
    (first | (go_at_call 88; refine (HK.out _).mono ?_; rintro e w2 ⟨rfl, hb2⟩; (first
      | (have HB2 := Lib.hid (show Below w1.heap.size w1 w2 from below_undrew hb2); have hX2 := HS.out w2 HB2.out; have hS2 := (fun o => HS.out (w2.alloc o) (HB2.out.alloc HB2.out.size o)))
      | (have HB2 := Lib.hid (show Below w1.heap.size w1 w2 from ((Below.refl w1.heap.size w1).alloc (Nat.le_refl _) _).trans ((below_undrew hb2).mono (by simp))); have hX2 := HS.out w2 HB2.out; have hS2 := (fun o => HS.out (w2.alloc o) (HB2.out.alloc HB2.out.size o)); have hbx := (hb2.block w1.heap.size (by rw [drew_size]; simp)).trans (heap_alloc_new w1 _); have hbf : ∀ j, w2.frozen? ⟨w1.heap.size, j, none⟩ = false := (fun j => by simp [World.frozen?, hbx]); have hb20 := cob hbx 0 rfl; have hb21 := cob hbx 1 rfl; have hb22 := cob hbx 2 rfl; have hb23 := cob hbx 3 rfl; clear hbx))))
  all_goals
    clear hS0 hS2 hS3 hX2 hX c2
    rcases bool_dec (to.toList.isEmpty) with h2 | h2
    · have _ := h2
      have HC := Lib.hid (show bareB ⟨cl, sq, 2, row, col, to, at_, value, expect, has⟩ = false by simp [bareB, partOf, *])
      go_wp2
      go_ret
      refine ⟨by rw [HC.out]; rfl, ?_⟩
      first
        | with_reducible exact hb1.trans ((HB2.out.alloc HB2.out.size _).mono (by omega))
        | exact hb1.trans (((((HB2.out.setCell (p := ⟨w1.heap.size, 0, none⟩) (Nat.le_refl _) _).setCell (p := ⟨w1.heap.size, 1, none⟩) (Nat.le_refl _) _).setCell (p := ⟨w1.heap.size, 2, none⟩) (Nat.le_refl _) _).setCell (p := ⟨w1.heap.size, 3, none⟩) (Nat.le_refl _) _).mono (by omega))
    · have _ := h2
      rcases bool_dec (value.toList.isEmpty) with h3 | h3
      · have _ := h3
        have HC := Lib.hid (show bareB ⟨cl, sq, 2, row, col, to, at_, value, expect, has⟩ = false by simp [bareB, partOf, *])
        go_wp2
        go_ret
        refine ⟨by rw [HC.out]; rfl, ?_⟩
        first
          | with_reducible exact hb1.trans ((HB2.out.alloc HB2.out.size _).mono (by omega))
          | exact hb1.trans (((((HB2.out.setCell (p := ⟨w1.heap.size, 0, none⟩) (Nat.le_refl _) _).setCell (p := ⟨w1.heap.size, 1, none⟩) (Nat.le_refl _) _).setCell (p := ⟨w1.heap.size, 2, none⟩) (Nat.le_refl _) _).setCell (p := ⟨w1.heap.size, 3, none⟩) (Nat.le_refl _) _).mono (by omega))
      · have _ := h3
        rcases bool_dec (has) with h4 | h4
        · have _ := h4
          rcases bool_dec (expect.toList.isEmpty) with h5 | h5
          · have _ := h5
            have HC := Lib.hid (show bareB ⟨cl, sq, 2, row, col, to, at_, value, expect, has⟩ = false by simp [bareB, partOf, *])
            go_wp2
            go_ret
            refine ⟨by rw [HC.out]; rfl, ?_⟩
            first
              | with_reducible exact hb1.trans ((HB2.out.alloc HB2.out.size _).mono (by omega))
              | exact hb1.trans (((((HB2.out.setCell (p := ⟨w1.heap.size, 0, none⟩) (Nat.le_refl _) _).setCell (p := ⟨w1.heap.size, 1, none⟩) (Nat.le_refl _) _).setCell (p := ⟨w1.heap.size, 2, none⟩) (Nat.le_refl _) _).setCell (p := ⟨w1.heap.size, 3, none⟩) (Nat.le_refl _) _).mono (by omega))
          · have _ := h5
            have HC := Lib.hid (show bareB ⟨cl, sq, 2, row, col, to, at_, value, expect, has⟩ = true by simp [bareB, partOf, *])
            go_wp2
            go_ret
            refine ⟨by rw [HC.out]; rfl, ?_⟩
            first
              | with_reducible exact hb1.trans ((HB2.out.alloc HB2.out.size _).mono (by omega))
              | exact hb1.trans (((((HB2.out.setCell (p := ⟨w1.heap.size, 0, none⟩) (Nat.le_refl _) _).setCell (p := ⟨w1.heap.size, 1, none⟩) (Nat.le_refl _) _).setCell (p := ⟨w1.heap.size, 2, none⟩) (Nat.le_refl _) _).setCell (p := ⟨w1.heap.size, 3, none⟩) (Nat.le_refl _) _).mono (by omega))
        · have _ := h4
          have HC := Lib.hid (show bareB ⟨cl, sq, 2, row, col, to, at_, value, expect, has⟩ = false by simp [bareB, partOf, *])
          go_wp2
          go_ret
          refine ⟨by rw [HC.out]; rfl, ?_⟩
          first
            | with_reducible exact hb1.trans ((HB2.out.alloc HB2.out.size _).mono (by omega))
            | exact hb1.trans (((((HB2.out.setCell (p := ⟨w1.heap.size, 0, none⟩) (Nat.le_refl _) _).setCell (p := ⟨w1.heap.size, 1, none⟩) (Nat.le_refl _) _).setCell (p := ⟨w1.heap.size, 2, none⟩) (Nat.le_refl _) _).setCell (p := ⟨w1.heap.size, 3, none⟩) (Nat.le_refl _) _).mono (by omega))
theorem bare3_any (cl sq : Int) (row col to : ByteArray) (at_ : Int) (value expect : ByteArray) (has : Bool) (W : World) : Calls Tryz.prog 53 #[cmv ⟨cl, sq, 3, row, col, to, at_, value, expect, has⟩] W fun e W' => e = .returned (.bool (bareB ⟨cl, sq, 3, row, col, to, at_, value, expect, has⟩)) ∧ Below W.heap.size W W' := by
  have HK := Lib.hid kinds_any
  have hix : ∀ w : World, (Instr.index 168 (.agg kindsV) (.int .i64 3)).run Tryz.prog w = .ok (.agg #[.bool true, .bool false, .bool true, .bool true]) w := fun w => by kernel_rfl
  unfold cmv cmcells
  simp only []
  go_enter Tryz.func53, Tryz.ntmps53
  go_wp2_with fail
  generalize hw1 : World.alloc W _ = w1
  have hX1 := named_new hw1.symm
  have hb1 := named_below hw1.symm
  have hlt1 : W.heap.size < w1.heap.size := by rw [named_size hw1.symm]; omega
  clear hw1
  obtain ⟨X, hX⟩ : ∃ X, w1.heap[W.heap.size]? = some X := ⟨_, hX1⟩
  have HQ := Lib.hid (show ∀ (o : Nat) (v : Value), w1.cell? ⟨W.heap.size, o, none⟩ = some v → ∀ w : World, w.heap[W.heap.size]? = some X → w.cell? ⟨W.heap.size, o, none⟩ = some v from fun o v hc w hw => (World.cell?_of_block (hw.trans hX.symm)).trans hc)
  have c2 := HQ.out 2 _ (cob hX1 2 rfl)
  have c4 := HQ.out 4 _ (cob hX1 4 rfl)
  have c5 := HQ.out 5 _ (cob hX1 5 rfl)
  have c7 := HQ.out 7 _ (cob hX1 7 rfl)
  have c8 := HQ.out 8 _ (cob hX1 8 rfl)
  have c9 := HQ.out 9 _ (cob hX1 9 rfl)
  clear hX1
  have HS := Lib.hid (show ∀ w, Below w1.heap.size w1 w → w.heap[W.heap.size]? = some X from fun w hb => (hb.block W.heap.size (by omega)).trans hX)
  have hS0 := HS.out w1.drew (Below.refl _ _).drew
  have hS3 := fun o => HS.out (w1.alloc o).drew ((Below.refl _ _).alloc (Nat.le_refl _) o).drew
  have hne : W.heap.size ≠ w1.heap.size := by omega
  go_region_held3 (fun w' => w'.heap[W.heap.size]? = some X)
    (first | with_reducible exact hX | with_reducible exact hS0 | with_reducible exact hX2 | with_reducible exact hS1 | with_reducible exact hS2 _ | with_reducible exact hS3 _ | exact (heap_setCell_other _ _ _ _ hne).trans ((heap_setCell_other _ _ _ _ hne).trans ((heap_setCell_other _ _ _ _ hne).trans ((heap_setCell_other _ _ _ _ hne).trans hX2))))
    (first | (go_at_call 88; refine (HK.out _).mono ?_; rintro e w2 ⟨rfl, hb2⟩; (first
      | (have HB2 := Lib.hid (show Below w1.heap.size w1 w2 from below_undrew hb2); have hX2 := HS.out w2 HB2.out; have hS2 := (fun o => HS.out (w2.alloc o) (HB2.out.alloc HB2.out.size o)))
      | (have HB2 := Lib.hid (show Below w1.heap.size w1 w2 from ((Below.refl w1.heap.size w1).alloc (Nat.le_refl _) _).trans ((below_undrew hb2).mono (by simp))); have hX2 := HS.out w2 HB2.out; have hS2 := (fun o => HS.out (w2.alloc o) (HB2.out.alloc HB2.out.size o)); have hbx := (hb2.block w1.heap.size (by rw [drew_size]; simp)).trans (heap_alloc_new w1 _); have hbf : ∀ j, w2.frozen? ⟨w1.heap.size, j, none⟩ = false := (fun j => by simp [World.frozen?, hbx]); have hb20 := cob hbx 0 rfl; have hb21 := cob hbx 1 rfl; have hb22 := cob hbx 2 rfl; have hb23 := cob hbx 3 rfl; clear hbx))))
  all_goals
    clear hS0 hS2 hS3 hX2 hX c2
    rcases bool_dec (to.toList.isEmpty) with h2 | h2
    · have _ := h2
      have HC := Lib.hid (show bareB ⟨cl, sq, 3, row, col, to, at_, value, expect, has⟩ = false by simp [bareB, partOf, *])
      go_wp2
      go_ret
      refine ⟨by rw [HC.out]; rfl, ?_⟩
      first
        | with_reducible exact hb1.trans ((HB2.out.alloc HB2.out.size _).mono (by omega))
        | exact hb1.trans (((((HB2.out.setCell (p := ⟨w1.heap.size, 0, none⟩) (Nat.le_refl _) _).setCell (p := ⟨w1.heap.size, 1, none⟩) (Nat.le_refl _) _).setCell (p := ⟨w1.heap.size, 2, none⟩) (Nat.le_refl _) _).setCell (p := ⟨w1.heap.size, 3, none⟩) (Nat.le_refl _) _).mono (by omega))
    · have _ := h2
      rcases bool_dec (has) with h4 | h4
      · have _ := h4
        rcases bool_dec (expect.toList.isEmpty) with h5 | h5
        · have _ := h5
          have HC := Lib.hid (show bareB ⟨cl, sq, 3, row, col, to, at_, value, expect, has⟩ = false by simp [bareB, partOf, *])
          go_wp2
          go_ret
          refine ⟨by rw [HC.out]; rfl, ?_⟩
          first
            | with_reducible exact hb1.trans ((HB2.out.alloc HB2.out.size _).mono (by omega))
            | exact hb1.trans (((((HB2.out.setCell (p := ⟨w1.heap.size, 0, none⟩) (Nat.le_refl _) _).setCell (p := ⟨w1.heap.size, 1, none⟩) (Nat.le_refl _) _).setCell (p := ⟨w1.heap.size, 2, none⟩) (Nat.le_refl _) _).setCell (p := ⟨w1.heap.size, 3, none⟩) (Nat.le_refl _) _).mono (by omega))
        · have _ := h5
          have HC := Lib.hid (show bareB ⟨cl, sq, 3, row, col, to, at_, value, expect, has⟩ = true by simp [bareB, partOf, *])
          go_wp2
          go_ret
          refine ⟨by rw [HC.out]; rfl, ?_⟩
          first
            | with_reducible exact hb1.trans ((HB2.out.alloc HB2.out.size _).mono (by omega))
            | exact hb1.trans (((((HB2.out.setCell (p := ⟨w1.heap.size, 0, none⟩) (Nat.le_refl _) _).setCell (p := ⟨w1.heap.size, 1, none⟩) (Nat.le_refl _) _).setCell (p := ⟨w1.heap.size, 2, none⟩) (Nat.le_refl _) _).setCell (p := ⟨w1.heap.size, 3, none⟩) (Nat.le_refl _) _).mono (by omega))
      · have _ := h4
        have HC := Lib.hid (show bareB ⟨cl, sq, 3, row, col, to, at_, value, expect, has⟩ = true by simp [bareB, partOf, *])
        go_wp2
        go_ret
        refine ⟨by rw [HC.out]; rfl, ?_⟩
        first
          | with_reducible exact hb1.trans ((HB2.out.alloc HB2.out.size _).mono (by omega))
          | exact hb1.trans (((((HB2.out.setCell (p := ⟨w1.heap.size, 0, none⟩) (Nat.le_refl _) _).setCell (p := ⟨w1.heap.size, 1, none⟩) (Nat.le_refl _) _).setCell (p := ⟨w1.heap.size, 2, none⟩) (Nat.le_refl _) _).setCell (p := ⟨w1.heap.size, 3, none⟩) (Nat.le_refl _) _).mono (by omega))
theorem bare4_any (cl sq : Int) (row col to : ByteArray) (at_ : Int) (value expect : ByteArray) (has : Bool) (W : World) : Calls Tryz.prog 53 #[cmv ⟨cl, sq, 4, row, col, to, at_, value, expect, has⟩] W fun e W' => e = .returned (.bool (bareB ⟨cl, sq, 4, row, col, to, at_, value, expect, has⟩)) ∧ Below W.heap.size W W' := by
  have HK := Lib.hid kinds_any
  have hix : ∀ w : World, (Instr.index 168 (.agg kindsV) (.int .i64 4)).run Tryz.prog w = .ok (.agg #[.bool true, .bool false, .bool false, .bool false]) w := fun w => by kernel_rfl
  unfold cmv cmcells
  simp only []
  go_enter Tryz.func53, Tryz.ntmps53
  go_wp2_with fail
  generalize hw1 : World.alloc W _ = w1
  have hX1 := named_new hw1.symm
  have hb1 := named_below hw1.symm
  have hlt1 : W.heap.size < w1.heap.size := by rw [named_size hw1.symm]; omega
  clear hw1
  obtain ⟨X, hX⟩ : ∃ X, w1.heap[W.heap.size]? = some X := ⟨_, hX1⟩
  have HQ := Lib.hid (show ∀ (o : Nat) (v : Value), w1.cell? ⟨W.heap.size, o, none⟩ = some v → ∀ w : World, w.heap[W.heap.size]? = some X → w.cell? ⟨W.heap.size, o, none⟩ = some v from fun o v hc w hw => (World.cell?_of_block (hw.trans hX.symm)).trans hc)
  have c2 := HQ.out 2 _ (cob hX1 2 rfl)
  have c4 := HQ.out 4 _ (cob hX1 4 rfl)
  have c5 := HQ.out 5 _ (cob hX1 5 rfl)
  have c7 := HQ.out 7 _ (cob hX1 7 rfl)
  have c8 := HQ.out 8 _ (cob hX1 8 rfl)
  have c9 := HQ.out 9 _ (cob hX1 9 rfl)
  clear hX1
  have HS := Lib.hid (show ∀ w, Below w1.heap.size w1 w → w.heap[W.heap.size]? = some X from fun w hb => (hb.block W.heap.size (by omega)).trans hX)
  have hS0 := HS.out w1.drew (Below.refl _ _).drew
  have hS3 := fun o => HS.out (w1.alloc o).drew ((Below.refl _ _).alloc (Nat.le_refl _) o).drew
  have hne : W.heap.size ≠ w1.heap.size := by omega
  go_region_held3 (fun w' => w'.heap[W.heap.size]? = some X)
    (first | with_reducible exact hX | with_reducible exact hS0 | with_reducible exact hX2 | with_reducible exact hS1 | with_reducible exact hS2 _ | with_reducible exact hS3 _ | exact (heap_setCell_other _ _ _ _ hne).trans ((heap_setCell_other _ _ _ _ hne).trans ((heap_setCell_other _ _ _ _ hne).trans ((heap_setCell_other _ _ _ _ hne).trans hX2))))
    (first | (go_at_call 88; refine (HK.out _).mono ?_; rintro e w2 ⟨rfl, hb2⟩; (first
      | (have HB2 := Lib.hid (show Below w1.heap.size w1 w2 from below_undrew hb2); have hX2 := HS.out w2 HB2.out; have hS2 := (fun o => HS.out (w2.alloc o) (HB2.out.alloc HB2.out.size o)))
      | (have HB2 := Lib.hid (show Below w1.heap.size w1 w2 from ((Below.refl w1.heap.size w1).alloc (Nat.le_refl _) _).trans ((below_undrew hb2).mono (by simp))); have hX2 := HS.out w2 HB2.out; have hS2 := (fun o => HS.out (w2.alloc o) (HB2.out.alloc HB2.out.size o)); have hbx := (hb2.block w1.heap.size (by rw [drew_size]; simp)).trans (heap_alloc_new w1 _); have hbf : ∀ j, w2.frozen? ⟨w1.heap.size, j, none⟩ = false := (fun j => by simp [World.frozen?, hbx]); have hb20 := cob hbx 0 rfl; have hb21 := cob hbx 1 rfl; have hb22 := cob hbx 2 rfl; have hb23 := cob hbx 3 rfl; clear hbx))))
  all_goals
    clear hS0 hS2 hS3 hX2 hX c2
    rcases bool_dec (to.toList.isEmpty) with h2 | h2
    · have _ := h2
      have HC := Lib.hid (show bareB ⟨cl, sq, 4, row, col, to, at_, value, expect, has⟩ = false by simp [bareB, partOf, *])
      go_wp2
      go_ret
      refine ⟨by rw [HC.out]; rfl, ?_⟩
      first
        | with_reducible exact hb1.trans ((HB2.out.alloc HB2.out.size _).mono (by omega))
        | exact hb1.trans (((((HB2.out.setCell (p := ⟨w1.heap.size, 0, none⟩) (Nat.le_refl _) _).setCell (p := ⟨w1.heap.size, 1, none⟩) (Nat.le_refl _) _).setCell (p := ⟨w1.heap.size, 2, none⟩) (Nat.le_refl _) _).setCell (p := ⟨w1.heap.size, 3, none⟩) (Nat.le_refl _) _).mono (by omega))
    · have _ := h2
      rcases bool_dec (value.toList.isEmpty) with h3 | h3
      · have _ := h3
        have HC := Lib.hid (show bareB ⟨cl, sq, 4, row, col, to, at_, value, expect, has⟩ = false by simp [bareB, partOf, *])
        go_wp2
        go_ret
        refine ⟨by rw [HC.out]; rfl, ?_⟩
        first
          | with_reducible exact hb1.trans ((HB2.out.alloc HB2.out.size _).mono (by omega))
          | exact hb1.trans (((((HB2.out.setCell (p := ⟨w1.heap.size, 0, none⟩) (Nat.le_refl _) _).setCell (p := ⟨w1.heap.size, 1, none⟩) (Nat.le_refl _) _).setCell (p := ⟨w1.heap.size, 2, none⟩) (Nat.le_refl _) _).setCell (p := ⟨w1.heap.size, 3, none⟩) (Nat.le_refl _) _).mono (by omega))
      · have _ := h3
        rcases bool_dec (has) with h4 | h4
        · have _ := h4
          rcases bool_dec (expect.toList.isEmpty) with h5 | h5
          · have _ := h5
            have HC := Lib.hid (show bareB ⟨cl, sq, 4, row, col, to, at_, value, expect, has⟩ = false by simp [bareB, partOf, *])
            go_wp2
            go_ret
            refine ⟨by rw [HC.out]; rfl, ?_⟩
            first
              | with_reducible exact hb1.trans ((HB2.out.alloc HB2.out.size _).mono (by omega))
              | exact hb1.trans (((((HB2.out.setCell (p := ⟨w1.heap.size, 0, none⟩) (Nat.le_refl _) _).setCell (p := ⟨w1.heap.size, 1, none⟩) (Nat.le_refl _) _).setCell (p := ⟨w1.heap.size, 2, none⟩) (Nat.le_refl _) _).setCell (p := ⟨w1.heap.size, 3, none⟩) (Nat.le_refl _) _).mono (by omega))
          · have _ := h5
            have HC := Lib.hid (show bareB ⟨cl, sq, 4, row, col, to, at_, value, expect, has⟩ = true by simp [bareB, partOf, *])
            go_wp2
            go_ret
            refine ⟨by rw [HC.out]; rfl, ?_⟩
            first
              | with_reducible exact hb1.trans ((HB2.out.alloc HB2.out.size _).mono (by omega))
              | exact hb1.trans (((((HB2.out.setCell (p := ⟨w1.heap.size, 0, none⟩) (Nat.le_refl _) _).setCell (p := ⟨w1.heap.size, 1, none⟩) (Nat.le_refl _) _).setCell (p := ⟨w1.heap.size, 2, none⟩) (Nat.le_refl _) _).setCell (p := ⟨w1.heap.size, 3, none⟩) (Nat.le_refl _) _).mono (by omega))
        · have _ := h4
          have HC := Lib.hid (show bareB ⟨cl, sq, 4, row, col, to, at_, value, expect, has⟩ = false by simp [bareB, partOf, *])
          go_wp2
          go_ret
          refine ⟨by rw [HC.out]; rfl, ?_⟩
          first
            | with_reducible exact hb1.trans ((HB2.out.alloc HB2.out.size _).mono (by omega))
            | exact hb1.trans (((((HB2.out.setCell (p := ⟨w1.heap.size, 0, none⟩) (Nat.le_refl _) _).setCell (p := ⟨w1.heap.size, 1, none⟩) (Nat.le_refl _) _).setCell (p := ⟨w1.heap.size, 2, none⟩) (Nat.le_refl _) _).setCell (p := ⟨w1.heap.size, 3, none⟩) (Nat.le_refl _) _).mono (by omega))
theorem bare5_any (cl sq : Int) (row col to : ByteArray) (at_ : Int) (value expect : ByteArray) (has : Bool) (W : World) : Calls Tryz.prog 53 #[cmv ⟨cl, sq, 5, row, col, to, at_, value, expect, has⟩] W fun e W' => e = .returned (.bool (bareB ⟨cl, sq, 5, row, col, to, at_, value, expect, has⟩)) ∧ Below W.heap.size W W' := by
  have HK := Lib.hid kinds_any
  have hix : ∀ w : World, (Instr.index 168 (.agg kindsV) (.int .i64 5)).run Tryz.prog w = .ok (.agg #[.bool false, .bool true, .bool false, .bool false]) w := fun w => by kernel_rfl
  unfold cmv cmcells
  simp only []
  go_enter Tryz.func53, Tryz.ntmps53
  go_wp2_with fail
  generalize hw1 : World.alloc W _ = w1
  have hX1 := named_new hw1.symm
  have hb1 := named_below hw1.symm
  have hlt1 : W.heap.size < w1.heap.size := by rw [named_size hw1.symm]; omega
  clear hw1
  obtain ⟨X, hX⟩ : ∃ X, w1.heap[W.heap.size]? = some X := ⟨_, hX1⟩
  have HQ := Lib.hid (show ∀ (o : Nat) (v : Value), w1.cell? ⟨W.heap.size, o, none⟩ = some v → ∀ w : World, w.heap[W.heap.size]? = some X → w.cell? ⟨W.heap.size, o, none⟩ = some v from fun o v hc w hw => (World.cell?_of_block (hw.trans hX.symm)).trans hc)
  have c2 := HQ.out 2 _ (cob hX1 2 rfl)
  have c4 := HQ.out 4 _ (cob hX1 4 rfl)
  have c5 := HQ.out 5 _ (cob hX1 5 rfl)
  have c7 := HQ.out 7 _ (cob hX1 7 rfl)
  have c8 := HQ.out 8 _ (cob hX1 8 rfl)
  have c9 := HQ.out 9 _ (cob hX1 9 rfl)
  clear hX1
  have HS := Lib.hid (show ∀ w, Below w1.heap.size w1 w → w.heap[W.heap.size]? = some X from fun w hb => (hb.block W.heap.size (by omega)).trans hX)
  have hS0 := HS.out w1.drew (Below.refl _ _).drew
  have hS3 := fun o => HS.out (w1.alloc o).drew ((Below.refl _ _).alloc (Nat.le_refl _) o).drew
  have hne : W.heap.size ≠ w1.heap.size := by omega
  go_region_held3 (fun w' => w'.heap[W.heap.size]? = some X)
    (first | with_reducible exact hX | with_reducible exact hS0 | with_reducible exact hX2 | with_reducible exact hS1 | with_reducible exact hS2 _ | with_reducible exact hS3 _ | exact (heap_setCell_other _ _ _ _ hne).trans ((heap_setCell_other _ _ _ _ hne).trans ((heap_setCell_other _ _ _ _ hne).trans ((heap_setCell_other _ _ _ _ hne).trans hX2))))
    (first | (go_at_call 88; refine (HK.out _).mono ?_; rintro e w2 ⟨rfl, hb2⟩; (first
      | (have HB2 := Lib.hid (show Below w1.heap.size w1 w2 from below_undrew hb2); have hX2 := HS.out w2 HB2.out; have hS2 := (fun o => HS.out (w2.alloc o) (HB2.out.alloc HB2.out.size o)))
      | (have HB2 := Lib.hid (show Below w1.heap.size w1 w2 from ((Below.refl w1.heap.size w1).alloc (Nat.le_refl _) _).trans ((below_undrew hb2).mono (by simp))); have hX2 := HS.out w2 HB2.out; have hS2 := (fun o => HS.out (w2.alloc o) (HB2.out.alloc HB2.out.size o)); have hbx := (hb2.block w1.heap.size (by rw [drew_size]; simp)).trans (heap_alloc_new w1 _); have hbf : ∀ j, w2.frozen? ⟨w1.heap.size, j, none⟩ = false := (fun j => by simp [World.frozen?, hbx]); have hb20 := cob hbx 0 rfl; have hb21 := cob hbx 1 rfl; have hb22 := cob hbx 2 rfl; have hb23 := cob hbx 3 rfl; clear hbx))))
  all_goals
    clear hS0 hS2 hS3 hX2 hX c2
    rcases bool_dec (col.toList.isEmpty) with h1 | h1
    · have _ := h1
      have HC := Lib.hid (show bareB ⟨cl, sq, 5, row, col, to, at_, value, expect, has⟩ = false by simp [bareB, partOf, *])
      go_wp2
      go_ret
      refine ⟨by rw [HC.out]; rfl, ?_⟩
      first
        | with_reducible exact hb1.trans ((HB2.out.alloc HB2.out.size _).mono (by omega))
        | exact hb1.trans (((((HB2.out.setCell (p := ⟨w1.heap.size, 0, none⟩) (Nat.le_refl _) _).setCell (p := ⟨w1.heap.size, 1, none⟩) (Nat.le_refl _) _).setCell (p := ⟨w1.heap.size, 2, none⟩) (Nat.le_refl _) _).setCell (p := ⟨w1.heap.size, 3, none⟩) (Nat.le_refl _) _).mono (by omega))
    · have _ := h1
      rcases bool_dec (value.toList.isEmpty) with h3 | h3
      · have _ := h3
        have HC := Lib.hid (show bareB ⟨cl, sq, 5, row, col, to, at_, value, expect, has⟩ = false by simp [bareB, partOf, *])
        go_wp2
        go_ret
        refine ⟨by rw [HC.out]; rfl, ?_⟩
        first
          | with_reducible exact hb1.trans ((HB2.out.alloc HB2.out.size _).mono (by omega))
          | exact hb1.trans (((((HB2.out.setCell (p := ⟨w1.heap.size, 0, none⟩) (Nat.le_refl _) _).setCell (p := ⟨w1.heap.size, 1, none⟩) (Nat.le_refl _) _).setCell (p := ⟨w1.heap.size, 2, none⟩) (Nat.le_refl _) _).setCell (p := ⟨w1.heap.size, 3, none⟩) (Nat.le_refl _) _).mono (by omega))
      · have _ := h3
        rcases bool_dec (has) with h4 | h4
        · have _ := h4
          rcases bool_dec (expect.toList.isEmpty) with h5 | h5
          · have _ := h5
            have HC := Lib.hid (show bareB ⟨cl, sq, 5, row, col, to, at_, value, expect, has⟩ = false by simp [bareB, partOf, *])
            go_wp2
            go_ret
            refine ⟨by rw [HC.out]; rfl, ?_⟩
            first
              | with_reducible exact hb1.trans ((HB2.out.alloc HB2.out.size _).mono (by omega))
              | exact hb1.trans (((((HB2.out.setCell (p := ⟨w1.heap.size, 0, none⟩) (Nat.le_refl _) _).setCell (p := ⟨w1.heap.size, 1, none⟩) (Nat.le_refl _) _).setCell (p := ⟨w1.heap.size, 2, none⟩) (Nat.le_refl _) _).setCell (p := ⟨w1.heap.size, 3, none⟩) (Nat.le_refl _) _).mono (by omega))
          · have _ := h5
            have HC := Lib.hid (show bareB ⟨cl, sq, 5, row, col, to, at_, value, expect, has⟩ = true by simp [bareB, partOf, *])
            go_wp2
            go_ret
            refine ⟨by rw [HC.out]; rfl, ?_⟩
            first
              | with_reducible exact hb1.trans ((HB2.out.alloc HB2.out.size _).mono (by omega))
              | exact hb1.trans (((((HB2.out.setCell (p := ⟨w1.heap.size, 0, none⟩) (Nat.le_refl _) _).setCell (p := ⟨w1.heap.size, 1, none⟩) (Nat.le_refl _) _).setCell (p := ⟨w1.heap.size, 2, none⟩) (Nat.le_refl _) _).setCell (p := ⟨w1.heap.size, 3, none⟩) (Nat.le_refl _) _).mono (by omega))
        · have _ := h4
          have HC := Lib.hid (show bareB ⟨cl, sq, 5, row, col, to, at_, value, expect, has⟩ = false by simp [bareB, partOf, *])
          go_wp2
          go_ret
          refine ⟨by rw [HC.out]; rfl, ?_⟩
          first
            | with_reducible exact hb1.trans ((HB2.out.alloc HB2.out.size _).mono (by omega))
            | exact hb1.trans (((((HB2.out.setCell (p := ⟨w1.heap.size, 0, none⟩) (Nat.le_refl _) _).setCell (p := ⟨w1.heap.size, 1, none⟩) (Nat.le_refl _) _).setCell (p := ⟨w1.heap.size, 2, none⟩) (Nat.le_refl _) _).setCell (p := ⟨w1.heap.size, 3, none⟩) (Nat.le_refl _) _).mono (by omega))
end Go.Proofs.YtoigogjmhkpdlaaGreat
