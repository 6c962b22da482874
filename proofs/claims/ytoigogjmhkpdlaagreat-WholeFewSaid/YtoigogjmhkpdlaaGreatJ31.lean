/- A part of the proof of WholeFew: the texts StateC. -/
import Derived.Test.YtoigogjmhkpdlaaGreatJ30
import Derived.BigQuiet
set_option maxHeartbeats 3200000
set_option maxRecDepth 100000
namespace Go.Proofs.YtoigogjmhkpdlaaGreat
open Go.RowKit
theorem k5b {g : Nat} {w w' : World} {a b c d : Value} (hb : w'.heap[g]? = w.heap[g]?)
    (h : w.cell? ⟨g, 3, none⟩ = some a ∧ w.cell? ⟨g, 4, none⟩ = some b ∧ w.cell? ⟨g, 6, none⟩ = some c ∧ w.cell? ⟨g, 7, none⟩ = some d) :
    w'.cell? ⟨g, 3, none⟩ = some a ∧ w'.cell? ⟨g, 4, none⟩ = some b ∧ w'.cell? ⟨g, 6, none⟩ = some c ∧ w'.cell? ⟨g, 7, none⟩ = some d :=
  ⟨(World.cell?_of_block hb).trans h.1, (World.cell?_of_block hb).trans h.2.1, (World.cell?_of_block hb).trans h.2.2.1, (World.cell?_of_block hb).trans h.2.2.2⟩
theorem set4_other (w : World) (g : Nat) (a b c d : Value) (k : Nat) (hk : k ≠ g) : ((((w.setCell ⟨g, 0, none⟩ a).setCell ⟨g, 1, none⟩ b).setCell ⟨g, 2, none⟩ c).setCell ⟨g, 3, none⟩ d).heap[k]? = w.heap[k]? :=
  (heap_setCell_other _ ⟨g, 3, none⟩ _ _ hk).trans ((heap_setCell_other _ ⟨g, 2, none⟩ _ _ hk).trans ((heap_setCell_other _ ⟨g, 1, none⟩ _ _ hk).trans (heap_setCell_other _ ⟨g, 0, none⟩ _ _ hk)))
theorem set4_same {w : World} {g : Nat} {x0 x1 x2 x3 : Value} {t : TypeId} (h : w.heap[g]? = some (.cells #[x0, x1, x2, x3] t)) (a b c d : Value) : ((((w.setCell ⟨g, 0, none⟩ a).setCell ⟨g, 1, none⟩ b).setCell ⟨g, 2, none⟩ c).setCell ⟨g, 3, none⟩ d).heap[g]? = some (.cells #[a, b, c, d] t) :=
  heap_setCell_same _ g 3 _ _ d (heap_setCell_same _ g 2 _ _ c (heap_setCell_same _ g 1 _ _ b (heap_setCell_same w g 0 _ _ a h)))
theorem Turned.set4 {S : Nat → Prop} {W w : World} (h : Turned S W w) {g : Nat} (hg : W.heap.size ≤ g) (a b c d : Value) : Turned S W ((((w.setCell ⟨g, 0, none⟩ a).setCell ⟨g, 1, none⟩ b).setCell ⟨g, 2, none⟩ c).setCell ⟨g, 3, none⟩ d) :=
  (((h.setCell (p := ⟨g, 0, none⟩) (.inr hg) _).setCell (p := ⟨g, 1, none⟩) (.inr hg) _).setCell (p := ⟨g, 2, none⟩) (.inr hg) _).setCell (p := ⟨g, 3, none⟩) (.inr hg) _
theorem set4_size (w : World) (g : Nat) (a b c d : Value) : ((((w.setCell ⟨g, 0, none⟩ a).setCell ⟨g, 1, none⟩ b).setCell ⟨g, 2, none⟩ c).setCell ⟨g, 3, none⟩ d).heap.size = w.heap.size := by simp
theorem stput_of (c : Cm) (R' : World → (Nat → Prop) → Nat → Prop) (hR' : Framed R') (S : Nat → Prop) (P T : Nat) (v1 : Value) (W : World) (hP : W.heap[P]? = some (.cells #[.pointer (some ⟨T, 0, none⟩), v1] 213)) (hS : Lt S W) (hPS : ¬ S P)
    (HP : ∀ w, Below W.heap.size W w → Calls Tryz.prog 209 #[.pointer (some ⟨T, 0, none⟩), clv ⟨c.row, c.col, c.at_, c.value, false⟩] w fun e W' => e = .returned (.int .i64 0) ∧ R' W' (fun k => S k ∨ (w.heap.size ≤ k ∧ k < W'.heap.size)) T ∧ Turned S w W') :
    Calls Tryz.prog 171 #[.pointer (some ⟨P, 0, none⟩), cmv c] W fun e W' => (∃ r : Rp, e = .returned (rpv r) ∧ r.e = 0) ∧ R' W' (fun k => S k ∨ (W.heap.size ≤ k ∧ k < W'.heap.size)) T ∧ Turned S W W' := by
  have HPx := Lib.hid HP
  have hPl := (Array.getElem?_eq_some_iff.1 hP).1
  have HPb := Lib.hid (fun (w : World) (hb : Below W.heap.size W w) => (hb.block P hPl).trans hP)
  clear HP hP
  obtain ⟨cl, sq, kind, row, col, tt, at_, value, expect, has⟩ := c
  unfold clv clcells at HPx
  unfold cmv cmcells
  simp only [] at HPx ⊢
  go_enter Tryz.func171, Tryz.ntmps171
  go_wp2_with fail
  generalize hw1 : World.alloc (World.alloc W _) _ = w1
  obtain ⟨hA, hB, hb1, hz1⟩ := two_new _ _ _ hw1.symm
  clear hw1
  have hP1 := HPb.out w1 hb1
  have HS1 : w1.cell? ⟨P, 0, none⟩ = some (.pointer (some ⟨T, 0, none⟩)) ∧ w1.cell? ⟨W.heap.size, 3, none⟩ = some (.string row) ∧ w1.cell? ⟨W.heap.size, 4, none⟩ = some (.string col) ∧ w1.cell? ⟨W.heap.size, 6, none⟩ = some (.int .i64 at_) ∧ w1.cell? ⟨W.heap.size, 7, none⟩ = some (.string value) := ⟨cob hP1 0 rfl, cob hA 3 rfl, cob hA 4 rfl, cob hA 6 rfl, cob hA 7 rfl⟩
  have HS1d : w1.drew.cell? ⟨P, 0, none⟩ = some (.pointer (some ⟨T, 0, none⟩)) ∧ w1.drew.cell? ⟨W.heap.size, 3, none⟩ = some (.string row) ∧ w1.drew.cell? ⟨W.heap.size, 4, none⟩ = some (.string col) ∧ w1.drew.cell? ⟨W.heap.size, 6, none⟩ = some (.int .i64 at_) ∧ w1.drew.cell? ⟨W.heap.size, 7, none⟩ = some (.string value) := HS1
  have HB := Lib.hid hB
  have hzP : P ≠ W.heap.size + 1 := by omega
  have HA2 := Lib.hid (fun (w2 : World) (hTu2 : Turned S w1.drew w2) => (⟨(World.cell?_of_block (hTu2.block P (by rw [drew_size]; omega) hPS)).trans HS1d.1, k5b (hTu2.block W.heap.size (by rw [drew_size]; omega) (fun h => by have := hS _ h; omega)) HS1d.2⟩ : w2.cell? ⟨P, 0, none⟩ = some (.pointer (some ⟨T, 0, none⟩)) ∧ w2.cell? ⟨W.heap.size, 3, none⟩ = some (.string row) ∧ w2.cell? ⟨W.heap.size, 4, none⟩ = some (.string col) ∧ w2.cell? ⟨W.heap.size, 6, none⟩ = some (.int .i64 at_) ∧ w2.cell? ⟨W.heap.size, 7, none⟩ = some (.string value)))
  have HA3 := Lib.hid (fun (w2 : World) (a b c d : Value) (h : w2.cell? ⟨P, 0, none⟩ = some (.pointer (some ⟨T, 0, none⟩)) ∧ w2.cell? ⟨W.heap.size, 3, none⟩ = some (.string row) ∧ w2.cell? ⟨W.heap.size, 4, none⟩ = some (.string col) ∧ w2.cell? ⟨W.heap.size, 6, none⟩ = some (.int .i64 at_) ∧ w2.cell? ⟨W.heap.size, 7, none⟩ = some (.string value)) => (⟨(World.cell?_of_block (set4_other w2 (W.heap.size + 1) a b c d P hzP)).trans h.1, k5b (set4_other w2 (W.heap.size + 1) a b c d W.heap.size (by omega)) h.2⟩ : ((((w2.setCell ⟨W.heap.size + 1, 0, none⟩ a).setCell ⟨W.heap.size + 1, 1, none⟩ b).setCell ⟨W.heap.size + 1, 2, none⟩ c).setCell ⟨W.heap.size + 1, 3, none⟩ d).cell? ⟨P, 0, none⟩ = some (.pointer (some ⟨T, 0, none⟩)) ∧ ((((w2.setCell ⟨W.heap.size + 1, 0, none⟩ a).setCell ⟨W.heap.size + 1, 1, none⟩ b).setCell ⟨W.heap.size + 1, 2, none⟩ c).setCell ⟨W.heap.size + 1, 3, none⟩ d).cell? ⟨W.heap.size, 3, none⟩ = some (.string row) ∧ ((((w2.setCell ⟨W.heap.size + 1, 0, none⟩ a).setCell ⟨W.heap.size + 1, 1, none⟩ b).setCell ⟨W.heap.size + 1, 2, none⟩ c).setCell ⟨W.heap.size + 1, 3, none⟩ d).cell? ⟨W.heap.size, 4, none⟩ = some (.string col) ∧ ((((w2.setCell ⟨W.heap.size + 1, 0, none⟩ a).setCell ⟨W.heap.size + 1, 1, none⟩ b).setCell ⟨W.heap.size + 1, 2, none⟩ c).setCell ⟨W.heap.size + 1, 3, none⟩ d).cell? ⟨W.heap.size, 6, none⟩ = some (.int .i64 at_) ∧ ((((w2.setCell ⟨W.heap.size + 1, 0, none⟩ a).setCell ⟨W.heap.size + 1, 1, none⟩ b).setCell ⟨W.heap.size + 1, 2, none⟩ c).setCell ⟨W.heap.size + 1, 3, none⟩ d).cell? ⟨W.heap.size, 7, none⟩ = some (.string value)))
  have HC := Lib.hid (HPx.out w1.drew hb1.drew)
  clear hB hP1 hA
  go_region_held3 (fun w' => w'.cell? ⟨P, 0, none⟩ = some (.pointer (some ⟨T, 0, none⟩)) ∧ w'.cell? ⟨W.heap.size, 3, none⟩ = some (.string row) ∧ w'.cell? ⟨W.heap.size, 4, none⟩ = some (.string col) ∧ w'.cell? ⟨W.heap.size, 6, none⟩ = some (.int .i64 at_) ∧ w'.cell? ⟨W.heap.size, 7, none⟩ = some (.string value))
    (first | with_reducible exact HS3 _ _ _ _ | with_reducible exact HS2 | with_reducible exact HS1 | with_reducible exact HS1d)
    (first | (go_at_call 209; (with_reducible refine HC.out.mono ?_); rintro e w2 ⟨rfl, hT2, hTu2⟩; have HS2 := HA2.out w2 hTu2; have HS3 := fun a b c d => HA3.out w2 a b c d HS2; have hB2 := (hTu2.block (W.heap.size + 1) (by rw [drew_size]; omega) (fun h => by have := hS _ h; omega)).trans HB.out; have r0 : w2.cell? ⟨W.heap.size + 1, 0, none⟩ = _ := cob hB2 0 rfl; have r1 : w2.cell? ⟨W.heap.size + 1, 1, none⟩ = _ := cob hB2 1 rfl; have r2 : w2.cell? ⟨W.heap.size + 1, 2, none⟩ = _ := cob hB2 2 rfl; have r3 : w2.cell? ⟨W.heap.size + 1, 3, none⟩ = _ := cob hB2 3 rfl; have hfr : ∀ j, w2.frozen? ⟨W.heap.size + 1, j, none⟩ = false := fun j => by simp [World.frozen?, hB2]))
  go_wp2
  have HB2 := Lib.hid hB2
  have hz2 := hTu2.size
  rw [drew_size] at hz2
  refine bodyPost_ret (results_c rfl _ _ (W.heap.size + 1) _ _ (0, 0) _ rfl (set4_same HB2.out _ _ _ _) Tryz.underlying43 rfl Tryz.sizeRp) rfl ⟨⟨⟨0, false, { data := #[] }⟩, rfl, rfl⟩, ?_, ?_⟩
  · have h2 := hR'.mono hT2 (S2 := fun k => S k ∨ (W.heap.size + 2 ≤ k ∧ k < w2.heap.size)) (fun k hk _ => by
      rcases hk with hk | hk
      · exact .inl hk
      · rw [drew_size] at hk; exact .inr (by omega))
    have h3 := hR'.frame h2 (fun k hk => set4_other w2 (W.heap.size + 1) (.int .i64 0) (.bool false) (.string { data := #[] }) (.slice none 0 0) k (by
      rcases hk with hk | hk
      · have := hS k hk; omega
      · omega))
    exact hR'.mono h3 (fun k hk hl => by
      rcases hk with hk | hk
      · exact .inl hk
      · exact .inr ⟨by omega, hl⟩)
  · exact ((Turned.of_below hb1).trans ((Turned.undrew hTu2).wide fun k hk _ => hk)).set4 (by omega) _ _ _ _
theorem stgone_of (c : Cm) (R' : World → (Nat → Prop) → Nat → Prop) (hR' : Framed R') (S : Nat → Prop) (P T : Nat) (v1 : Value) (W : World) (hP : W.heap[P]? = some (.cells #[.pointer (some ⟨T, 0, none⟩), v1] 213)) (hS : Lt S W) (hPS : ¬ S P)
    (HP : ∀ w, Below W.heap.size W w → Calls Tryz.prog 209 #[.pointer (some ⟨T, 0, none⟩), clv ⟨c.row, c.col, c.at_, { data := #[] }, true⟩] w fun e W' => e = .returned (.int .i64 0) ∧ R' W' (fun k => S k ∨ (w.heap.size ≤ k ∧ k < W'.heap.size)) T ∧ Turned S w W') :
    Calls Tryz.prog 172 #[.pointer (some ⟨P, 0, none⟩), cmv c] W fun e W' => (∃ r : Rp, e = .returned (rpv r) ∧ r.e = 0) ∧ R' W' (fun k => S k ∨ (W.heap.size ≤ k ∧ k < W'.heap.size)) T ∧ Turned S W W' := by
  have HPx := Lib.hid HP
  have hPl := (Array.getElem?_eq_some_iff.1 hP).1
  have HPb := Lib.hid (fun (w : World) (hb : Below W.heap.size W w) => (hb.block P hPl).trans hP)
  clear HP hP
  obtain ⟨cl, sq, kind, row, col, tt, at_, value, expect, has⟩ := c
  unfold clv clcells at HPx
  unfold cmv cmcells
  simp only [] at HPx ⊢
  go_enter Tryz.func172, Tryz.ntmps172
  go_wp2_with fail
  generalize hw1 : World.alloc (World.alloc W _) _ = w1
  obtain ⟨hA, hB, hb1, hz1⟩ := two_new _ _ _ hw1.symm
  clear hw1
  have hP1 := HPb.out w1 hb1
  have HS1 : w1.cell? ⟨P, 0, none⟩ = some (.pointer (some ⟨T, 0, none⟩)) ∧ w1.cell? ⟨W.heap.size, 3, none⟩ = some (.string row) ∧ w1.cell? ⟨W.heap.size, 4, none⟩ = some (.string col) ∧ w1.cell? ⟨W.heap.size, 6, none⟩ = some (.int .i64 at_) ∧ w1.cell? ⟨W.heap.size, 7, none⟩ = some (.string value) := ⟨cob hP1 0 rfl, cob hA 3 rfl, cob hA 4 rfl, cob hA 6 rfl, cob hA 7 rfl⟩
  have HS1d : w1.drew.cell? ⟨P, 0, none⟩ = some (.pointer (some ⟨T, 0, none⟩)) ∧ w1.drew.cell? ⟨W.heap.size, 3, none⟩ = some (.string row) ∧ w1.drew.cell? ⟨W.heap.size, 4, none⟩ = some (.string col) ∧ w1.drew.cell? ⟨W.heap.size, 6, none⟩ = some (.int .i64 at_) ∧ w1.drew.cell? ⟨W.heap.size, 7, none⟩ = some (.string value) := HS1
  have HB := Lib.hid hB
  have hzP : P ≠ W.heap.size + 1 := by omega
  have HA2 := Lib.hid (fun (w2 : World) (hTu2 : Turned S w1.drew w2) => (⟨(World.cell?_of_block (hTu2.block P (by rw [drew_size]; omega) hPS)).trans HS1d.1, k5b (hTu2.block W.heap.size (by rw [drew_size]; omega) (fun h => by have := hS _ h; omega)) HS1d.2⟩ : w2.cell? ⟨P, 0, none⟩ = some (.pointer (some ⟨T, 0, none⟩)) ∧ w2.cell? ⟨W.heap.size, 3, none⟩ = some (.string row) ∧ w2.cell? ⟨W.heap.size, 4, none⟩ = some (.string col) ∧ w2.cell? ⟨W.heap.size, 6, none⟩ = some (.int .i64 at_) ∧ w2.cell? ⟨W.heap.size, 7, none⟩ = some (.string value)))
  have HA3 := Lib.hid (fun (w2 : World) (a b c d : Value) (h : w2.cell? ⟨P, 0, none⟩ = some (.pointer (some ⟨T, 0, none⟩)) ∧ w2.cell? ⟨W.heap.size, 3, none⟩ = some (.string row) ∧ w2.cell? ⟨W.heap.size, 4, none⟩ = some (.string col) ∧ w2.cell? ⟨W.heap.size, 6, none⟩ = some (.int .i64 at_) ∧ w2.cell? ⟨W.heap.size, 7, none⟩ = some (.string value)) => (⟨(World.cell?_of_block (set4_other w2 (W.heap.size + 1) a b c d P hzP)).trans h.1, k5b (set4_other w2 (W.heap.size + 1) a b c d W.heap.size (by omega)) h.2⟩ : ((((w2.setCell ⟨W.heap.size + 1, 0, none⟩ a).setCell ⟨W.heap.size + 1, 1, none⟩ b).setCell ⟨W.heap.size + 1, 2, none⟩ c).setCell ⟨W.heap.size + 1, 3, none⟩ d).cell? ⟨P, 0, none⟩ = some (.pointer (some ⟨T, 0, none⟩)) ∧ ((((w2.setCell ⟨W.heap.size + 1, 0, none⟩ a).setCell ⟨W.heap.size + 1, 1, none⟩ b).setCell ⟨W.heap.size + 1, 2, none⟩ c).setCell ⟨W.heap.size + 1, 3, none⟩ d).cell? ⟨W.heap.size, 3, none⟩ = some (.string row) ∧ ((((w2.setCell ⟨W.heap.size + 1, 0, none⟩ a).setCell ⟨W.heap.size + 1, 1, none⟩ b).setCell ⟨W.heap.size + 1, 2, none⟩ c).setCell ⟨W.heap.size + 1, 3, none⟩ d).cell? ⟨W.heap.size, 4, none⟩ = some (.string col) ∧ ((((w2.setCell ⟨W.heap.size + 1, 0, none⟩ a).setCell ⟨W.heap.size + 1, 1, none⟩ b).setCell ⟨W.heap.size + 1, 2, none⟩ c).setCell ⟨W.heap.size + 1, 3, none⟩ d).cell? ⟨W.heap.size, 6, none⟩ = some (.int .i64 at_) ∧ ((((w2.setCell ⟨W.heap.size + 1, 0, none⟩ a).setCell ⟨W.heap.size + 1, 1, none⟩ b).setCell ⟨W.heap.size + 1, 2, none⟩ c).setCell ⟨W.heap.size + 1, 3, none⟩ d).cell? ⟨W.heap.size, 7, none⟩ = some (.string value)))
  have HC := Lib.hid (HPx.out w1.drew hb1.drew)
  clear hB hP1 hA
  go_region_held3 (fun w' => w'.cell? ⟨P, 0, none⟩ = some (.pointer (some ⟨T, 0, none⟩)) ∧ w'.cell? ⟨W.heap.size, 3, none⟩ = some (.string row) ∧ w'.cell? ⟨W.heap.size, 4, none⟩ = some (.string col) ∧ w'.cell? ⟨W.heap.size, 6, none⟩ = some (.int .i64 at_) ∧ w'.cell? ⟨W.heap.size, 7, none⟩ = some (.string value))
    (first | with_reducible exact HS3 _ _ _ _ | with_reducible exact HS2 | with_reducible exact HS1 | with_reducible exact HS1d)
    (first | (go_at_call 209; (with_reducible refine HC.out.mono ?_); rintro e w2 ⟨rfl, hT2, hTu2⟩; have HS2 := HA2.out w2 hTu2; have HS3 := fun a b c d => HA3.out w2 a b c d HS2; have hB2 := (hTu2.block (W.heap.size + 1) (by rw [drew_size]; omega) (fun h => by have := hS _ h; omega)).trans HB.out; have r0 : w2.cell? ⟨W.heap.size + 1, 0, none⟩ = _ := cob hB2 0 rfl; have r1 : w2.cell? ⟨W.heap.size + 1, 1, none⟩ = _ := cob hB2 1 rfl; have r2 : w2.cell? ⟨W.heap.size + 1, 2, none⟩ = _ := cob hB2 2 rfl; have r3 : w2.cell? ⟨W.heap.size + 1, 3, none⟩ = _ := cob hB2 3 rfl; have hfr : ∀ j, w2.frozen? ⟨W.heap.size + 1, j, none⟩ = false := fun j => by simp [World.frozen?, hB2]))
  go_wp2
  have HB2 := Lib.hid hB2
  have hz2 := hTu2.size
  rw [drew_size] at hz2
  refine bodyPost_ret (results_c rfl _ _ (W.heap.size + 1) _ _ (0, 0) _ rfl (set4_same HB2.out _ _ _ _) Tryz.underlying43 rfl Tryz.sizeRp) rfl ⟨⟨⟨0, false, { data := #[] }⟩, rfl, rfl⟩, ?_, ?_⟩
  · have h2 := hR'.mono hT2 (S2 := fun k => S k ∨ (W.heap.size + 2 ≤ k ∧ k < w2.heap.size)) (fun k hk _ => by
      rcases hk with hk | hk
      · exact .inl hk
      · rw [drew_size] at hk; exact .inr (by omega))
    have h3 := hR'.frame h2 (fun k hk => set4_other w2 (W.heap.size + 1) (.int .i64 0) (.bool false) (.string { data := #[] }) (.slice none 0 0) k (by
      rcases hk with hk | hk
      · have := hS k hk; omega
      · omega))
    exact hR'.mono h3 (fun k hk hl => by
      rcases hk with hk | hk
      · exact .inl hk
      · exact .inr ⟨by omega, hl⟩)
  · exact ((Turned.of_below hb1).trans ((Turned.undrew hTu2).wide fun k hk _ => hk)).set4 (by omega) _ _ _ _
end Go.Proofs.YtoigogjmhkpdlaaGreat
