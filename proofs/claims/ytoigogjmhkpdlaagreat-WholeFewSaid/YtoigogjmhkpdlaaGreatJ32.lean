/- A part of the proof of WholeFew: the texts StateD, StateE, StateF. -/
import Derived.Test.YtoigogjmhkpdlaaGreatJ31
set_option maxHeartbeats 3200000
set_option maxRecDepth 100000
namespace Go.Proofs.YtoigogjmhkpdlaaGreat
open Go.RowKit
theorem below_set4 {B : Nat} {W w : World} (h : Below B W w) {g : Nat} (hg : B ≤ g) (a b c d : Value) : Below B W ((((w.setCell ⟨g, 0, none⟩ a).setCell ⟨g, 1, none⟩ b).setCell ⟨g, 2, none⟩ c).setCell ⟨g, 3, none⟩ d) :=
  (((h.setCell (p := ⟨g, 0, none⟩) hg _).setCell (p := ⟨g, 1, none⟩) hg _).setCell (p := ⟨g, 2, none⟩) hg _).setCell (p := ⟨g, 3, none⟩) hg _
theorem stget_of (c : Cm) (P T : Nat) (v1 : Value) (W : World) (hP : W.heap[P]? = some (.cells #[.pointer (some ⟨T, 0, none⟩), v1] 213))
    (HP : ∀ w, Below W.heap.size W w → Calls Tryz.prog 210 #[.pointer (some ⟨T, 0, none⟩), .string c.row, .string c.col, .int .i64 c.at_] w fun e W' => ∃ v b, e = .returned (.tuple #[.string v, .bool b]) ∧ Below w.heap.size w W') :
    Calls Tryz.prog 174 #[.pointer (some ⟨P, 0, none⟩), cmv c] W fun e W' => (∃ r : Rp, e = .returned (rpv r) ∧ r.e = 0) ∧ Below W.heap.size W W' := by
  have HPx := Lib.hid HP
  have hPl := (Array.getElem?_eq_some_iff.1 hP).1
  have HPb := Lib.hid (fun (w : World) (hb : Below W.heap.size W w) => (hb.block P hPl).trans hP)
  clear HP hP
  obtain ⟨cl, sq, kind, row, col, tt, at_, value, expect, has⟩ := c
  unfold cmv cmcells
  simp only [] at HPx ⊢
  go_enter Tryz.func174, Tryz.ntmps174
  go_wp2_with fail
  generalize hw1 : World.alloc (World.alloc W _) _ = w1
  obtain ⟨hA, hB, hb1, hz1⟩ := two_new _ _ _ hw1.symm
  clear hw1
  have hP1 := HPb.out w1 hb1
  have HS1 : w1.cell? ⟨P, 0, none⟩ = some (.pointer (some ⟨T, 0, none⟩)) ∧ w1.cell? ⟨W.heap.size, 3, none⟩ = some (.string row) ∧ w1.cell? ⟨W.heap.size, 4, none⟩ = some (.string col) ∧ w1.cell? ⟨W.heap.size, 6, none⟩ = some (.int .i64 at_) := ⟨cob hP1 0 rfl, cob hA 3 rfl, cob hA 4 rfl, cob hA 6 rfl⟩
  have HS1d : w1.drew.cell? ⟨P, 0, none⟩ = some (.pointer (some ⟨T, 0, none⟩)) ∧ w1.drew.cell? ⟨W.heap.size, 3, none⟩ = some (.string row) ∧ w1.drew.cell? ⟨W.heap.size, 4, none⟩ = some (.string col) ∧ w1.drew.cell? ⟨W.heap.size, 6, none⟩ = some (.int .i64 at_) := HS1
  have HB := Lib.hid hB
  have HA2 := Lib.hid (fun (w2 : World) (hb : Below w1.heap.size w1 w2) => (⟨(hb.cell (p := ⟨P, 0, none⟩) (by simp; omega)).trans HS1.1, (hb.cell (p := ⟨W.heap.size, 3, none⟩) (by simp; omega)).trans HS1.2.1, (hb.cell (p := ⟨W.heap.size, 4, none⟩) (by simp; omega)).trans HS1.2.2.1, (hb.cell (p := ⟨W.heap.size, 6, none⟩) (by simp; omega)).trans HS1.2.2.2⟩ : w2.cell? ⟨P, 0, none⟩ = some (.pointer (some ⟨T, 0, none⟩)) ∧ w2.cell? ⟨W.heap.size, 3, none⟩ = some (.string row) ∧ w2.cell? ⟨W.heap.size, 4, none⟩ = some (.string col) ∧ w2.cell? ⟨W.heap.size, 6, none⟩ = some (.int .i64 at_)))
  have HC := Lib.hid (HPx.out w1.drew hb1.drew)
  clear hB hP1 hA
  go_region_held3 (fun w' => w'.cell? ⟨P, 0, none⟩ = some (.pointer (some ⟨T, 0, none⟩)) ∧ w'.cell? ⟨W.heap.size, 3, none⟩ = some (.string row) ∧ w'.cell? ⟨W.heap.size, 4, none⟩ = some (.string col) ∧ w'.cell? ⟨W.heap.size, 6, none⟩ = some (.int .i64 at_))
    (first | with_reducible exact HS2 | with_reducible exact HS1 | with_reducible exact HS1d)
    (first | (go_at_call 210; (with_reducible refine HC.out.mono ?_); rintro e w2 ⟨v, b, rfl, hb2'⟩; have hb2 : Below w1.heap.size w1 w2 := below_undrew hb2'; have HS2 := HA2.out w2 hb2; have hB2 := (hb2.block (W.heap.size + 1) (by omega)).trans HB.out; have r0 : w2.cell? ⟨W.heap.size + 1, 0, none⟩ = _ := cob hB2 0 rfl; have r1 : w2.cell? ⟨W.heap.size + 1, 1, none⟩ = _ := cob hB2 1 rfl; have r2 : w2.cell? ⟨W.heap.size + 1, 2, none⟩ = _ := cob hB2 2 rfl; have r3 : w2.cell? ⟨W.heap.size + 1, 3, none⟩ = _ := cob hB2 3 rfl; have hfr : ∀ j, w2.frozen? ⟨W.heap.size + 1, j, none⟩ = false := fun j => by simp [World.frozen?, hB2]))
  have HB2 := Lib.hid hB2
  clear hB2
  go_wp2
  refine bodyPost_ret (results_c rfl _ _ (W.heap.size + 1) _ _ (0, 0) _ rfl (set4_same HB2.out _ _ _ _) Tryz.underlying43 rfl Tryz.sizeRp) rfl ⟨⟨⟨0, b, v⟩, rfl, rfl⟩, ?_⟩
  exact below_set4 (below_next hb1 hb2) (by omega) _ _ _ _
theorem stscan_of (c : Cm) (P T : Nat) (v1 : Value) (W : World) (hP : W.heap[P]? = some (.cells #[.pointer (some ⟨T, 0, none⟩), v1] 213))
    (HP : ∀ w, Below W.heap.size W w → Calls Tryz.prog 211 #[.pointer (some ⟨T, 0, none⟩), .string c.row, .string c.to, .int .i64 c.at_] w fun e W' => e = .returned (.slice none 0 0) ∧ Below w.heap.size w W') :
    Calls Tryz.prog 175 #[.pointer (some ⟨P, 0, none⟩), cmv c] W fun e W' => (∃ r : Rp, e = .returned (rpv r) ∧ r.e = 0) ∧ Below W.heap.size W W' := by
  have HPx := Lib.hid HP
  have hPl := (Array.getElem?_eq_some_iff.1 hP).1
  have HPb := Lib.hid (fun (w : World) (hb : Below W.heap.size W w) => (hb.block P hPl).trans hP)
  clear HP hP
  obtain ⟨cl, sq, kind, row, col, tt, at_, value, expect, has⟩ := c
  unfold cmv cmcells
  simp only [] at HPx ⊢
  go_enter Tryz.func175, Tryz.ntmps175
  go_wp2_with fail
  generalize hw1 : World.alloc (World.alloc W _) _ = w1
  obtain ⟨hA, hB, hb1, hz1⟩ := two_new _ _ _ hw1.symm
  clear hw1
  have hP1 := HPb.out w1 hb1
  have HS1 : w1.cell? ⟨P, 0, none⟩ = some (.pointer (some ⟨T, 0, none⟩)) ∧ w1.cell? ⟨W.heap.size, 3, none⟩ = some (.string row) ∧ w1.cell? ⟨W.heap.size, 5, none⟩ = some (.string tt) ∧ w1.cell? ⟨W.heap.size, 6, none⟩ = some (.int .i64 at_) := ⟨cob hP1 0 rfl, cob hA 3 rfl, cob hA 5 rfl, cob hA 6 rfl⟩
  have HS1d : w1.drew.cell? ⟨P, 0, none⟩ = some (.pointer (some ⟨T, 0, none⟩)) ∧ w1.drew.cell? ⟨W.heap.size, 3, none⟩ = some (.string row) ∧ w1.drew.cell? ⟨W.heap.size, 5, none⟩ = some (.string tt) ∧ w1.drew.cell? ⟨W.heap.size, 6, none⟩ = some (.int .i64 at_) := HS1
  have HB := Lib.hid hB
  have HA2 := Lib.hid (fun (w2 : World) (hb : Below w1.heap.size w1 w2) => (⟨(hb.cell (p := ⟨P, 0, none⟩) (by simp; omega)).trans HS1.1, (hb.cell (p := ⟨W.heap.size, 3, none⟩) (by simp; omega)).trans HS1.2.1, (hb.cell (p := ⟨W.heap.size, 5, none⟩) (by simp; omega)).trans HS1.2.2.1, (hb.cell (p := ⟨W.heap.size, 6, none⟩) (by simp; omega)).trans HS1.2.2.2⟩ : w2.cell? ⟨P, 0, none⟩ = some (.pointer (some ⟨T, 0, none⟩)) ∧ w2.cell? ⟨W.heap.size, 3, none⟩ = some (.string row) ∧ w2.cell? ⟨W.heap.size, 5, none⟩ = some (.string tt) ∧ w2.cell? ⟨W.heap.size, 6, none⟩ = some (.int .i64 at_)))
  have HC := Lib.hid (HPx.out w1.drew hb1.drew)
  clear hB hP1 hA
  go_region_held3 (fun w' => w'.cell? ⟨P, 0, none⟩ = some (.pointer (some ⟨T, 0, none⟩)) ∧ w'.cell? ⟨W.heap.size, 3, none⟩ = some (.string row) ∧ w'.cell? ⟨W.heap.size, 5, none⟩ = some (.string tt) ∧ w'.cell? ⟨W.heap.size, 6, none⟩ = some (.int .i64 at_))
    (first | with_reducible exact HS2 | with_reducible exact HS1 | with_reducible exact HS1d)
    (first | (go_at_call 211; (with_reducible refine HC.out.mono ?_); rintro e w2 ⟨rfl, hb2'⟩; have hb2 : Below w1.heap.size w1 w2 := below_undrew hb2'; have HS2 := HA2.out w2 hb2; have hB2 := (hb2.block (W.heap.size + 1) (by omega)).trans HB.out; have r0 : w2.cell? ⟨W.heap.size + 1, 0, none⟩ = _ := cob hB2 0 rfl; have r1 : w2.cell? ⟨W.heap.size + 1, 1, none⟩ = _ := cob hB2 1 rfl; have r2 : w2.cell? ⟨W.heap.size + 1, 2, none⟩ = _ := cob hB2 2 rfl; have r3 : w2.cell? ⟨W.heap.size + 1, 3, none⟩ = _ := cob hB2 3 rfl; have hfr : ∀ j, w2.frozen? ⟨W.heap.size + 1, j, none⟩ = false := fun j => by simp [World.frozen?, hB2]))
  have HB2 := Lib.hid hB2
  clear hB2
  go_wp2
  refine bodyPost_ret (results_c rfl _ _ (W.heap.size + 1) _ _ (0, 0) _ rfl (set4_same HB2.out _ _ _ _) Tryz.underlying43 rfl Tryz.sizeRp) rfl ⟨⟨⟨0, false, { data := #[] }⟩, rfl, rfl⟩, ?_⟩
  exact below_set4 (below_next hb1 hb2) (by omega) _ _ _ _
theorem stcheck_of (c : Cm) (R' : World → (Nat → Prop) → Nat → Prop) (hR' : Framed R') (S : Nat → Prop) (P T : Nat) (v1 : Value) (W : World) (hP : W.heap[P]? = some (.cells #[.pointer (some ⟨T, 0, none⟩), v1] 213)) (hS : Lt S W) (hPS : ¬ S P)
    (HG : ∀ w, Below W.heap.size W w → Calls Tryz.prog 210 #[.pointer (some ⟨T, 0, none⟩), .string c.row, .string c.col, .int .i64 c.at_] w fun e W' => ∃ v b, e = .returned (.tuple #[.string v, .bool b]) ∧ Below w.heap.size w W')
    (HP : ∀ w, Below W.heap.size W w → Calls Tryz.prog 209 #[.pointer (some ⟨T, 0, none⟩), clv ⟨c.row, c.col, c.at_, c.value, false⟩] w fun e W' => e = .returned (.int .i64 0) ∧ R' W' (fun k => S k ∨ (w.heap.size ≤ k ∧ k < W'.heap.size)) T ∧ Turned S w W')
    (hE : ∀ w, Below W.heap.size W w → R' w S T) :
    Calls Tryz.prog 173 #[.pointer (some ⟨P, 0, none⟩), cmv c] W fun e W' => (∃ r : Rp, e = .returned (rpv r) ∧ r.e = 0) ∧ R' W' (fun k => S k ∨ (W.heap.size ≤ k ∧ k < W'.heap.size)) T ∧ Turned S W W' := by
  have HPx := Lib.hid HG
  have hPl := (Array.getElem?_eq_some_iff.1 hP).1
  have HPb := Lib.hid (fun (w : World) (hb : Below W.heap.size W w) => (hb.block P hPl).trans hP)
  have HQ := Lib.hid (fun w (hb : Below W.heap.size W w) => stput_of c R' hR' S P T v1 w ((hb.block P hPl).trans hP) (hS.wide hb.size) hPS (fun w2 hb2 => HP w2 (below_next hb hb2)))
  clear HP hP HG
  obtain ⟨cl, sq, kind, row, col, tt, at_, value, expect, has⟩ := c
  unfold cmv cmcells at HQ
  unfold cmv cmcells
  simp only [] at HPx HQ ⊢
  go_enter Tryz.func173, Tryz.ntmps173
  go_wp2_with fail
  generalize hw1 : World.alloc (World.alloc W _) _ = w1
  obtain ⟨hA, hB, hb1, hz1⟩ := two_new _ _ _ hw1.symm
  clear hw1
  have hP1 := HPb.out w1 hb1
  have HS1 : w1.cell? ⟨P, 0, none⟩ = some (.pointer (some ⟨T, 0, none⟩)) ∧ w1.cell? ⟨W.heap.size, 3, none⟩ = some (.string row) ∧ w1.cell? ⟨W.heap.size, 4, none⟩ = some (.string col) ∧ w1.cell? ⟨W.heap.size, 6, none⟩ = some (.int .i64 at_) := ⟨cob hP1 0 rfl, cob hA 3 rfl, cob hA 4 rfl, cob hA 6 rfl⟩
  have HS1d : w1.drew.cell? ⟨P, 0, none⟩ = some (.pointer (some ⟨T, 0, none⟩)) ∧ w1.drew.cell? ⟨W.heap.size, 3, none⟩ = some (.string row) ∧ w1.drew.cell? ⟨W.heap.size, 4, none⟩ = some (.string col) ∧ w1.drew.cell? ⟨W.heap.size, 6, none⟩ = some (.int .i64 at_) := HS1
  have HB := Lib.hid hB
  have HAA := Lib.hid hA
  have HA2 := Lib.hid (fun (w2 : World) (hb : Below w1.heap.size w1 w2) => (⟨(hb.cell (p := ⟨P, 0, none⟩) (by simp; omega)).trans HS1.1, (hb.cell (p := ⟨W.heap.size, 3, none⟩) (by simp; omega)).trans HS1.2.1, (hb.cell (p := ⟨W.heap.size, 4, none⟩) (by simp; omega)).trans HS1.2.2.1, (hb.cell (p := ⟨W.heap.size, 6, none⟩) (by simp; omega)).trans HS1.2.2.2⟩ : w2.cell? ⟨P, 0, none⟩ = some (.pointer (some ⟨T, 0, none⟩)) ∧ w2.cell? ⟨W.heap.size, 3, none⟩ = some (.string row) ∧ w2.cell? ⟨W.heap.size, 4, none⟩ = some (.string col) ∧ w2.cell? ⟨W.heap.size, 6, none⟩ = some (.int .i64 at_)))
  have HC := Lib.hid (HPx.out w1.drew hb1.drew)
  clear hB hP1 hA
  go_region_held3 (fun w' => w'.cell? ⟨P, 0, none⟩ = some (.pointer (some ⟨T, 0, none⟩)) ∧ w'.cell? ⟨W.heap.size, 3, none⟩ = some (.string row) ∧ w'.cell? ⟨W.heap.size, 4, none⟩ = some (.string col) ∧ w'.cell? ⟨W.heap.size, 6, none⟩ = some (.int .i64 at_))
    (first | with_reducible exact HS2 | with_reducible exact HS1 | with_reducible exact HS1d)
    (first | (go_at_call 210; (with_reducible refine HC.out.mono ?_); rintro e w2 ⟨v, b, rfl, hb2'⟩; have hb2 : Below w1.heap.size w1 w2 := below_undrew hb2'; have HS2 := HA2.out w2 hb2))
  have hBk2 := (hb2.block (W.heap.size + 1) (by omega)).trans HB.out
  have hAk2 := (hb2.block W.heap.size (by omega)).trans HAA.out
  have HBW := Lib.hid (below_next hb1 hb2)
  have HB2 := Lib.hid hBk2
  have HA4 := Lib.hid hAk2
  have q0 : w2.cell? ⟨W.heap.size, 0, none⟩ = some (.int .i64 cl) := cob hAk2 0 rfl
  have q1 : w2.cell? ⟨W.heap.size, 1, none⟩ = some (.int .i64 sq) := cob hAk2 1 rfl
  have q2 : w2.cell? ⟨W.heap.size, 2, none⟩ = some (.int .i64 kind) := cob hAk2 2 rfl
  have q3 : w2.cell? ⟨W.heap.size, 3, none⟩ = some (.string row) := cob hAk2 3 rfl
  have q4 : w2.cell? ⟨W.heap.size, 4, none⟩ = some (.string col) := cob hAk2 4 rfl
  have q5 : w2.cell? ⟨W.heap.size, 5, none⟩ = some (.string tt) := cob hAk2 5 rfl
  have q6 : w2.cell? ⟨W.heap.size, 6, none⟩ = some (.int .i64 at_) := cob hAk2 6 rfl
  have q7 : w2.cell? ⟨W.heap.size, 7, none⟩ = some (.string value) := cob hAk2 7 rfl
  have q8 : w2.cell? ⟨W.heap.size, 8, none⟩ = some (.string expect) := cob hAk2 8 rfl
  have q9 : w2.cell? ⟨W.heap.size, 9, none⟩ = some (.bool has) := cob hAk2 9 rfl
  have r0 : w2.cell? ⟨W.heap.size + 1, 0, none⟩ = _ := cob hBk2 0 rfl
  have r1 : w2.cell? ⟨W.heap.size + 1, 1, none⟩ = _ := cob hBk2 1 rfl
  have r2 : w2.cell? ⟨W.heap.size + 1, 2, none⟩ = _ := cob hBk2 2 rfl
  have r3 : w2.cell? ⟨W.heap.size + 1, 3, none⟩ = _ := cob hBk2 3 rfl
  have hfr : ∀ j, w2.frozen? ⟨W.heap.size + 1, j, none⟩ = false := fun j => by simp [World.frozen?, hBk2]
  have HTl := Lib.hid (hb2.size)
  have HT2 := Lib.hid (hE w2 HBW.out)
  clear hBk2 hAk2 hE hPl HPx HC HA2 HAA HS2 HS1d HS1 HPb
  rcases bool_dec b with hb | hb <;> rcases bool_dec has with hh | hh <;> subst hb <;> subst hh <;> rcases bool_dec (v.toList == expect.toList) with hx | hx
  · go_upto_region 6 with (first | (go_at_call 171; refine (HQ.out _ HBW.out).mono ?_; rintro e w3 ⟨⟨⟨re, rd, rv⟩, rfl, re0⟩, hT3, hTu3⟩; have re1 : re = 0 := re0; subst re1; clear re0; unfold rpv rpcells; simp only []; have hBk3 := (hTu3.block (W.heap.size + 1) (by have := HTl.out; omega) (fun h => by have := hS _ h; omega)).trans HB2.out; have s0 : w3.cell? ⟨W.heap.size + 1, 0, none⟩ = _ := cob hBk3 0 rfl; have s1 : w3.cell? ⟨W.heap.size + 1, 1, none⟩ = _ := cob hBk3 1 rfl; have s2 : w3.cell? ⟨W.heap.size + 1, 2, none⟩ = _ := cob hBk3 2 rfl; have s3 : w3.cell? ⟨W.heap.size + 1, 3, none⟩ = _ := cob hBk3 3 rfl; have hfr3 : ∀ j, w3.frozen? ⟨W.heap.size + 1, j, none⟩ = false := (fun j => by simp [World.frozen?, hBk3]); have HBk3 := Lib.hid hBk3; have hsz3 : W.heap.size + 2 ≤ w3.heap.size := (by have h1 := HTl.out; have h2 := hTu3.size; omega); have hne3 : W.heap.size + 1 ≠ w3.heap.size := (by omega); clear hBk3))
    generalize hw5 : World.alloc w3 _ = w5
    have hX5 := named_new hw5.symm
    have hb5 := named_below hw5.symm
    have hz5 := named_size hw5.symm
    clear hw5
    have hR5 := (hb5.block (W.heap.size + 1) (by omega)).trans HBk3.out
    have s0' : w5.cell? ⟨W.heap.size + 1, 0, none⟩ = _ := cob hR5 0 rfl
    have s1' : w5.cell? ⟨W.heap.size + 1, 1, none⟩ = _ := cob hR5 1 rfl
    have s2' : w5.cell? ⟨W.heap.size + 1, 2, none⟩ = _ := cob hR5 2 rfl
    have s3' : w5.cell? ⟨W.heap.size + 1, 3, none⟩ = _ := cob hR5 3 rfl
    have x0' : w5.cell? ⟨w3.heap.size, 0, none⟩ = _ := cob hX5 0 rfl
    have x1' : w5.cell? ⟨w3.heap.size, 1, none⟩ = _ := cob hX5 1 rfl
    have x2' : w5.cell? ⟨w3.heap.size, 2, none⟩ = _ := cob hX5 2 rfl
    have x3' : w5.cell? ⟨w3.heap.size, 3, none⟩ = _ := cob hX5 3 rfl
    have hfr5 : ∀ j, w5.frozen? ⟨W.heap.size + 1, j, none⟩ = false := fun j => by simp [World.frozen?, hR5]
    have HR5 := Lib.hid hR5
    have Hb5 := Lib.hid hb5
    clear hR5 hX5 hb5
    go_wp2
    refine bodyPost_ret (results_c rfl _ _ (W.heap.size + 1) _ _ (0, 0) _ rfl (set4_same HR5.out _ _ _ _) Tryz.underlying43 rfl Tryz.sizeRp) rfl ⟨⟨⟨0, true, rv⟩, rfl, rfl⟩, ?_, ?_⟩
    · have h4 := hR'.frame (W' := w5) hT3 (fun k hk => Hb5.out.block k (by
        rcases hk with hk | hk
        · have := hS k hk; omega
        · exact hk.2))
      have h5 := hR'.frame h4 (fun k hk => set4_other w5 (W.heap.size + 1) (.int .i64 0) (.bool true) (.string rv) (.slice none 0 0) k (by
        rcases hk with hk | hk
        · have := hS k hk; omega
        · have := HTl.out; omega))
      exact hR'.mono h5 (fun k hk hl => by
        rcases hk with hk | hk
        · exact .inl hk
        · exact .inr ⟨by have := HTl.out; omega, hl⟩)
    · have hw2s := HTl.out
      exact (((Turned.of_below HBW.out).trans hTu3).below Hb5.out (by omega)).set4 (by omega) _ _ _ _
  · go_upto_region 6 with (first | (go_at_call 171; refine (HQ.out _ HBW.out).mono ?_; rintro e w3 ⟨⟨⟨re, rd, rv⟩, rfl, re0⟩, hT3, hTu3⟩; have re1 : re = 0 := re0; subst re1; clear re0; unfold rpv rpcells; simp only []; have hBk3 := (hTu3.block (W.heap.size + 1) (by have := HTl.out; omega) (fun h => by have := hS _ h; omega)).trans HB2.out; have s0 : w3.cell? ⟨W.heap.size + 1, 0, none⟩ = _ := cob hBk3 0 rfl; have s1 : w3.cell? ⟨W.heap.size + 1, 1, none⟩ = _ := cob hBk3 1 rfl; have s2 : w3.cell? ⟨W.heap.size + 1, 2, none⟩ = _ := cob hBk3 2 rfl; have s3 : w3.cell? ⟨W.heap.size + 1, 3, none⟩ = _ := cob hBk3 3 rfl; have hfr3 : ∀ j, w3.frozen? ⟨W.heap.size + 1, j, none⟩ = false := (fun j => by simp [World.frozen?, hBk3]); have HBk3 := Lib.hid hBk3; have hsz3 : W.heap.size + 2 ≤ w3.heap.size := (by have h1 := HTl.out; have h2 := hTu3.size; omega); have hne3 : W.heap.size + 1 ≠ w3.heap.size := (by omega); clear hBk3))
    generalize hw5 : World.alloc w3 _ = w5
    have hX5 := named_new hw5.symm
    have hb5 := named_below hw5.symm
    have hz5 := named_size hw5.symm
    clear hw5
    have hR5 := (hb5.block (W.heap.size + 1) (by omega)).trans HBk3.out
    have s0' : w5.cell? ⟨W.heap.size + 1, 0, none⟩ = _ := cob hR5 0 rfl
    have s1' : w5.cell? ⟨W.heap.size + 1, 1, none⟩ = _ := cob hR5 1 rfl
    have s2' : w5.cell? ⟨W.heap.size + 1, 2, none⟩ = _ := cob hR5 2 rfl
    have s3' : w5.cell? ⟨W.heap.size + 1, 3, none⟩ = _ := cob hR5 3 rfl
    have x0' : w5.cell? ⟨w3.heap.size, 0, none⟩ = _ := cob hX5 0 rfl
    have x1' : w5.cell? ⟨w3.heap.size, 1, none⟩ = _ := cob hX5 1 rfl
    have x2' : w5.cell? ⟨w3.heap.size, 2, none⟩ = _ := cob hX5 2 rfl
    have x3' : w5.cell? ⟨w3.heap.size, 3, none⟩ = _ := cob hX5 3 rfl
    have hfr5 : ∀ j, w5.frozen? ⟨W.heap.size + 1, j, none⟩ = false := fun j => by simp [World.frozen?, hR5]
    have HR5 := Lib.hid hR5
    have Hb5 := Lib.hid hb5
    clear hR5 hX5 hb5
    go_wp2
    refine bodyPost_ret (results_c rfl _ _ (W.heap.size + 1) _ _ (0, 0) _ rfl (set4_same HR5.out _ _ _ _) Tryz.underlying43 rfl Tryz.sizeRp) rfl ⟨⟨⟨0, true, rv⟩, rfl, rfl⟩, ?_, ?_⟩
    · have h4 := hR'.frame (W' := w5) hT3 (fun k hk => Hb5.out.block k (by
        rcases hk with hk | hk
        · have := hS k hk; omega
        · exact hk.2))
      have h5 := hR'.frame h4 (fun k hk => set4_other w5 (W.heap.size + 1) (.int .i64 0) (.bool true) (.string rv) (.slice none 0 0) k (by
        rcases hk with hk | hk
        · have := hS k hk; omega
        · have := HTl.out; omega))
      exact hR'.mono h5 (fun k hk hl => by
        rcases hk with hk | hk
        · exact .inl hk
        · exact .inr ⟨by have := HTl.out; omega, hl⟩)
    · have hw2s := HTl.out
      exact (((Turned.of_below HBW.out).trans hTu3).below Hb5.out (by omega)).set4 (by omega) _ _ _ _
  · go_wp2
    refine bodyPost_ret (results_c rfl _ _ (W.heap.size + 1) _ _ (0, 0) _ rfl (set4_same HB2.out _ _ _ _) Tryz.underlying43 rfl Tryz.sizeRp) rfl ⟨⟨⟨0, false, { data := #[] }⟩, rfl, rfl⟩, ?_, ?_⟩
    · have h5 := hR'.frame HT2.out (fun k hk => set4_other w2 (W.heap.size + 1) (.int .i64 0) (.bool false) (.string { data := #[] }) (.slice none 0 0) k (by have := hS k hk; omega))
      exact hR'.mono h5 (fun k hk hl => .inl hk)
    · exact (Turned.of_below HBW.out).set4 (by omega) _ _ _ _
  · go_wp2
    refine bodyPost_ret (results_c rfl _ _ (W.heap.size + 1) _ _ (0, 0) _ rfl (set4_same HB2.out _ _ _ _) Tryz.underlying43 rfl Tryz.sizeRp) rfl ⟨⟨⟨0, false, { data := #[] }⟩, rfl, rfl⟩, ?_, ?_⟩
    · have h5 := hR'.frame HT2.out (fun k hk => set4_other w2 (W.heap.size + 1) (.int .i64 0) (.bool false) (.string { data := #[] }) (.slice none 0 0) k (by have := hS k hk; omega))
      exact hR'.mono h5 (fun k hk hl => .inl hk)
    · exact (Turned.of_below HBW.out).set4 (by omega) _ _ _ _
  · go_wp2
    refine bodyPost_ret (results_c rfl _ _ (W.heap.size + 1) _ _ (0, 0) _ rfl (set4_same HB2.out _ _ _ _) Tryz.underlying43 rfl Tryz.sizeRp) rfl ⟨⟨⟨0, false, { data := #[] }⟩, rfl, rfl⟩, ?_, ?_⟩
    · have h5 := hR'.frame HT2.out (fun k hk => set4_other w2 (W.heap.size + 1) (.int .i64 0) (.bool false) (.string { data := #[] }) (.slice none 0 0) k (by have := hS k hk; omega))
      exact hR'.mono h5 (fun k hk hl => .inl hk)
    · exact (Turned.of_below HBW.out).set4 (by omega) _ _ _ _
  · go_wp2
    refine bodyPost_ret (results_c rfl _ _ (W.heap.size + 1) _ _ (0, 0) _ rfl (set4_same HB2.out _ _ _ _) Tryz.underlying43 rfl Tryz.sizeRp) rfl ⟨⟨⟨0, false, { data := #[] }⟩, rfl, rfl⟩, ?_, ?_⟩
    · have h5 := hR'.frame HT2.out (fun k hk => set4_other w2 (W.heap.size + 1) (.int .i64 0) (.bool false) (.string { data := #[] }) (.slice none 0 0) k (by have := hS k hk; omega))
      exact hR'.mono h5 (fun k hk hl => .inl hk)
    · exact (Turned.of_below HBW.out).set4 (by omega) _ _ _ _
  · go_wp2
    refine bodyPost_ret (results_c rfl _ _ (W.heap.size + 1) _ _ (0, 0) _ rfl (set4_same HB2.out _ _ _ _) Tryz.underlying43 rfl Tryz.sizeRp) rfl ⟨⟨⟨0, false, { data := #[] }⟩, rfl, rfl⟩, ?_, ?_⟩
    · have h5 := hR'.frame HT2.out (fun k hk => set4_other w2 (W.heap.size + 1) (.int .i64 0) (.bool false) (.string { data := #[] }) (.slice none 0 0) k (by have := hS k hk; omega))
      exact hR'.mono h5 (fun k hk hl => .inl hk)
    · exact (Turned.of_below HBW.out).set4 (by omega) _ _ _ _
  · go_upto_region 6 with (first | (go_at_call 171; refine (HQ.out _ HBW.out).mono ?_; rintro e w3 ⟨⟨⟨re, rd, rv⟩, rfl, re0⟩, hT3, hTu3⟩; have re1 : re = 0 := re0; subst re1; clear re0; unfold rpv rpcells; simp only []; have hBk3 := (hTu3.block (W.heap.size + 1) (by have := HTl.out; omega) (fun h => by have := hS _ h; omega)).trans HB2.out; have s0 : w3.cell? ⟨W.heap.size + 1, 0, none⟩ = _ := cob hBk3 0 rfl; have s1 : w3.cell? ⟨W.heap.size + 1, 1, none⟩ = _ := cob hBk3 1 rfl; have s2 : w3.cell? ⟨W.heap.size + 1, 2, none⟩ = _ := cob hBk3 2 rfl; have s3 : w3.cell? ⟨W.heap.size + 1, 3, none⟩ = _ := cob hBk3 3 rfl; have hfr3 : ∀ j, w3.frozen? ⟨W.heap.size + 1, j, none⟩ = false := (fun j => by simp [World.frozen?, hBk3]); have HBk3 := Lib.hid hBk3; have hsz3 : W.heap.size + 2 ≤ w3.heap.size := (by have h1 := HTl.out; have h2 := hTu3.size; omega); have hne3 : W.heap.size + 1 ≠ w3.heap.size := (by omega); clear hBk3))
    generalize hw5 : World.alloc w3 _ = w5
    have hX5 := named_new hw5.symm
    have hb5 := named_below hw5.symm
    have hz5 := named_size hw5.symm
    clear hw5
    have hR5 := (hb5.block (W.heap.size + 1) (by omega)).trans HBk3.out
    have s0' : w5.cell? ⟨W.heap.size + 1, 0, none⟩ = _ := cob hR5 0 rfl
    have s1' : w5.cell? ⟨W.heap.size + 1, 1, none⟩ = _ := cob hR5 1 rfl
    have s2' : w5.cell? ⟨W.heap.size + 1, 2, none⟩ = _ := cob hR5 2 rfl
    have s3' : w5.cell? ⟨W.heap.size + 1, 3, none⟩ = _ := cob hR5 3 rfl
    have x0' : w5.cell? ⟨w3.heap.size, 0, none⟩ = _ := cob hX5 0 rfl
    have x1' : w5.cell? ⟨w3.heap.size, 1, none⟩ = _ := cob hX5 1 rfl
    have x2' : w5.cell? ⟨w3.heap.size, 2, none⟩ = _ := cob hX5 2 rfl
    have x3' : w5.cell? ⟨w3.heap.size, 3, none⟩ = _ := cob hX5 3 rfl
    have hfr5 : ∀ j, w5.frozen? ⟨W.heap.size + 1, j, none⟩ = false := fun j => by simp [World.frozen?, hR5]
    have HR5 := Lib.hid hR5
    have Hb5 := Lib.hid hb5
    clear hR5 hX5 hb5
    go_wp2
    refine bodyPost_ret (results_c rfl _ _ (W.heap.size + 1) _ _ (0, 0) _ rfl (set4_same HR5.out _ _ _ _) Tryz.underlying43 rfl Tryz.sizeRp) rfl ⟨⟨⟨0, true, rv⟩, rfl, rfl⟩, ?_, ?_⟩
    · have h4 := hR'.frame (W' := w5) hT3 (fun k hk => Hb5.out.block k (by
        rcases hk with hk | hk
        · have := hS k hk; omega
        · exact hk.2))
      have h5 := hR'.frame h4 (fun k hk => set4_other w5 (W.heap.size + 1) (.int .i64 0) (.bool true) (.string rv) (.slice none 0 0) k (by
        rcases hk with hk | hk
        · have := hS k hk; omega
        · have := HTl.out; omega))
      exact hR'.mono h5 (fun k hk hl => by
        rcases hk with hk | hk
        · exact .inl hk
        · exact .inr ⟨by have := HTl.out; omega, hl⟩)
    · have hw2s := HTl.out
      exact (((Turned.of_below HBW.out).trans hTu3).below Hb5.out (by omega)).set4 (by omega) _ _ _ _
theorem fdoing (w : World) (f : Fn) : (Instr.field 261 (.agg #[.func f #[] #[]]) 0).run Tryz.prog w = .ok (.func f #[] #[]) w := by kernel_rfl
def kindF (k : Int) : Nat := if k = 1 then 171 else if k = 2 then 172 else if k = 3 then 173 else if k = 4 then 174 else 175
theorem stdone_of (c : Cm) (h1 : 1 ≤ c.kind) (h5 : c.kind ≤ 5) (R' : World → (Nat → Prop) → Nat → Prop) (hR' : Framed R') (S : Nat → Prop) (P T : Nat) (W : World) (hS : Lt S W)
    (HD : ∀ w, Below W.heap.size W w → Calls Tryz.prog (kindF c.kind) #[.pointer (some ⟨P, 0, none⟩), cmv c] w fun e W' => (∃ r : Rp, e = .returned (rpv r) ∧ r.e = 0) ∧ R' W' (fun k => S k ∨ (w.heap.size ≤ k ∧ k < W'.heap.size)) T ∧ Turned S w W') :
    Calls Tryz.prog 131 #[.pointer (some ⟨P, 0, none⟩), cmv c] W fun e W' => (∃ r : Rp, e = .returned (rpv r) ∧ r.e = 0) ∧ R' W' (fun k => S k ∨ (W.heap.size ≤ k ∧ k < W'.heap.size)) T ∧ Turned S W W' := by
  have HDx := Lib.hid HD
  have hfd := fdoing
  have hmm := @run_makeMap Tryz.prog
  clear HD
  obtain ⟨cl, sq, kind, row, col, tt, at_, value, expect, has⟩ := c
  unfold cmv cmcells at HDx
  unfold cmv cmcells
  simp only [] at HDx h1 h5 ⊢
  have hk : kind = 1 ∨ kind = 2 ∨ kind = 3 ∨ kind = 4 ∨ kind = 5 := by omega
  clear h1 h5
  go_enter Tryz.func131, Tryz.ntmps131
  go_upto_region 1 with (fail)
  generalize hw1 : World.alloc (World.alloc W _) _ = w1
  obtain ⟨hA, hB, hb1, hz1⟩ := two_new _ _ _ hw1.symm
  have hzz : W.heap.size + 2 ≤ w1.heap.size := Nat.le_of_eq hz1.symm
  clear hw1 hz1
  have m0 := MapIs.made w1 (.int .i64)
  obtain ⟨y1, e1, m1, g1, z1⟩ := m0.store_new (P := Tryz.prog) (t := 262) (key := .int .i64 1) Tryz.underlying262 Tryz.underlying3 rfl (by simp) (.agg #[.func (.func 171) #[] #[]])
  obtain ⟨y2, e2, m2, g2, z2⟩ := m1.store_new (P := Tryz.prog) (t := 262) (key := .int .i64 2) Tryz.underlying262 Tryz.underlying3 rfl (by simp) (.agg #[.func (.func 172) #[] #[]])
  obtain ⟨y3, e3, m3, g3, z3⟩ := m2.store_new (P := Tryz.prog) (t := 262) (key := .int .i64 3) Tryz.underlying262 Tryz.underlying3 rfl (by simp) (.agg #[.func (.func 173) #[] #[]])
  obtain ⟨y4, e4, m4, g4, z4⟩ := m3.store_new (P := Tryz.prog) (t := 262) (key := .int .i64 4) Tryz.underlying262 Tryz.underlying3 rfl (by simp) (.agg #[.func (.func 174) #[] #[]])
  obtain ⟨y5, e5, m5, g5, z5⟩ := m4.store_new (P := Tryz.prog) (t := 262) (key := .int .i64 5) Tryz.underlying262 Tryz.underlying3 rfl (by simp) (.agg #[.func (.func 175) #[] #[]])
  have z0 : (w1.alloc (.map #[] 0)).heap.size = w1.heap.size + 1 := by simp
  have b0 : Below w1.heap.size w1 (w1.alloc (.map #[] 0)) := (Below.refl w1.heap.size w1).alloc (Nat.le_refl _) _
  have hrr : ∀ k, some w1.heap.size = some k → w1.heap.size ≤ k := fun k h => by injection h with h; omega
  have hb5 : Below w1.heap.size w1 y5 := ((((b0.grown g1 (by omega) hrr).grown g2 (by omega) hrr).grown g3 (by omega) hrr).grown g4 (by omega) hrr).grown g5 (by omega) hrr
  have HM5 := Lib.hid m5
  have hBW := below_next hb1 hb5
  have hA5 := (hb5.block W.heap.size (by omega)).trans hA
  have hB5 := (hb5.block (W.heap.size + 1) (by omega)).trans hB
  have q0 : y5.cell? ⟨W.heap.size, 0, none⟩ = some (.int .i64 cl) := cob hA5 0 rfl
  have q1 : y5.cell? ⟨W.heap.size, 1, none⟩ = some (.int .i64 sq) := cob hA5 1 rfl
  have q2 : y5.cell? ⟨W.heap.size, 2, none⟩ = some (.int .i64 kind) := cob hA5 2 rfl
  have q3 : y5.cell? ⟨W.heap.size, 3, none⟩ = some (.string row) := cob hA5 3 rfl
  have q4 : y5.cell? ⟨W.heap.size, 4, none⟩ = some (.string col) := cob hA5 4 rfl
  have q5 : y5.cell? ⟨W.heap.size, 5, none⟩ = some (.string tt) := cob hA5 5 rfl
  have q6 : y5.cell? ⟨W.heap.size, 6, none⟩ = some (.int .i64 at_) := cob hA5 6 rfl
  have q7 : y5.cell? ⟨W.heap.size, 7, none⟩ = some (.string value) := cob hA5 7 rfl
  have q8 : y5.cell? ⟨W.heap.size, 8, none⟩ = some (.string expect) := cob hA5 8 rfl
  have q9 : y5.cell? ⟨W.heap.size, 9, none⟩ = some (.bool has) := cob hA5 9 rfl
  have HC := Lib.hid (HDx.out y5 hBW)
  have HB5 := Lib.hid hB5
  have hz5 := hb5.size
  have HBW := Lib.hid hBW
  have HH := Lib.hid hb5
  clear hA hB hA5 hB5 hb1 hb5 hBW z0 b0 hrr m0 m1 m2 m3 m4 m5 g1 g2 g3 g4 g5 z1 z2 z3 z4 z5
  rcases hk with rfl | rfl | rfl | rfl | rfl
  · have el := HM5.out.look (P := Tryz.prog) (t := 262) (key := .int .i64 1) Tryz.underlying262 Tryz.underlying3 rfl false (v := .agg #[.func (.func 171) #[] #[]]) (by simp)
    simp only [Bool.false_eq_true, if_false] at el
    go_wp2_with (first | (go_at_call 171; refine HC.out.mono ?_; rintro e w3 ⟨⟨⟨re, rd, rv⟩, rfl, re0⟩, hT3, hTu3⟩; have re1 : re = 0 := re0; subst re1; clear re0; unfold rpv rpcells; simp only []; have hBk3 := (hTu3.block (W.heap.size + 1) (by omega) (fun h => by have := hS _ h; omega)).trans HB5.out; have s0 : w3.cell? ⟨W.heap.size + 1, 0, none⟩ = _ := cob hBk3 0 rfl; have s1 : w3.cell? ⟨W.heap.size + 1, 1, none⟩ = _ := cob hBk3 1 rfl; have s2 : w3.cell? ⟨W.heap.size + 1, 2, none⟩ = _ := cob hBk3 2 rfl; have s3 : w3.cell? ⟨W.heap.size + 1, 3, none⟩ = _ := cob hBk3 3 rfl; have hfr3 : ∀ j, w3.frozen? ⟨W.heap.size + 1, j, none⟩ = false := (fun j => by simp [World.frozen?, hBk3]); have HBk3 := Lib.hid hBk3; clear hBk3))
    refine bodyPost_ret (results_c rfl _ _ (W.heap.size + 1) _ _ (0, 0) _ rfl (set4_same HBk3.out _ _ _ _) Tryz.underlying43 rfl Tryz.sizeRp) rfl ⟨⟨⟨0, rd, rv⟩, rfl, rfl⟩, ?_, ?_⟩
    · have h5 := hR'.frame hT3 (fun k hk => set4_other w3 (W.heap.size + 1) (.int .i64 0) (.bool rd) (.string rv) (.slice none 0 0) k (by
        rcases hk with hk | hk
        · have := hS k hk; omega
        · omega))
      exact hR'.mono h5 (fun k hk hl => by
        rcases hk with hk | hk
        · exact .inl hk
        · exact .inr ⟨by omega, hl⟩)
    · exact ((Turned.of_below HBW.out).trans hTu3).set4 (by omega) _ _ _ _
  · have el := HM5.out.look (P := Tryz.prog) (t := 262) (key := .int .i64 2) Tryz.underlying262 Tryz.underlying3 rfl false (v := .agg #[.func (.func 172) #[] #[]]) (by simp)
    simp only [Bool.false_eq_true, if_false] at el
    go_wp2_with (first | (go_at_call 172; refine HC.out.mono ?_; rintro e w3 ⟨⟨⟨re, rd, rv⟩, rfl, re0⟩, hT3, hTu3⟩; have re1 : re = 0 := re0; subst re1; clear re0; unfold rpv rpcells; simp only []; have hBk3 := (hTu3.block (W.heap.size + 1) (by omega) (fun h => by have := hS _ h; omega)).trans HB5.out; have s0 : w3.cell? ⟨W.heap.size + 1, 0, none⟩ = _ := cob hBk3 0 rfl; have s1 : w3.cell? ⟨W.heap.size + 1, 1, none⟩ = _ := cob hBk3 1 rfl; have s2 : w3.cell? ⟨W.heap.size + 1, 2, none⟩ = _ := cob hBk3 2 rfl; have s3 : w3.cell? ⟨W.heap.size + 1, 3, none⟩ = _ := cob hBk3 3 rfl; have hfr3 : ∀ j, w3.frozen? ⟨W.heap.size + 1, j, none⟩ = false := (fun j => by simp [World.frozen?, hBk3]); have HBk3 := Lib.hid hBk3; clear hBk3))
    refine bodyPost_ret (results_c rfl _ _ (W.heap.size + 1) _ _ (0, 0) _ rfl (set4_same HBk3.out _ _ _ _) Tryz.underlying43 rfl Tryz.sizeRp) rfl ⟨⟨⟨0, rd, rv⟩, rfl, rfl⟩, ?_, ?_⟩
    · have h5 := hR'.frame hT3 (fun k hk => set4_other w3 (W.heap.size + 1) (.int .i64 0) (.bool rd) (.string rv) (.slice none 0 0) k (by
        rcases hk with hk | hk
        · have := hS k hk; omega
        · omega))
      exact hR'.mono h5 (fun k hk hl => by
        rcases hk with hk | hk
        · exact .inl hk
        · exact .inr ⟨by omega, hl⟩)
    · exact ((Turned.of_below HBW.out).trans hTu3).set4 (by omega) _ _ _ _
  · have el := HM5.out.look (P := Tryz.prog) (t := 262) (key := .int .i64 3) Tryz.underlying262 Tryz.underlying3 rfl false (v := .agg #[.func (.func 173) #[] #[]]) (by simp)
    simp only [Bool.false_eq_true, if_false] at el
    go_wp2_with (first | (go_at_call 173; refine HC.out.mono ?_; rintro e w3 ⟨⟨⟨re, rd, rv⟩, rfl, re0⟩, hT3, hTu3⟩; have re1 : re = 0 := re0; subst re1; clear re0; unfold rpv rpcells; simp only []; have hBk3 := (hTu3.block (W.heap.size + 1) (by omega) (fun h => by have := hS _ h; omega)).trans HB5.out; have s0 : w3.cell? ⟨W.heap.size + 1, 0, none⟩ = _ := cob hBk3 0 rfl; have s1 : w3.cell? ⟨W.heap.size + 1, 1, none⟩ = _ := cob hBk3 1 rfl; have s2 : w3.cell? ⟨W.heap.size + 1, 2, none⟩ = _ := cob hBk3 2 rfl; have s3 : w3.cell? ⟨W.heap.size + 1, 3, none⟩ = _ := cob hBk3 3 rfl; have hfr3 : ∀ j, w3.frozen? ⟨W.heap.size + 1, j, none⟩ = false := (fun j => by simp [World.frozen?, hBk3]); have HBk3 := Lib.hid hBk3; clear hBk3))
    refine bodyPost_ret (results_c rfl _ _ (W.heap.size + 1) _ _ (0, 0) _ rfl (set4_same HBk3.out _ _ _ _) Tryz.underlying43 rfl Tryz.sizeRp) rfl ⟨⟨⟨0, rd, rv⟩, rfl, rfl⟩, ?_, ?_⟩
    · have h5 := hR'.frame hT3 (fun k hk => set4_other w3 (W.heap.size + 1) (.int .i64 0) (.bool rd) (.string rv) (.slice none 0 0) k (by
        rcases hk with hk | hk
        · have := hS k hk; omega
        · omega))
      exact hR'.mono h5 (fun k hk hl => by
        rcases hk with hk | hk
        · exact .inl hk
        · exact .inr ⟨by omega, hl⟩)
    · exact ((Turned.of_below HBW.out).trans hTu3).set4 (by omega) _ _ _ _
  · have el := HM5.out.look (P := Tryz.prog) (t := 262) (key := .int .i64 4) Tryz.underlying262 Tryz.underlying3 rfl false (v := .agg #[.func (.func 174) #[] #[]]) (by simp)
    simp only [Bool.false_eq_true, if_false] at el
    go_wp2_with (first | (go_at_call 174; refine HC.out.mono ?_; rintro e w3 ⟨⟨⟨re, rd, rv⟩, rfl, re0⟩, hT3, hTu3⟩; have re1 : re = 0 := re0; subst re1; clear re0; unfold rpv rpcells; simp only []; have hBk3 := (hTu3.block (W.heap.size + 1) (by omega) (fun h => by have := hS _ h; omega)).trans HB5.out; have s0 : w3.cell? ⟨W.heap.size + 1, 0, none⟩ = _ := cob hBk3 0 rfl; have s1 : w3.cell? ⟨W.heap.size + 1, 1, none⟩ = _ := cob hBk3 1 rfl; have s2 : w3.cell? ⟨W.heap.size + 1, 2, none⟩ = _ := cob hBk3 2 rfl; have s3 : w3.cell? ⟨W.heap.size + 1, 3, none⟩ = _ := cob hBk3 3 rfl; have hfr3 : ∀ j, w3.frozen? ⟨W.heap.size + 1, j, none⟩ = false := (fun j => by simp [World.frozen?, hBk3]); have HBk3 := Lib.hid hBk3; clear hBk3))
    refine bodyPost_ret (results_c rfl _ _ (W.heap.size + 1) _ _ (0, 0) _ rfl (set4_same HBk3.out _ _ _ _) Tryz.underlying43 rfl Tryz.sizeRp) rfl ⟨⟨⟨0, rd, rv⟩, rfl, rfl⟩, ?_, ?_⟩
    · have h5 := hR'.frame hT3 (fun k hk => set4_other w3 (W.heap.size + 1) (.int .i64 0) (.bool rd) (.string rv) (.slice none 0 0) k (by
        rcases hk with hk | hk
        · have := hS k hk; omega
        · omega))
      exact hR'.mono h5 (fun k hk hl => by
        rcases hk with hk | hk
        · exact .inl hk
        · exact .inr ⟨by omega, hl⟩)
    · exact ((Turned.of_below HBW.out).trans hTu3).set4 (by omega) _ _ _ _
  · have el := HM5.out.look (P := Tryz.prog) (t := 262) (key := .int .i64 5) Tryz.underlying262 Tryz.underlying3 rfl false (v := .agg #[.func (.func 175) #[] #[]]) (by simp)
    simp only [Bool.false_eq_true, if_false] at el
    go_wp2_with (first | (go_at_call 175; refine HC.out.mono ?_; rintro e w3 ⟨⟨⟨re, rd, rv⟩, rfl, re0⟩, hT3, hTu3⟩; have re1 : re = 0 := re0; subst re1; clear re0; unfold rpv rpcells; simp only []; have hBk3 := (hTu3.block (W.heap.size + 1) (by omega) (fun h => by have := hS _ h; omega)).trans HB5.out; have s0 : w3.cell? ⟨W.heap.size + 1, 0, none⟩ = _ := cob hBk3 0 rfl; have s1 : w3.cell? ⟨W.heap.size + 1, 1, none⟩ = _ := cob hBk3 1 rfl; have s2 : w3.cell? ⟨W.heap.size + 1, 2, none⟩ = _ := cob hBk3 2 rfl; have s3 : w3.cell? ⟨W.heap.size + 1, 3, none⟩ = _ := cob hBk3 3 rfl; have hfr3 : ∀ j, w3.frozen? ⟨W.heap.size + 1, j, none⟩ = false := (fun j => by simp [World.frozen?, hBk3]); have HBk3 := Lib.hid hBk3; clear hBk3))
    refine bodyPost_ret (results_c rfl _ _ (W.heap.size + 1) _ _ (0, 0) _ rfl (set4_same HBk3.out _ _ _ _) Tryz.underlying43 rfl Tryz.sizeRp) rfl ⟨⟨⟨0, rd, rv⟩, rfl, rfl⟩, ?_, ?_⟩
    · have h5 := hR'.frame hT3 (fun k hk => set4_other w3 (W.heap.size + 1) (.int .i64 0) (.bool rd) (.string rv) (.slice none 0 0) k (by
        rcases hk with hk | hk
        · have := hS k hk; omega
        · omega))
      exact hR'.mono h5 (fun k hk hl => by
        rcases hk with hk | hk
        · exact .inl hk
        · exact .inr ⟨by omega, hl⟩)
    · exact ((Turned.of_below HBW.out).trans hTu3).set4 (by omega) _ _ _ _
end Go.Proofs.YtoigogjmhkpdlaaGreat
