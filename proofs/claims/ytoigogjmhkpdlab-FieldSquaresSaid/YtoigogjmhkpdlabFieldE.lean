/- The walk of shardloglaw03's awake: what the document fixes is so. -/
import Derived.Test.YtoigogjmhkpdlabFieldD
namespace Go.Proofs.Ytoigogjmhkpdlab
open Go.RowKit
open Gf

/-! The contracts with the numbers' and the results' names free. -/
theorem mul_r (g a b r : Nat) (ha : a < 256) (hb : b < 256) (hr : mulN a b = r) (W : World) (hF : FieldAt W g) :
    Calls Try.prog 10 #[.pointer (some ⟨g, 0, none⟩), .int .u8 (a : Int), .int .u8 (b : Int)] W fun e W' => e = .returned (.int .u8 (r : Nat)) ∧ Dr W W' := by
  subst hr; exact mul_any g a b ha hb W hF
theorem inv_r (g a r : Nat) (ha : a < 256) (hr : invN a = r) (W : World) (hF : FieldAt W g) :
    Calls Try.prog 22 #[.pointer (some ⟨g, 0, none⟩), .int .u8 (a : Int)] W fun e W' => e = .returned (.int .u8 (r : Nat)) ∧ Dr W W' := by
  subst hr; exact inv_any g a ha W hF
theorem pow_r (g a : Nat) (x : Int) (m r : Nat) (ha : a < 256) (hx : x = (m : Int)) (hm : m ≤ 9223372036854775807) (hr : powN a m = r) (W : World) (hF : FieldAt W g) :
    Calls Try.prog 11 #[.pointer (some ⟨g, 0, none⟩), .int .u8 (a : Int), .int .i64 x] W fun e W' => e = .returned (.int .u8 (r : Nat)) ∧ Dr W W' := by
  subst hr; subst hx; exact pow_any g a m ha hm W hF
theorem div_r (g a b r : Nat) (ha : a < 256) (hb : b < 256) (hr : mulN a (invN b) = r) (W : World) (hF : FieldAt W g) :
    Calls Try.prog 21 #[.pointer (some ⟨g, 0, none⟩), .int .u8 (a : Int), .int .u8 (b : Int)] W fun e W' =>
      e = .returned (.tuple #[.int .u8 (r : Nat), .bool ((b : Int) != 0)]) ∧ Dr W W' := by
  subst hr; exact div_any g a b ha hb W hF

theorem mul_i (g : Nat) (x y : Int) (a b r : Nat) (hx : x = (a : Int)) (hy : y = (b : Int)) (ha : a < 256) (hb : b < 256) (hr : mulN a b = r) (W : World) (hF : FieldAt W g) :
    Calls Try.prog 10 #[.pointer (some ⟨g, 0, none⟩), .int .u8 x, .int .u8 y] W fun e W' => e = .returned (.int .u8 (r : Nat)) ∧ Dr W W' := by
  subst hr; subst hx; subst hy; exact mul_any g a b ha hb W hF

theorem awake03_any (W : World) :
    Calls Try.prog 9 #[] W fun e W' => e = .returned (.bool true) ∧ Below W.heap.size W W' := by
  have H1 := Lib.hid (show mulN 29 (invN 2) = 128 by unfold mulN invN pw expN logN; decide +kernel)
  have H2 := Lib.hid (show mulN 128 2 = 29 by unfold mulN pw expN logN; decide +kernel)
  have H3 := Lib.hid (show powN 2 8 = 29 by unfold powN pw expN logN; decide +kernel)
  have H4 := Lib.hid (show invN 1 = 1 by unfold invN pw expN logN; decide +kernel)
  go_enter Try.func9, Try.ntmps9
  go_wp2_with fail
  refine (field_new _).mono ?_
  rintro e w1 ⟨g, rfl, hF, hB⟩
  have hs := hB.size
  have HF := Lib.hid hF
  clear hF
  go_wp2_with fail
  refine (div_any g 29 2 (by decide) (by decide) _ HF.out).mono ?_
  rintro e w2 ⟨rfl, n1, rfl⟩
  rw [H1.out]
  go_wp2_with fail
  refine (div_any g 1 0 (by decide) (by decide) _ (HF.out.drewN _)).mono ?_
  rintro e w2 ⟨rfl, n2, rfl⟩
  go_wp2_with fail
  refine (mul_any g 128 2 (by decide) (by decide) _ (HF.out.drewN _)).mono ?_
  rintro e w2 ⟨rfl, n3, rfl⟩
  rw [H2.out]
  go_wp2_with fail
  refine (pow_any g 2 8 (by decide) (by decide) _ (HF.out.drewN _)).mono ?_
  rintro e w2 ⟨rfl, n4, rfl⟩
  rw [H3.out]
  go_wp2_with fail
  refine (inv_any g 1 (by decide) _ (HF.out.drewN _)).mono ?_
  rintro e w2 ⟨rfl, n5, rfl⟩
  rw [H4.out]
  go_wp2_with fail
  refine (row_any g 3 (by decide) _ [1, 2] 2 (by unfold Bytes; decide) (by decide) _ ((HF.out.drewN _).below ((Below.refl _ _).alloc (Nat.le_refl _) _)) (rd_new _ _ _ _ _ _ (by simp) rfl)).mono ?_
  rintro e w2 ⟨L, A, c, HL, rfl, ho, hb⟩
  have hlen : ((L.length : Int) == 2) = true := by rw [HL.out]; rfl
  go_wp2
  go_ret
  exact ⟨rfl, ((below_drewN hB).alloc hs _).trans (hb.mono (by simp; omega))⟩
end Go.Proofs.Ytoigogjmhkpdlab
