/- The walk of FieldSquares. -/
import Derived.Test.YtoigogjmhkpdlabFieldE
namespace Go.Proofs.Ytoigogjmhkpdlab
open Go.RowKit
open Gf

theorem sqN_none (a : Nat) : sqN 0 a = a := rfl
theorem sqN_succ (n a : Nat) : sqN (n + 1) a = mulN (sqN n a) (sqN n a) := rfl

set_option maxRecDepth 100000 in
set_option maxHeartbeats 1600000 in
theorem fieldSquares_any (a b : Nat) (ha : a < 256) (hb : b < 256) (W : World) :
    Calls Try.prog 3 #[.int .u8 (a : Int), .int .u8 (b : Int)] W fun e W' => e = .returned (.bool true) ∧ Below W.heap.size W W' := by
  have hx := xor_lt ha hb
  have hpa := powN_lt a 2
  have hpb := powN_lt b 2
  have HS := Lib.hid (square_xor a b ha hb)
  have HP := Lib.hid (powN_256 a ha)
  have HE := Lib.hid (sqN_eight a ha)
  have hq1 : bits .xor .u8 (a : Int) (b : Int) = ((a ^^^ b : Nat) : Int) := u8_xor_nat a b ha hb
  have hq2 : bits .xor .u8 ((powN a 2 : Nat) : Int) ((powN b 2 : Nat) : Int) = ((powN a 2 ^^^ powN b 2 : Nat) : Int) := u8_xor_nat _ _ hpa hpb
  go_enter Try.func3, Try.ntmps3
  go_wp2_with (first
    | (go_at_call 8; refine (field_new _).mono ?_; rintro e w1 ⟨g, rfl, hF0, hB0⟩; have HF0 := Lib.hid hF0; clear hF0)
    | (go_at_call 9; refine (awake03_any _).mono ?_; rintro e w2 ⟨rfl, hB1⟩; have HF := Lib.hid (HF0.out.below hB1); have hB := below_next hB0 hB1))
  go_loopw [6, 7] (fun x i wr => ∃ k n : Nat, k ≤ 8 ∧ i = .int .i64 k ∧ x = .int .u8 (sqN k a : Nat) ∧ wr = w2.drewN n) (fun _ i _ => 8 - (intOf i).toNat)
  case atStart => exact ⟨0, 0, by omega, rfl, by rw [sqN_none], rfl⟩
  case round =>
    obtain ⟨k, n, hk, rfl, rfl, rfl⟩ := hrel
    have hsl := sqN_lt k a ha
    by_cases hk8 : k < 8
    · have HN := Lib.hid (sqN_succ k a).symm
      go_wp2_with (go_at_call 10; refine (mul_r g _ _ _ hsl hsl HN.out _ (HF.out.drewN _)).mono ?_; rintro e w5 ⟨rfl, n2, rfl⟩)
      go_roundw
      case rel => exact ⟨k + 1, _, by omega, by go_num, rfl, rfl⟩
      case measure => simp [intOf]; omega
    · have HQ := Lib.hid (show sqN k a = a by rw [show k = 8 by omega]; exact HE.out)
      have hz1 : (((sqN k a : Nat) : Int) == (a : Int)) = true := by rw [HQ.out]; simp
      go_wp2_with (go_at_call 11; first
        | ((with_reducible refine (pow_r g (a ^^^ b) _ 2 _ hx (by decide) (by decide) HS.out _ (HF.out.drewN _)).mono ?_); rintro e w5 ⟨rfl, n2, rfl⟩)
        | ((with_reducible refine (pow_r g a _ 2 _ ha (by decide) (by decide) rfl _ (HF.out.drewN _)).mono ?_); rintro e w5 ⟨rfl, n2, rfl⟩)
        | ((with_reducible refine (pow_r g b _ 2 _ hb (by decide) (by decide) rfl _ (HF.out.drewN _)).mono ?_); rintro e w5 ⟨rfl, n2, rfl⟩)
        | ((with_reducible refine (pow_r g a _ 256 _ ha (by decide) (by decide) HP.out _ (HF.out.drewN _)).mono ?_); rintro e w5 ⟨rfl, n2, rfl⟩))
      go_ret
      exact ⟨rfl, below_drewN hB⟩
end Go.Proofs.Ytoigogjmhkpdlab
