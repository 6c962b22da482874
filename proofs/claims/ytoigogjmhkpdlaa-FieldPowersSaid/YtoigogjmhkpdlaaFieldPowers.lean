/- The walk of FieldPowers. -/
import Derived.Test.YtoigogjmhkpdlaaFieldE
namespace Go.Proofs.Ytoigogjmhkpdlaa
open Go.RowKit
open Gf

set_option maxRecDepth 100000 in
set_option maxHeartbeats 1600000 in
theorem fieldPowers_any (a n : Nat) (more : Int) (ha : a < 256) (hn : n < 65536) (h1 : -9223372036854775808 ≤ more) (h2 : more ≤ 9223372036854775807) (W : World) :
    Calls Try.prog 8 #[.int .u8 (a : Int), .int .u16 (n : Int), .int .i64 more] W fun e W' => e = .returned (.bool true) ∧ Below W.heap.size W W' := by
  obtain ⟨k, hk, hk6⟩ : ∃ k : Nat, (n : Int) % 600 = (k : Int) ∧ k < 600 := ⟨n % 600, by omega, by omega⟩
  have hpl := powN_lt a k
  have HM := Lib.hid (powN_succ a k ha).symm
  by_cases hm : more < 1
  · have hd1 : decide (more < 1) = true := by simp; omega
    by_cases h0 : a = 0
    · have hz : ((a : Int) != 0) = false := by rw [h0]; rfl
      clear h0
      go_enter Try.func8, Try.ntmps8
      go_wp2_with (first
        |    (go_at_call 17; refine (field_new _).mono ?_; rintro e w1 ⟨g, rfl, hF0, hB0⟩; have HF0 := Lib.hid hF0; clear hF0)
        | (go_at_call 18; refine (awake03_any _).mono ?_; rintro e w2 ⟨rfl, hB1⟩; have HF := Lib.hid (HF0.out.below hB1); have hB := below_next hB0 hB1)
        | (go_at_call 24; first | (refine (pow_r g a _ k _ ha (by omega) (by omega) rfl _ (by first | (with_reducible exact HF.out) | exact HF.out.drewN _)).mono ?_; rintro e w3 ⟨rfl, n1, rfl⟩) | (refine (pow_r g a _ (k + 1) _ ha (by omega) (by omega) rfl _ (by first | (with_reducible exact HF.out) | exact HF.out.drewN _)).mono ?_; rintro e w3 ⟨rfl, n1, rfl⟩))
        | (go_at_call 22; refine (mul_r g _ a _ hpl ha HM.out _ (by first | (with_reducible exact HF.out) | exact HF.out.drewN _)).mono ?_; rintro e w5 ⟨rfl, n2, rfl⟩)
        | (go_at_call 25; first | (refine (refpow_r a _ k _ ha (by omega) (by omega) rfl _).mono ?_; rintro e w4 ⟨rfl, rfl⟩)))
      go_ret
      exact ⟨rfl, below_drewN hB⟩
    · have hz : ((a : Int) != 0) = true := by rw [bne_iff_ne]; omega
      have HR := Lib.hid (powN_round a k (by omega))
      clear h0
      go_enter Try.func8, Try.ntmps8
      go_wp2_with (first
        |    (go_at_call 17; refine (field_new _).mono ?_; rintro e w1 ⟨g, rfl, hF0, hB0⟩; have HF0 := Lib.hid hF0; clear hF0)
        | (go_at_call 18; refine (awake03_any _).mono ?_; rintro e w2 ⟨rfl, hB1⟩; have HF := Lib.hid (HF0.out.below hB1); have hB := below_next hB0 hB1)
        | (go_at_call 24; first | (refine (pow_r g a _ k _ ha (by omega) (by omega) rfl _ (by first | (with_reducible exact HF.out) | exact HF.out.drewN _)).mono ?_; rintro e w3 ⟨rfl, n1, rfl⟩) | (refine (pow_r g a _ (k + 1) _ ha (by omega) (by omega) rfl _ (by first | (with_reducible exact HF.out) | exact HF.out.drewN _)).mono ?_; rintro e w3 ⟨rfl, n1, rfl⟩) | (refine (pow_r g a _ (k + 255) _ ha (by omega) (by omega) HR.out _ (by first | (with_reducible exact HF.out) | exact HF.out.drewN _)).mono ?_; rintro e w3 ⟨rfl, n1, rfl⟩))
        | (go_at_call 22; refine (mul_r g _ a _ hpl ha HM.out _ (by first | (with_reducible exact HF.out) | exact HF.out.drewN _)).mono ?_; rintro e w5 ⟨rfl, n2, rfl⟩)
        | (go_at_call 25; first | (refine (refpow_r a _ k _ ha (by omega) (by omega) rfl _).mono ?_; rintro e w4 ⟨rfl, rfl⟩)))
      go_ret
      exact ⟨rfl, below_drewN hB⟩
  · have hd1 : decide (more < 1) = false := by simp; omega
    by_cases h0 : a = 0
    · have hz : ((a : Int) != 0) = false := by rw [h0]; rfl
      have hz1 : ((a : Int) == 0) = true := by rw [h0]; rfl
      have HQ := Lib.hid (show powN a more.toNat = 0 by rw [h0]; exact powN_nought _ (by omega))
      clear h0
      go_enter Try.func8, Try.ntmps8
      go_wp2_with (first
        |    (go_at_call 17; refine (field_new _).mono ?_; rintro e w1 ⟨g, rfl, hF0, hB0⟩; have HF0 := Lib.hid hF0; clear hF0)
        | (go_at_call 18; refine (awake03_any _).mono ?_; rintro e w2 ⟨rfl, hB1⟩; have HF := Lib.hid (HF0.out.below hB1); have hB := below_next hB0 hB1)
        | (go_at_call 24; first | (refine (pow_r g a _ k _ ha (by omega) (by omega) rfl _ (by first | (with_reducible exact HF.out) | exact HF.out.drewN _)).mono ?_; rintro e w3 ⟨rfl, n1, rfl⟩) | (refine (pow_r g a _ (k + 1) _ ha (by omega) (by omega) rfl _ (by first | (with_reducible exact HF.out) | exact HF.out.drewN _)).mono ?_; rintro e w3 ⟨rfl, n1, rfl⟩) | (refine (pow_r g a _ more.toNat _ ha (by omega) (by omega) HQ.out _ (by first | (with_reducible exact HF.out) | exact HF.out.drewN _)).mono ?_; rintro e w3 ⟨rfl, n1, rfl⟩))
        | (go_at_call 22; refine (mul_r g _ a _ hpl ha HM.out _ (by first | (with_reducible exact HF.out) | exact HF.out.drewN _)).mono ?_; rintro e w5 ⟨rfl, n2, rfl⟩)
        | (go_at_call 25; first | (refine (refpow_r a _ k _ ha (by omega) (by omega) rfl _).mono ?_; rintro e w4 ⟨rfl, rfl⟩)))
      go_ret
      exact ⟨rfl, below_drewN hB⟩
    · have hz : ((a : Int) != 0) = true := by rw [bne_iff_ne]; omega
      have hz1 : ((a : Int) == 0) = false := by rw [beq_eq_false_iff_ne]; omega
      have HR := Lib.hid (powN_round a k (by omega))
      have HQ := Lib.hid (powN_mod a more.toNat (by omega))
      clear h0
      go_enter Try.func8, Try.ntmps8
      go_wp2_with (first
        |    (go_at_call 17; refine (field_new _).mono ?_; rintro e w1 ⟨g, rfl, hF0, hB0⟩; have HF0 := Lib.hid hF0; clear hF0)
        | (go_at_call 18; refine (awake03_any _).mono ?_; rintro e w2 ⟨rfl, hB1⟩; have HF := Lib.hid (HF0.out.below hB1); have hB := below_next hB0 hB1)
        | (go_at_call 24; first | (refine (pow_r g a _ k _ ha (by omega) (by omega) rfl _ (by first | (with_reducible exact HF.out) | exact HF.out.drewN _)).mono ?_; rintro e w3 ⟨rfl, n1, rfl⟩) | (refine (pow_r g a _ (k + 1) _ ha (by omega) (by omega) rfl _ (by first | (with_reducible exact HF.out) | exact HF.out.drewN _)).mono ?_; rintro e w3 ⟨rfl, n1, rfl⟩) | (refine (pow_r g a _ (k + 255) _ ha (by omega) (by omega) HR.out _ (by first | (with_reducible exact HF.out) | exact HF.out.drewN _)).mono ?_; rintro e w3 ⟨rfl, n1, rfl⟩) | (refine (pow_r g a _ more.toNat _ ha (by omega) (by omega) HQ.out _ (by first | (with_reducible exact HF.out) | exact HF.out.drewN _)).mono ?_; rintro e w3 ⟨rfl, n1, rfl⟩))
        | (go_at_call 22; refine (mul_r g _ a _ hpl ha HM.out _ (by first | (with_reducible exact HF.out) | exact HF.out.drewN _)).mono ?_; rintro e w5 ⟨rfl, n2, rfl⟩)
        | (go_at_call 25; first | (refine (refpow_r a _ k _ ha (by omega) (by omega) rfl _).mono ?_; rintro e w4 ⟨rfl, rfl⟩) | (refine (refpow_r a _ (more.toNat % 255) _ ha (by omega) (by omega) rfl _).mono ?_; rintro e w4 ⟨rfl, rfl⟩)))
      go_ret
      exact ⟨rfl, below_drewN hB⟩
end Go.Proofs.Ytoigogjmhkpdlaa
