/- The walk of FieldRules. -/
import Derived.Test.YtoigogjmhkpdlaaFieldE
namespace Go.Proofs.Ytoigogjmhkpdlaa
open Go.RowKit
open Gf

set_option maxRecDepth 100000 in
set_option maxHeartbeats 6400000 in
theorem fieldRules_any (a b c : Nat) (ha : a < 256) (hb : b < 256) (hc : c < 256) (W : World) :
    Calls Try.prog 9 #[.int .u8 (a : Int), .int .u8 (b : Int), .int .u8 (c : Int)] W fun e W' => e = .returned (.bool true) ∧ Below W.heap.size W W' := by
  have hab := mulN_lt a b
  have hac := mulN_lt a c
  have hbc := mulN_lt b c
  have hx := xor_lt hb hc
  have hia := invN_lt a
  have HX := Lib.hid (mulN_xor a b c hb hc)
  have HO := Lib.hid (mulN_one a ha)
  have HZ := Lib.hid (mulN_zero a)
  have HII := Lib.hid (inv_inv a ha)
  have hq1 : bits .xor .u8 (b : Int) (c : Int) = ((b ^^^ c : Nat) : Int) := u8_xor_nat b c hb hc
  have hq2 : bits .xor .u8 ((mulN a b : Nat) : Int) ((mulN a c : Nat) : Int) = ((mulN a b ^^^ mulN a c : Nat) : Int) := u8_xor_nat _ _ hab hac
  by_cases hb0 : b = 0
  · have hzb : ((b : Int) != 0) = false := by rw [hb0]; rfl
    have hzb1 : ((b : Int) == 0) = true := by rw [hb0]; rfl
    have HD := Lib.hid (show mulN (mulN a b) (invN b) = 0 by rw [hb0, mulN_zero, mulN_zero'])
    clear hb0
    by_cases ha0 : a = 0
    · have hza : ((a : Int) != 0) = false := by rw [ha0]; rfl
      clear ha0
      go_enter Try.func9, Try.ntmps9
      go_wp2_with (first
        | (go_at_call 17; refine (field_new _).mono ?_; rintro e w1 ⟨g, rfl, hF0, hB0⟩; have HF0 := Lib.hid hF0; clear hF0)
        | (go_at_call 18; refine (awake03_any _).mono ?_; rintro e w2 ⟨rfl, hB1⟩; have HF := Lib.hid (HF0.out.below hB1); have hB := below_next hB0 hB1)
        | (go_at_call 22; first | ((refine (mul_i g _ _ a b (mulN a b) (by first | with_reducible rfl | decide) (by first | with_reducible rfl | decide) ha hb rfl _ (by first | (with_reducible exact HF.out) | exact HF.out.drewN _)).mono ?_); rintro e w5 ⟨rfl, n2, rfl⟩) | ((refine (mul_i g _ _ b a (mulN a b) (by first | with_reducible rfl | decide) (by first | with_reducible rfl | decide) hb ha (mulN_comm b a) _ (by first | (with_reducible exact HF.out) | exact HF.out.drewN _)).mono ?_); rintro e w5 ⟨rfl, n2, rfl⟩) | ((refine (mul_i g _ _ (mulN a b) c (mulN a (mulN b c)) (by first | with_reducible rfl | decide) (by first | with_reducible rfl | decide) hab hc (mulN_assoc a b c) _ (by first | (with_reducible exact HF.out) | exact HF.out.drewN _)).mono ?_); rintro e w5 ⟨rfl, n2, rfl⟩) | ((refine (mul_i g _ _ b c (mulN b c) (by first | with_reducible rfl | decide) (by first | with_reducible rfl | decide) hb hc rfl _ (by first | (with_reducible exact HF.out) | exact HF.out.drewN _)).mono ?_); rintro e w5 ⟨rfl, n2, rfl⟩) | ((refine (mul_i g _ _ a (mulN b c) (mulN a (mulN b c)) (by first | with_reducible rfl | decide) (by first | with_reducible rfl | decide) ha hbc rfl _ (by first | (with_reducible exact HF.out) | exact HF.out.drewN _)).mono ?_); rintro e w5 ⟨rfl, n2, rfl⟩) | ((refine (mul_i g _ _ a (b ^^^ c) (mulN a b ^^^ mulN a c) (by first | with_reducible rfl | decide) (by first | with_reducible rfl | decide) ha hx HX.out _ (by first | (with_reducible exact HF.out) | exact HF.out.drewN _)).mono ?_); rintro e w5 ⟨rfl, n2, rfl⟩) | ((refine (mul_i g _ _ a c (mulN a c) (by first | with_reducible rfl | decide) (by first | with_reducible rfl | decide) ha hc rfl _ (by first | (with_reducible exact HF.out) | exact HF.out.drewN _)).mono ?_); rintro e w5 ⟨rfl, n2, rfl⟩) | ((refine (mul_i g _ _ a 1 a (by first | with_reducible rfl | decide) (by first | with_reducible rfl | decide) ha (by decide) HO.out _ (by first | (with_reducible exact HF.out) | exact HF.out.drewN _)).mono ?_); rintro e w5 ⟨rfl, n2, rfl⟩) | ((refine (mul_i g _ _ a 0 0 (by first | with_reducible rfl | decide) (by first | with_reducible rfl | decide) ha (by decide) HZ.out _ (by first | (with_reducible exact HF.out) | exact HF.out.drewN _)).mono ?_); rintro e w5 ⟨rfl, n2, rfl⟩))
        | (go_at_call 23; first | ((with_reducible refine (inv_r g a (invN a) ha rfl _ (by first | (with_reducible exact HF.out) | exact HF.out.drewN _)).mono ?_); rintro e w5 ⟨rfl, n2, rfl⟩) | ((with_reducible refine (inv_r g (invN a) a hia HII.out _ (by first | (with_reducible exact HF.out) | exact HF.out.drewN _)).mono ?_); rintro e w5 ⟨rfl, n2, rfl⟩))
        | (go_at_call 19; refine (div_r g (mulN a b) b 0 hab hb HD.out _ (by first | (with_reducible exact HF.out) | exact HF.out.drewN _)).mono ?_; rintro e w5 ⟨rfl, n2, rfl⟩))
      go_ret
      exact ⟨rfl, below_drewN hB⟩
    · have hza : ((a : Int) != 0) = true := by rw [bne_iff_ne]; omega
      have HI := Lib.hid (mulN_inv a ha (by omega))
      clear ha0
      go_enter Try.func9, Try.ntmps9
      go_wp2_with (first
        | (go_at_call 17; refine (field_new _).mono ?_; rintro e w1 ⟨g, rfl, hF0, hB0⟩; have HF0 := Lib.hid hF0; clear hF0)
        | (go_at_call 18; refine (awake03_any _).mono ?_; rintro e w2 ⟨rfl, hB1⟩; have HF := Lib.hid (HF0.out.below hB1); have hB := below_next hB0 hB1)
        | (go_at_call 22; first | ((refine (mul_i g _ _ a b (mulN a b) (by first | with_reducible rfl | decide) (by first | with_reducible rfl | decide) ha hb rfl _ (by first | (with_reducible exact HF.out) | exact HF.out.drewN _)).mono ?_); rintro e w5 ⟨rfl, n2, rfl⟩) | ((refine (mul_i g _ _ b a (mulN a b) (by first | with_reducible rfl | decide) (by first | with_reducible rfl | decide) hb ha (mulN_comm b a) _ (by first | (with_reducible exact HF.out) | exact HF.out.drewN _)).mono ?_); rintro e w5 ⟨rfl, n2, rfl⟩) | ((refine (mul_i g _ _ (mulN a b) c (mulN a (mulN b c)) (by first | with_reducible rfl | decide) (by first | with_reducible rfl | decide) hab hc (mulN_assoc a b c) _ (by first | (with_reducible exact HF.out) | exact HF.out.drewN _)).mono ?_); rintro e w5 ⟨rfl, n2, rfl⟩) | ((refine (mul_i g _ _ b c (mulN b c) (by first | with_reducible rfl | decide) (by first | with_reducible rfl | decide) hb hc rfl _ (by first | (with_reducible exact HF.out) | exact HF.out.drewN _)).mono ?_); rintro e w5 ⟨rfl, n2, rfl⟩) | ((refine (mul_i g _ _ a (mulN b c) (mulN a (mulN b c)) (by first | with_reducible rfl | decide) (by first | with_reducible rfl | decide) ha hbc rfl _ (by first | (with_reducible exact HF.out) | exact HF.out.drewN _)).mono ?_); rintro e w5 ⟨rfl, n2, rfl⟩) | ((refine (mul_i g _ _ a (b ^^^ c) (mulN a b ^^^ mulN a c) (by first | with_reducible rfl | decide) (by first | with_reducible rfl | decide) ha hx HX.out _ (by first | (with_reducible exact HF.out) | exact HF.out.drewN _)).mono ?_); rintro e w5 ⟨rfl, n2, rfl⟩) | ((refine (mul_i g _ _ a c (mulN a c) (by first | with_reducible rfl | decide) (by first | with_reducible rfl | decide) ha hc rfl _ (by first | (with_reducible exact HF.out) | exact HF.out.drewN _)).mono ?_); rintro e w5 ⟨rfl, n2, rfl⟩) | ((refine (mul_i g _ _ a 1 a (by first | with_reducible rfl | decide) (by first | with_reducible rfl | decide) ha (by decide) HO.out _ (by first | (with_reducible exact HF.out) | exact HF.out.drewN _)).mono ?_); rintro e w5 ⟨rfl, n2, rfl⟩) | ((refine (mul_i g _ _ a 0 0 (by first | with_reducible rfl | decide) (by first | with_reducible rfl | decide) ha (by decide) HZ.out _ (by first | (with_reducible exact HF.out) | exact HF.out.drewN _)).mono ?_); rintro e w5 ⟨rfl, n2, rfl⟩) | ((refine (mul_i g _ _ a (invN a) 1 (by first | with_reducible rfl | decide) (by first | with_reducible rfl | decide) ha hia HI.out _ (by first | (with_reducible exact HF.out) | exact HF.out.drewN _)).mono ?_); rintro e w5 ⟨rfl, n2, rfl⟩))
        | (go_at_call 23; first | ((with_reducible refine (inv_r g a (invN a) ha rfl _ (by first | (with_reducible exact HF.out) | exact HF.out.drewN _)).mono ?_); rintro e w5 ⟨rfl, n2, rfl⟩) | ((with_reducible refine (inv_r g (invN a) a hia HII.out _ (by first | (with_reducible exact HF.out) | exact HF.out.drewN _)).mono ?_); rintro e w5 ⟨rfl, n2, rfl⟩))
        | (go_at_call 19; refine (div_r g (mulN a b) b 0 hab hb HD.out _ (by first | (with_reducible exact HF.out) | exact HF.out.drewN _)).mono ?_; rintro e w5 ⟨rfl, n2, rfl⟩))
      go_ret
      exact ⟨rfl, below_drewN hB⟩
  · have hzb : ((b : Int) != 0) = true := by rw [bne_iff_ne]; omega
    have HD := Lib.hid (mul_div a b ha hb (by omega))
    clear hb0
    by_cases ha0 : a = 0
    · have hza : ((a : Int) != 0) = false := by rw [ha0]; rfl
      clear ha0
      go_enter Try.func9, Try.ntmps9
      go_wp2_with (first
        | (go_at_call 17; refine (field_new _).mono ?_; rintro e w1 ⟨g, rfl, hF0, hB0⟩; have HF0 := Lib.hid hF0; clear hF0)
        | (go_at_call 18; refine (awake03_any _).mono ?_; rintro e w2 ⟨rfl, hB1⟩; have HF := Lib.hid (HF0.out.below hB1); have hB := below_next hB0 hB1)
        | (go_at_call 22; first | ((refine (mul_i g _ _ a b (mulN a b) (by first | with_reducible rfl | decide) (by first | with_reducible rfl | decide) ha hb rfl _ (by first | (with_reducible exact HF.out) | exact HF.out.drewN _)).mono ?_); rintro e w5 ⟨rfl, n2, rfl⟩) | ((refine (mul_i g _ _ b a (mulN a b) (by first | with_reducible rfl | decide) (by first | with_reducible rfl | decide) hb ha (mulN_comm b a) _ (by first | (with_reducible exact HF.out) | exact HF.out.drewN _)).mono ?_); rintro e w5 ⟨rfl, n2, rfl⟩) | ((refine (mul_i g _ _ (mulN a b) c (mulN a (mulN b c)) (by first | with_reducible rfl | decide) (by first | with_reducible rfl | decide) hab hc (mulN_assoc a b c) _ (by first | (with_reducible exact HF.out) | exact HF.out.drewN _)).mono ?_); rintro e w5 ⟨rfl, n2, rfl⟩) | ((refine (mul_i g _ _ b c (mulN b c) (by first | with_reducible rfl | decide) (by first | with_reducible rfl | decide) hb hc rfl _ (by first | (with_reducible exact HF.out) | exact HF.out.drewN _)).mono ?_); rintro e w5 ⟨rfl, n2, rfl⟩) | ((refine (mul_i g _ _ a (mulN b c) (mulN a (mulN b c)) (by first | with_reducible rfl | decide) (by first | with_reducible rfl | decide) ha hbc rfl _ (by first | (with_reducible exact HF.out) | exact HF.out.drewN _)).mono ?_); rintro e w5 ⟨rfl, n2, rfl⟩) | ((refine (mul_i g _ _ a (b ^^^ c) (mulN a b ^^^ mulN a c) (by first | with_reducible rfl | decide) (by first | with_reducible rfl | decide) ha hx HX.out _ (by first | (with_reducible exact HF.out) | exact HF.out.drewN _)).mono ?_); rintro e w5 ⟨rfl, n2, rfl⟩) | ((refine (mul_i g _ _ a c (mulN a c) (by first | with_reducible rfl | decide) (by first | with_reducible rfl | decide) ha hc rfl _ (by first | (with_reducible exact HF.out) | exact HF.out.drewN _)).mono ?_); rintro e w5 ⟨rfl, n2, rfl⟩) | ((refine (mul_i g _ _ a 1 a (by first | with_reducible rfl | decide) (by first | with_reducible rfl | decide) ha (by decide) HO.out _ (by first | (with_reducible exact HF.out) | exact HF.out.drewN _)).mono ?_); rintro e w5 ⟨rfl, n2, rfl⟩) | ((refine (mul_i g _ _ a 0 0 (by first | with_reducible rfl | decide) (by first | with_reducible rfl | decide) ha (by decide) HZ.out _ (by first | (with_reducible exact HF.out) | exact HF.out.drewN _)).mono ?_); rintro e w5 ⟨rfl, n2, rfl⟩))
        | (go_at_call 23; first | ((with_reducible refine (inv_r g a (invN a) ha rfl _ (by first | (with_reducible exact HF.out) | exact HF.out.drewN _)).mono ?_); rintro e w5 ⟨rfl, n2, rfl⟩) | ((with_reducible refine (inv_r g (invN a) a hia HII.out _ (by first | (with_reducible exact HF.out) | exact HF.out.drewN _)).mono ?_); rintro e w5 ⟨rfl, n2, rfl⟩))
        | (go_at_call 19; refine (div_r g (mulN a b) b a hab hb HD.out _ (by first | (with_reducible exact HF.out) | exact HF.out.drewN _)).mono ?_; rintro e w5 ⟨rfl, n2, rfl⟩))
      go_ret
      exact ⟨rfl, below_drewN hB⟩
    · have hza : ((a : Int) != 0) = true := by rw [bne_iff_ne]; omega
      have HI := Lib.hid (mulN_inv a ha (by omega))
      clear ha0
      go_enter Try.func9, Try.ntmps9
      go_wp2_with (first
        | (go_at_call 17; refine (field_new _).mono ?_; rintro e w1 ⟨g, rfl, hF0, hB0⟩; have HF0 := Lib.hid hF0; clear hF0)
        | (go_at_call 18; refine (awake03_any _).mono ?_; rintro e w2 ⟨rfl, hB1⟩; have HF := Lib.hid (HF0.out.below hB1); have hB := below_next hB0 hB1)
        | (go_at_call 22; first | ((refine (mul_i g _ _ a b (mulN a b) (by first | with_reducible rfl | decide) (by first | with_reducible rfl | decide) ha hb rfl _ (by first | (with_reducible exact HF.out) | exact HF.out.drewN _)).mono ?_); rintro e w5 ⟨rfl, n2, rfl⟩) | ((refine (mul_i g _ _ b a (mulN a b) (by first | with_reducible rfl | decide) (by first | with_reducible rfl | decide) hb ha (mulN_comm b a) _ (by first | (with_reducible exact HF.out) | exact HF.out.drewN _)).mono ?_); rintro e w5 ⟨rfl, n2, rfl⟩) | ((refine (mul_i g _ _ (mulN a b) c (mulN a (mulN b c)) (by first | with_reducible rfl | decide) (by first | with_reducible rfl | decide) hab hc (mulN_assoc a b c) _ (by first | (with_reducible exact HF.out) | exact HF.out.drewN _)).mono ?_); rintro e w5 ⟨rfl, n2, rfl⟩) | ((refine (mul_i g _ _ b c (mulN b c) (by first | with_reducible rfl | decide) (by first | with_reducible rfl | decide) hb hc rfl _ (by first | (with_reducible exact HF.out) | exact HF.out.drewN _)).mono ?_); rintro e w5 ⟨rfl, n2, rfl⟩) | ((refine (mul_i g _ _ a (mulN b c) (mulN a (mulN b c)) (by first | with_reducible rfl | decide) (by first | with_reducible rfl | decide) ha hbc rfl _ (by first | (with_reducible exact HF.out) | exact HF.out.drewN _)).mono ?_); rintro e w5 ⟨rfl, n2, rfl⟩) | ((refine (mul_i g _ _ a (b ^^^ c) (mulN a b ^^^ mulN a c) (by first | with_reducible rfl | decide) (by first | with_reducible rfl | decide) ha hx HX.out _ (by first | (with_reducible exact HF.out) | exact HF.out.drewN _)).mono ?_); rintro e w5 ⟨rfl, n2, rfl⟩) | ((refine (mul_i g _ _ a c (mulN a c) (by first | with_reducible rfl | decide) (by first | with_reducible rfl | decide) ha hc rfl _ (by first | (with_reducible exact HF.out) | exact HF.out.drewN _)).mono ?_); rintro e w5 ⟨rfl, n2, rfl⟩) | ((refine (mul_i g _ _ a 1 a (by first | with_reducible rfl | decide) (by first | with_reducible rfl | decide) ha (by decide) HO.out _ (by first | (with_reducible exact HF.out) | exact HF.out.drewN _)).mono ?_); rintro e w5 ⟨rfl, n2, rfl⟩) | ((refine (mul_i g _ _ a 0 0 (by first | with_reducible rfl | decide) (by first | with_reducible rfl | decide) ha (by decide) HZ.out _ (by first | (with_reducible exact HF.out) | exact HF.out.drewN _)).mono ?_); rintro e w5 ⟨rfl, n2, rfl⟩) | ((refine (mul_i g _ _ a (invN a) 1 (by first | with_reducible rfl | decide) (by first | with_reducible rfl | decide) ha hia HI.out _ (by first | (with_reducible exact HF.out) | exact HF.out.drewN _)).mono ?_); rintro e w5 ⟨rfl, n2, rfl⟩))
        | (go_at_call 23; first | ((with_reducible refine (inv_r g a (invN a) ha rfl _ (by first | (with_reducible exact HF.out) | exact HF.out.drewN _)).mono ?_); rintro e w5 ⟨rfl, n2, rfl⟩) | ((with_reducible refine (inv_r g (invN a) a hia HII.out _ (by first | (with_reducible exact HF.out) | exact HF.out.drewN _)).mono ?_); rintro e w5 ⟨rfl, n2, rfl⟩))
        | (go_at_call 19; refine (div_r g (mulN a b) b a hab hb HD.out _ (by first | (with_reducible exact HF.out) | exact HF.out.drewN _)).mono ?_; rintro e w5 ⟨rfl, n2, rfl⟩))
      go_ret
      exact ⟨rfl, below_drewN hB⟩
end Go.Proofs.Ytoigogjmhkpdlaa
