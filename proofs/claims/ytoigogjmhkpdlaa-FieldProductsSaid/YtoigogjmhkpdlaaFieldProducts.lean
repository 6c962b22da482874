/- The walk of FieldProducts. -/
import Derived.Test.YtoigogjmhkpdlaaFieldE
namespace Go.Proofs.Ytoigogjmhkpdlaa
open Go.RowKit
open Gf

set_option maxRecDepth 100000 in
theorem fieldProducts_any (a b : Nat) (ha : a < 256) (hb : b < 256) (W : World) :
    Calls Try.prog 7 #[.int .u8 (a : Int), .int .u8 (b : Int)] W fun e W' => e = .returned (.bool true) ∧ Below W.heap.size W W' := by
  have hib := invN_lt b
  go_enter Try.func7, Try.ntmps7
  go_wp2_with (first
    | (go_at_call 17; refine (field_new _).mono ?_; rintro e w1 ⟨g, rfl, hF0, hB0⟩; have HF0 := Lib.hid hF0; clear hF0)
    | (go_at_call 18; refine (awake03_any _).mono ?_; rintro e w2 ⟨rfl, hB1⟩; have HF := Lib.hid (HF0.out.below hB1); have hB := below_next hB0 hB1)
    | (go_at_call 19; refine (div_any g a b ha hb _ (HF.out.drewN 0)).mono ?_; rintro e w3 ⟨rfl, n1, rfl⟩)
    | (go_at_call 21; first | ((with_reducible refine (refinv_any a ha _).mono ?_); rintro e w4 ⟨rfl, rfl⟩) | ((with_reducible refine (refinv_any b hb _).mono ?_); rintro e w4 ⟨rfl, rfl⟩))
    | (go_at_call 20; first | ((with_reducible refine (refmul_any a b ha hb _).mono ?_); rintro e w4 ⟨rfl, rfl⟩) | ((with_reducible refine (refmul_any a (invN b) ha hib _).mono ?_); rintro e w4 ⟨rfl, rfl⟩))
    | (go_at_call 22; refine (mul_any g a b ha hb _ (HF.out.drewN _)).mono ?_; rintro e w5 ⟨rfl, n2, rfl⟩)
    | (go_at_call 23; refine (inv_any g a ha _ (HF.out.drewN _)).mono ?_; rintro e w6 ⟨rfl, n3, rfl⟩))
  go_ret
  exact ⟨rfl, below_drewN hB⟩
end Go.Proofs.Ytoigogjmhkpdlaa
