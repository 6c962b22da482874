/- The walk of the statements' awake: what the document fixes is so. -/
import Derived.Test.YtoigogjmhkpdlaaCheckB
import Derived.Lib.SmallJoins
namespace Go.Proofs.Ytoigogjmhkpdlaa
open Go.RowKit
open Crc

theorem awake02_any (W : World) :
    Calls Try.prog 12 #[] W fun e W' => e = .returned (.bool true) ∧ Below W.heap.size W W' := by
  have kc := fun (w : World) (C : Array Value) (n c g : Nat) (hg : g = w.heap.size) => Joins.run_convert_bytes_const_at (P := Try.prog) w 22 5 C n c g hg Try.underlying22 Try.underlying5
  have H1 := Lib.hid (show sumN [49, 50, 51, 52, 53, 54, 55, 56, 57] = 3808858755 by decide +kernel)
  have H2 := Lib.hid (show moreN (sumN [49, 50, 51, 52]) [53, 54, 55, 56, 57] = 3808858755 by decide +kernel)
  have H3 := Lib.hid (show sumN [] = 0 by decide +kernel)
  go_enter Try.func12, Try.ntmps12
  go_wp2_with fail
  refine (sum_any _ [49, 50, 51, 52, 53, 54, 55, 56, 57] 9 (by unfold Bytes; decide) (by decide) _ ?_).mono ?_
  · exact rd_new _ _ _ _ _ _ (by simp) rfl
  rintro e w' ⟨rfl, rfl⟩
  rw [H1.out]
  go_wp2_with fail
  refine (sum_any _ [49, 50, 51, 52] 4 (by unfold Bytes; decide) (by decide) _ ?_).mono ?_
  · exact rd_new _ _ _ _ _ _ (by simp) rfl
  rintro e w' ⟨rfl, rfl⟩
  have hs := sumN_lt (l := [49, 50, 51, 52]) (by unfold Bytes; decide)
  go_wp2_with fail
  refine (more_any _ hs _ [53, 54, 55, 56, 57] 5 (by unfold Bytes; decide) (by decide) _ ?_).mono ?_
  · exact rd_new _ _ _ _ _ _ (by simp) rfl
  rintro e w' ⟨rfl, rfl⟩
  rw [H2.out]
  clear hs
  go_wp2_with fail
  refine (good_any _ [] 0 0 (by unfold Bytes; decide) (by decide) _ (RdB.nil _ _)).mono ?_
  rintro e w' ⟨rfl, rfl⟩
  rw [H3.out]
  go_wp2
  go_ret
  exact ⟨rfl, (((Below.refl _ _).alloc (Nat.le_refl _) _).alloc (by simp) _).alloc (by simp; omega) _⟩
end Go.Proofs.Ytoigogjmhkpdlaa
