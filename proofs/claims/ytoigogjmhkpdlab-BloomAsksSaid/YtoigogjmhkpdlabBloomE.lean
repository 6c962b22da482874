/- The walk of shardloglaw11's awake: what the document fixes is so. -/
import Derived.Test.YtoigogjmhkpdlabBloomD
namespace Go.Proofs.Ytoigogjmhkpdlab
open Go.RowKit
open Crc Bl

/-- The key 'a'. -/
def keyA : ByteArray := { data := #[97] }

set_option maxRecDepth 100000 in
theorem awake11_any (W : World) :
    Calls Try.prog 12 #[] W fun e W' => e = .returned (.bool true) ∧ Below W.heap.size W W' := by
  have H1 := Lib.hid (show makeF [keyA] = [17] by decide +kernel)
  have H2 := Lib.hid (show makeF [] = [0] by decide +kernel)
  have H3 := Lib.hid (show hasN [17] keyA = true by decide +kernel)
  have H4 := Lib.hid (show hasN [0] keyA = false by decide +kernel)
  have H5 := Lib.hid (show hasN [] keyA = true by decide +kernel)
  go_enter Try.func12, Try.ntmps12
  go_wp2_with fail
  refine (make_any _ [keyA] 1 (by decide) (by decide) _ (rd_lit _ _ _ _ [keyA] _ rfl rfl)).mono ?_
  rintro e w1 ⟨F, A1, c1, HF, rfl, ho1, hb1⟩
  have hB1 := ((Below.refl W.heap.size W).alloc (Nat.le_refl _) (.cells #[.string keyA] 9)).trans (hb1.mono (by simp))
  obtain rfl : F = [17] := HF.out.trans H1.out
  obtain ⟨g, rfl, hg⟩ := ho1.form (by decide)
  have hc := ho1.cell 0 (by decide)
  unfold bv at hc
  go_wp2_with fail
  refine (has_any _ [17] c1 keyA (by unfold Small; decide) (by decide) (by decide) _ ho1.rd).mono ?_
  rintro e w2 ⟨rfl, hb2⟩
  rw [H3.out]
  have hB2 := below_next hB1 hb2
  go_wp2_with fail
  refine (make_any none [] 0 (by decide) (fun s h => by simp at h) _ (Rd.nil _ _ _)).mono ?_
  rintro e w3 ⟨F3, A3, c3, HF3, rfl, ho3, hb3⟩
  obtain rfl : F3 = [0] := HF3.out.trans H2.out
  have hB3 := below_next hB2 hb3
  go_wp2_with fail
  refine (make_any none [] 0 (by decide) (fun s h => by simp at h) _ (Rd.nil _ _ _)).mono ?_
  rintro e w4 ⟨F4, A4, c4, HF4, rfl, ho4, hb4⟩
  obtain rfl : F4 = [0] := HF4.out.trans H2.out
  have hB4 := below_next hB3 hb4
  go_wp2_with fail
  refine (has_any _ [0] c4 keyA (by unfold Small; decide) (by decide) (by decide) _ ho4.rd).mono ?_
  rintro e w5 ⟨rfl, hb5⟩
  rw [H4.out]
  have hB5 := below_next hB4 hb5
  go_wp2_with fail
  refine (has_any none [] 0 keyA (by unfold Small; decide) (by decide) (by decide) _ (Rd.nil _ _ _)).mono ?_
  rintro e w6 ⟨rfl, hb6⟩
  rw [H5.out]
  have hB6 := below_next hB5 hb6
  go_wp2_with fail
  refine (bits_i keyA 8 8 (by decide) (by decide) (by decide) (by decide) _).mono ?_
  rintro e w7 ⟨L, A7, c7, HL, rfl, ho7, hb7⟩
  have hlen : ((L.length : Int) == 3) = true := by rw [HL.out]; rfl
  have hB7 := below_next hB6 hb7
  go_wp2
  go_ret
  exact ⟨rfl, hB7⟩
end Go.Proofs.Ytoigogjmhkpdlab
