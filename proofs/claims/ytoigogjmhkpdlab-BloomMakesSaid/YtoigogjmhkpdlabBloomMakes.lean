/- The walk of BloomMakes. -/
import Derived.Test.YtoigogjmhkpdlabBloomE
namespace Go.Proofs.Ytoigogjmhkpdlab
open Go.RowKit
open Crc Bl

theorem bloomMakes_any (A : Option Addr) (l : List ByteArray) (c : Nat) (W : World) (hm : l.length ≤ maxLen) (hR : Reach l) (hr : RdS W A l) :
    Calls Try.prog 4 #[.slice A l.length c] W fun e W' => e = .returned (.bool true) ∧ Below W.heap.size W W' := by
  have HR := Lib.hid hr
  clear hr
  unfold maxLen at hm
  go_enter Try.func4, Try.ntmps4
  go_wp2_with fail
  refine (awake11_any _).mono ?_
  rintro e w1 ⟨rfl, hB1⟩
  have HR1 := Lib.hid (HR.out.below hB1 (Nat.le_refl _))
  go_wp2_with fail
  refine (few_any A l c (by omega) hR _ HR1.out).mono ?_
  rintro e w2 ⟨⟨b, rfl, hb⟩, rfl⟩
  cases b
  · clear hb
    go_wp2_with fail
    refine (awake11_any _).mono ?_
    rintro e w3 ⟨rfl, hB2⟩
    go_wp2
    go_ret
    exact ⟨rfl, below_next hB1 hB2⟩
  · obtain ⟨hl, hs⟩ := hb rfl
    clear hb
    go_wp2_with fail
    refine (make_any A l c (by omega) hs _ HR1.out).mono ?_
    rintro e w3 ⟨F, A3, c3, HF, rfl, ho3, hb3⟩
    go_wp2_with fail
    refine (refmake_any A l c (by omega) hs _ (HR1.out.below hb3 (Nat.le_refl _))).mono ?_
    rintro e w4 ⟨G, A4, c4, HG, rfl, ho4, hb4⟩
    go_wp2_with fail
    refine (same_any A3 A4 F G c3 c4 (HF.out.trans HG.out.symm) _ (ho3.rd.below hb4 (Nat.le_refl _)) ho4.rd).mono ?_
    rintro e w5 ⟨rfl, rfl⟩
    go_wp2
    go_ret
    exact ⟨rfl, below_next (below_next hB1 hb3) hb4⟩
end Go.Proofs.Ytoigogjmhkpdlab
