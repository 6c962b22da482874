/- The walk of BloomAsks. -/
import Derived.Test.YtoigogjmhkpdlabBloomE
namespace Go.Proofs.Ytoigogjmhkpdlab
open Go.RowKit
open Crc Bl

set_option maxHeartbeats 3200000 in
theorem bloomAsks_any (A : Option Addr) (F : List Nat) (c : Nat) (s : ByteArray) (n : Nat) (W : World) (hF : Small F) (hr : RdB W A F) (hm : F.length ≤ maxLen) (hs : s.size ≤ maxLen) (hn : n < 65536) :
    Calls Try.prog 5 #[.slice A F.length c, .string s, .int .u16 (n : Int)] W fun e W' => e = .returned (.bool true) ∧ Below W.heap.size W W' := by
  have HR : Hid (Rd bv W A F) := Lib.hid (show Rd bv W A F from hr)
  clear hr
  unfold maxLen at hm hs
  by_cases h1 : F.length ≤ 1000
  · have hd1 : decide ((1000 : Int) < (F.length : Int)) = false := by simp; omega
    by_cases h2 : s.size ≤ 1000
    · have hd2 : decide ((1000 : Int) < (s.size : Int)) = false := by simp; omega
      have Hk := Lib.hid (show (1 : Int) + (n : Int) = ((1 + n : Nat) : Int) by omega)
      go_enter Try.func5, Try.ntmps5
      go_wp2_with fail
      refine (awake11_any _).mono ?_
      rintro e w1 ⟨rfl, hB1⟩
      have HR1 := Lib.hid (HR.out.below hB1 (Nat.le_refl _))
      go_wp2_with fail
      refine (bits_i s _ (1 + n) Hk.out (by omega) (by omega) (by omega) _).mono ?_
      rintro e w2 ⟨L, A2, c2, HL, rfl, ho2, hb2⟩
      have HR2 := Lib.hid (HR1.out.below hb2 (Nat.le_refl _))
      go_wp2_with fail
      refine (refbits_i s _ (1 + n) Hk.out (by omega) (by omega) (by omega) _).mono ?_
      rintro e w3 ⟨M, A3, c3, HM, rfl, ho3, hb3⟩
      have HR3 := Lib.hid (HR2.out.below hb3 (Nat.le_refl _))
      have HB3 := Lib.hid (below_next (below_next hB1 hb2) hb3)
      have hLl : L.length ≤ 3 ∧ 3 ≤ L.length := by rw [HL.out]; exact ⟨Nat.le_refl _, Nat.le_refl _⟩
      have HLM := Lib.hid (show M = L from HM.out.trans HL.out.symm)
      have hl3 : ((L.length : Int) != 3) = false := by rw [bne_eq_false_iff_eq]; omega
      have HrL := Lib.hid (ho2.below hb3 (Nat.le_refl _)).rd
      have HrM := Lib.hid (show Rd iv w3 A3 L by have := ho3.rd; rw [HLM.out] at this; exact this)
      go_wp2
      go_loopw [10] (fun i wr => ∃ j : Nat, j ≤ 3 ∧ i = .int .i64 j ∧ Below w3.heap.size w3 wr) (fun i _ => 3 - (intOf i).toNat)
      case atStart => exact ⟨0, by omega, rfl, Below.refl _ _⟩
      case round =>
        obtain ⟨j, hj, rfl, hB⟩ := hrel
        by_cases hj8 : j < 3
        · have hjL : j < L.length := by omega
          have hMl : M.length = L.length := by rw [HLM.out]
          obtain ⟨a2, rfl, hc2⟩ := (HrL.out.below hB (Nat.le_refl _)) (by omega)
          obtain ⟨a3, rfl, hc3⟩ := (HrM.out.below hB (Nat.le_refl _)) (by omega)
          have hx := hc2 j hjL
          have hy := hc3 j hjL
          obtain ⟨v, hv⟩ : ∃ v, v = L[j] := ⟨_, rfl⟩
          rw [← hv] at hx hy
          unfold iv at hx hy
          clear hc2 hc3 hv
          go_wp2
          go_region
          go_wp2
          go_roundw
          case rel => exact ⟨j + 1, by omega, by go_num, hB.drew⟩
          case measure => simp [intOf]; omega
        · go_wp2_with fail
          refine (has_any A F c s hF (by omega) (by omega) _ (HR3.out.below hB (Nat.le_refl _))).mono ?_
          rintro e w4 ⟨rfl, hb4⟩
          go_wp2_with fail
          refine (refhas_any A F c s hF (by omega) (by omega) _ ((HR3.out.below hB (Nat.le_refl _)).below hb4 (Nat.le_refl _))).mono ?_
          rintro e w5 ⟨rfl, hb5⟩
          go_wp2
          go_ret
          exact ⟨by simp, below_next (below_next (below_next HB3.out hB) hb4) hb5⟩
    · have hd2 : decide ((1000 : Int) < (s.size : Int)) = true := by simp; omega
      go_enter Try.func5, Try.ntmps5
      go_wp2_with fail
      refine (awake11_any _).mono ?_
      rintro e w1 ⟨rfl, hB1⟩
      go_wp2_with fail
      refine (awake11_any _).mono ?_
      rintro e w3 ⟨rfl, hB2⟩
      go_wp2
      go_ret
      exact ⟨rfl, below_next hB1 hB2⟩
  · have hd1 : decide ((1000 : Int) < (F.length : Int)) = true := by simp; omega
    go_enter Try.func5, Try.ntmps5
    go_wp2_with fail
    refine (awake11_any _).mono ?_
    rintro e w1 ⟨rfl, hB1⟩
    go_wp2_with fail
    refine (awake11_any _).mono ?_
    rintro e w3 ⟨rfl, hB2⟩
    go_wp2
    go_ret
    exact ⟨rfl, below_next hB1 hB2⟩
end Go.Proofs.Ytoigogjmhkpdlab
