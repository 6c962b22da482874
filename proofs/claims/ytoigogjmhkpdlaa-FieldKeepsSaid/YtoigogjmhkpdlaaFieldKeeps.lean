/- The walk of FieldKeeps. -/
import Derived.Test.YtoigogjmhkpdlaaFieldE
namespace Go.Proofs.Ytoigogjmhkpdlaa
open Go.RowKit
open Gf

theorem u8_xor_lit (x : Nat) (hx : x < 256) : bits .xor .u8 (x : Int) 255 = ((x ^^^ 255 : Nat) : Int) := u8_xor_nat x 255 hx (by decide)

theorem mul_bytes {c : Nat} {l X : List Nat} (h : X = l.map (mulN c)) : Bytes X := by
  rw [h]; intro b hb; obtain ⟨x, _, rfl⟩ := List.mem_map.1 hb; exact mulN_lt c x

set_option maxHeartbeats 1600000 in
theorem fieldKeeps_any (c : Nat) (A : Option Addr) (l : List Nat) (cap : Nat) (W : World) (hc : c < 256) (hl : Bytes l) (hr : RdB W A l) (hm : l.length ≤ maxLen) :
    Calls Try.prog 11 #[.int .u8 (c : Int), .slice A l.length cap] W fun e W' => e = .returned (.bool true) ∧ Below W.heap.size W W' := by
  obtain ⟨i0, hi, hz0, hz1, hz2⟩ := info_parts Try.infoB
  have HA := Lib.hid hr
  clear hr
  unfold maxLen at hm
  by_cases h1 : l.length ≤ 1000
  · have hd1 : decide ((1000 : Int) < (l.length : Int)) = false := by simp; omega
    go_enter Try.func11, Try.ntmps11
    go_wp2_with (first
      | (at_builtin; refine wpList_append_bytes _ rfl (.tmp 22) (.tmp 23) _ rfl w2.heap.size 5 i0 Try.underlying22 hi hz0 hz1 hz2 _ _ [] rfl (OwnB.lit _ _ _ _ [] (Nat.le_refl _) (Nat.zero_le _) rfl) _ _ l rfl (HA2.out.alloc _) (by simp; omega) (by simp) ?_; intro L A2 c2 w3 HL ho2 hb2; have hB2 := ((Below.refl w2.heap.size w2).alloc (Nat.le_refl _) (.cells #[] 5)).trans hb2; have HF3 := Lib.hid (HF.out.below hB2); have HA3 := Lib.hid (HA2.out.below hB2 (Nat.le_refl _)))
      | (go_at_call 26; refine (row_any g c hc A l cap hl (by omega) _ HF3.out HA3.out).mono ?_; rintro e w4 ⟨X0, A4, c4, HX0, rfl, ho4, hb4⟩)
      | (go_at_call 17; refine (field_new _).mono ?_; rintro e w1 ⟨g, rfl, hF0, hB0⟩; have HF0 := Lib.hid hF0; clear hF0)
      | (go_at_call 18; refine (awake03_any _).mono ?_; rintro e w2 ⟨rfl, hB1⟩; have HF := Lib.hid (HF0.out.below hB1); have hB := below_next hB0 hB1; have hs := hB.size; have HA2 := Lib.hid (HA.out.below hB (Nat.le_refl _))))
    have hX0b := mul_bytes HX0.out
    have hX0l : X0.length ≤ 1000 := by rw [HX0.out]; simpa using h1
    go_loopw [8] (fun i wr => ∃ (k : Nat) (X : List Nat), k ≤ X0.length ∧ i = .int .i64 k ∧ Hid (X.length = X0.length) ∧ Bytes X ∧ OwnB 5 wr w3.heap.size A4 c4 X ∧ Below w3.heap.size w3 wr) (fun i _ => X0.length - (intOf i).toNat)
    case atStart => exact ⟨0, X0, by omega, rfl, Lib.hid rfl, hX0b, ho4, hb4⟩
    case round =>
      obtain ⟨k, X, hk, rfl, hXl, hXb, hXo, hXB⟩ := hrel
      by_cases hk8 : k < X0.length
      · have hkX : k < X.length := by rw [hXl.out]; exact hk8
        obtain ⟨gg, rfl, hg⟩ := hXo.form (by omega)
        have hcell := hXo.cell k hkX
        have hf := hXo.free k
        have hb8 : X[k] < 256 := hXb _ (List.getElem_mem _)
        have HQ := Lib.hid (u8_xor_lit _ hb8)
        have hn := xor_lt hb8 (show 255 < 256 by decide)
        go_wp2
        go_roundw
        case rel =>
          rw [HQ.out]
          exact ⟨k + 1, X.set k (X[k] ^^^ 255), by omega, by go_num, Lib.hid (by rw [List.length_set]; exact hXl.out), bytes_set hXb _ _ hn, hXo.set _ _, hXB.setCell hg _⟩
        case measure => simp [intOf]; omega
      · go_wp2_with (go_at_call 27; refine (same_any A A2 l L cap c2 (by rw [HL.out]; rfl) _ (HA3.out.below hXB (Nat.le_refl _)) (ho2.rd.below hXB (Nat.le_refl _))).mono ?_; rintro e w5 ⟨rfl, rfl⟩)
        go_ret
        exact ⟨rfl, below_next (below_next hB hB2) hXB⟩
  · have hd1 : decide ((1000 : Int) < (l.length : Int)) = true := by simp; omega
    go_enter Try.func11, Try.ntmps11
    go_wp2_with fail
    refine (field_new _).mono ?_
    rintro e w1 ⟨g, rfl, _, hB0⟩
    go_wp2_with fail
    refine (awake03_any _).mono ?_
    rintro e w2 ⟨rfl, hB1⟩
    go_wp2_with fail
    refine (awake03_any _).mono ?_
    rintro e w3 ⟨rfl, hB2⟩
    go_wp2
    go_ret
    exact ⟨rfl, below_next (below_next hB0 hB1) hB2⟩
end Go.Proofs.Ytoigogjmhkpdlaa
