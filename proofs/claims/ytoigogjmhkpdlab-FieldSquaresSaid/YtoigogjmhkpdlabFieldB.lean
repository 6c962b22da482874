/- Walks of the program's field: product, contrary, power, quotient. -/
import Derived.Test.YtoigogjmhkpdlabFieldA
import Derived.Deep.QuietTactic
import Derived.BigQuiet
namespace Go.Proofs.Ytoigogjmhkpdlab
open Go.RowKit
open Gf

/-- Nothing has turned but the count of draws. -/
def Dr (W w : World) : Prop := ∃ n, w = W.drewN n
theorem ret_u8 {a b : Int} (h : a = b) : Ending.returned (.int .u8 a) = .returned (.int .u8 b) := by rw [h]
theorem FieldAt.drew {w : World} {g : Nat} (h : FieldAt w g) : FieldAt w.drew g := h
theorem FieldAt.drewN {w : World} {g : Nat} (h : FieldAt w g) (n : Nat) : FieldAt (w.drewN n) g := h

/-- A product. -/
theorem mul_any (g a b : Nat) (ha : a < 256) (hb : b < 256) (W : World) (hF : FieldAt W g) :
    Calls Try.prog 10 #[.pointer (some ⟨g, 0, none⟩), .int .u8 (a : Int), .int .u8 (b : Int)] W fun e W' => e = .returned (.int .u8 (mulN a b : Nat)) ∧ Dr W W' := by
  obtain ⟨_, hE, hL⟩ := hF
  by_cases h1 : a = 0
  · subst h1
    have HM := Lib.hid (mulN_zero' b)
    go_enter Try.func10, Try.ntmps10
    go_wp2
    go_ret
    exact ⟨ret_u8 (by rw [HM.out]; rfl), 0, rfl⟩
  by_cases h2 : b = 0
  · subst h2
    have HM := Lib.hid (mulN_zero a)
    have hz1 : ((a : Int) == 0) = false := by rw [beq_eq_false_iff_ne]; omega
    clear h1
    go_enter Try.func10, Try.ntmps10
    go_wp2
    go_ret
    exact ⟨ret_u8 (by rw [HM.out]; rfl), 0, rfl⟩
  have hc1 := hL a (by omega) ha
  have hc2 := hL b (by omega) hb
  have hl1 := (logN_lt a ha (by omega)).1
  have hl2 := (logN_lt b hb (by omega)).1
  have hc3 := hE ((logN a + logN b) % 255) (by omega)
  have hz1 : ((a : Int) == 0) = false := by rw [beq_eq_false_iff_ne]; omega
  have hz2 : ((b : Int) == 0) = false := by rw [beq_eq_false_iff_ne]; omega
  have hi3 : (logN a + logN b) % 255 < 255 := by omega
  have HM := Lib.hid (show mulN a b = pw ((logN a + logN b) % 255) by rw [mulN_pw a b (by omega) (by omega), pw_mod])
  clear h1 h2 hE hL
  go_enter Try.func10, Try.ntmps10
  go_wp2
  go_quiet (fail)
  go_wp2
  go_ret
  exact ⟨ret_u8 (by rw [HM.out]), _, rfl⟩

set_option maxRecDepth 100000 in
theorem inv_any (g a : Nat) (ha : a < 256) (W : World) (hF : FieldAt W g) :
    Calls Try.prog 22 #[.pointer (some ⟨g, 0, none⟩), .int .u8 (a : Int)] W fun e W' => e = .returned (.int .u8 (invN a : Nat)) ∧ Dr W W' := by
  obtain ⟨_, hE, hL⟩ := hF
  by_cases h1 : a = 0
  · subst h1
    go_enter Try.func22, Try.ntmps22
    go_wp2
    go_ret
    exact ⟨ret_u8 (by unfold invN; rfl), 0, rfl⟩
  have hc1 := hL a (by omega) ha
  have hl1 := (logN_lt a ha (by omega)).1
  obtain ⟨r, hr, hr2, hr3⟩ : ∃ r : Nat, (-((logN a : Nat) : Int)) % 255 = (r : Int) ∧ r = (255 - logN a) % 255 ∧ r < 255 := ⟨(255 - logN a) % 255, by omega, rfl, by omega⟩
  have hc3 := hE r hr3
  have hz1 : ((a : Int) == 0) = false := by rw [beq_eq_false_iff_ne]; omega
  have HM := Lib.hid (show invN a = pw r by rw [hr2]; unfold invN; rw [if_neg h1, pw_mod])
  clear h1 hE hL hr2
  go_enter Try.func22, Try.ntmps22
  go_wp2
  go_region
  go_wp2
  go_ret
  exact ⟨ret_u8 (by rw [HM.out]), _, rfl⟩

set_option maxRecDepth 100000 in
theorem pow_any (g a n : Nat) (ha : a < 256) (hn : n ≤ 9223372036854775807) (W : World) (hF : FieldAt W g) :
    Calls Try.prog 11 #[.pointer (some ⟨g, 0, none⟩), .int .u8 (a : Int), .int .i64 (n : Int)] W fun e W' => e = .returned (.int .u8 (powN a n : Nat)) ∧ Dr W W' := by
  obtain ⟨_, hE, hL⟩ := hF
  by_cases h0 : n = 0
  · subst h0
    have HM := Lib.hid (powN_zero a)
    go_enter Try.func11, Try.ntmps11
    go_wp2
    go_ret
    exact ⟨ret_u8 (by rw [HM.out]; rfl), 0, rfl⟩
  have hz0 : ((n : Int) == 0) = false := by rw [beq_eq_false_iff_ne]; omega
  by_cases h1 : a = 0
  · subst h1
    have HM := Lib.hid (powN_nought n (by omega))
    clear h0
    go_enter Try.func11, Try.ntmps11
    go_wp2
    go_ret
    exact ⟨ret_u8 (by rw [HM.out]; rfl), 0, rfl⟩
  have hc1 := hL a (by omega) ha
  have hl1 := (logN_lt a ha (by omega)).1
  obtain ⟨r, hr, hr255⟩ : ∃ r : Nat, (n : Int) % 255 = (r : Int) ∧ r = n % 255 := ⟨n % 255, by omega, rfl⟩
  have hm0 : (0 : Int) ≤ ((logN a : Nat) : Int) * (r : Int) := Int.mul_nonneg (by omega) (by omega)
  have hm1 : ((logN a : Nat) : Int) * (r : Int) ≤ 65025 := by
    have := Int.mul_le_mul (show ((logN a : Nat) : Int) ≤ 255 by omega) (show (r : Int) ≤ 255 by omega) (by omega) (by decide)
    omega
  have hc3 := hE (logN a * r % 255) (by omega)
  have hz1 : ((a : Int) == 0) = false := by rw [beq_eq_false_iff_ne]; omega
  have hi3 : logN a * r % 255 < 255 := by omega
  have HM := Lib.hid (show powN a n = pw (logN a * r % 255) by rw [hr255]; unfold powN; rw [if_neg h0, if_neg h1, pw_mod])
  clear h0 h1 hE hL hr255
  go_enter Try.func11, Try.ntmps11
  go_wp2
  go_region
  go_wp2
  go_ret
  exact ⟨ret_u8 (by rw [HM.out]), _, rfl⟩

/-- A quotient. -/
theorem div_any (g a b : Nat) (ha : a < 256) (hb : b < 256) (W : World) (hF : FieldAt W g) :
    Calls Try.prog 21 #[.pointer (some ⟨g, 0, none⟩), .int .u8 (a : Int), .int .u8 (b : Int)] W fun e W' =>
      e = .returned (.tuple #[.int .u8 (mulN a (invN b) : Nat), .bool ((b : Int) != 0)]) ∧ Dr W W' := by
  have HF := Lib.hid hF
  clear hF
  go_enter Try.func21, Try.ntmps21
  go_wp2_with (first
    | (go_at_call 22; refine (inv_any g b hb _ HF.out).mono ?_; rintro e w1 ⟨rfl, n1, rfl⟩)
    | (go_at_call 10; refine (mul_any g a _ ha (invN_lt b) _ (HF.out.drewN _)).mono ?_; rintro e w1 ⟨rfl, n2, rfl⟩))
  go_ret2
  exact ⟨rfl, _, rfl⟩
end Go.Proofs.Ytoigogjmhkpdlab
