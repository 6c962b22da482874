/- Walks of the program's CRC functions: one bit, one byte. -/
import Derived.Test.YtoigogjmhkpdlabProg
import Derived.Test.YtoigogjmhkpdlabCrc
import Derived.WalkKit
import Derived.WalkSpells
import Derived.WalkLawsBesides
import Derived.Outline
import Derived.Lib.Hide
namespace Go.Proofs.Ytoigogjmhkpdlab
open Go.RowKit
open Crc

theorem ret_u32 {a b : Int} (h : a = b) : Ending.returned (.int .u32 a) = .returned (.int .u32 b) := by rw [h]
theorem u32_low (w : Nat) (h : w < 4294967296) : bits .and .u32 (w : Int) 1 = ((w % 2 : Nat) : Int) := by
  rw [show (1 : Int) = ((1 : Nat) : Int) from rfl, u32_and_nat w 1 h (by decide), Nat.and_one_is_mod]
theorem u32_poly (w : Nat) (h : w < 4294967296) : bits .xor .u32 ((w : Int) / 2) 2197175160 = ((w / 2 ^^^ 2197175160 : Nat) : Int) := by
  rw [show (w : Int) / 2 = ((w / 2 : Nat) : Int) by omega]
  exact u32_xor_nat (w / 2) 2197175160 (by omega) (by decide)

/-- One bit. -/
theorem bit_any (w : Nat) (h : w < 4294967296) (W : World) :
    Calls Try.prog 28 #[.int .u32 (w : Int)] W fun e W' => e = .returned (.int .u32 (bitN w : Nat)) ∧ W = W' := by
  have HA := Lib.hid (u32_low w h)
  have HP := Lib.hid (u32_poly w h)
  go_enter Try.func28, Try.ntmps28
  go_wp2
  · have hb : (bits BinOp.and IntKind.u32 (↑w) 1 == 1) = true := by assumption
    rw [HA.out] at hb
    have hb' : w % 2 = 1 := by have := eq_of_beq hb; omega
    go_ret
    exact ⟨ret_u32 (by rw [HP.out]; unfold bitN; rw [if_pos hb']), rfl⟩
  · have hb : (bits BinOp.and IntKind.u32 (↑w) 1 == 1) = false := by assumption
    rw [HA.out] at hb
    have hb' : ¬ w % 2 = 1 := by have := ne_of_beq_false hb; omega
    go_ret
    exact ⟨ret_u32 (by unfold bitN; rw [if_neg hb']; omega), rfl⟩

theorem u32_in (w b : Nat) (h : w < 4294967296) (hb : b < 256) : bits .xor .u32 (w : Int) (b : Int) = ((w ^^^ b : Nat) : Int) := u32_xor_nat w b h (by omega)

/-- A byte. -/
theorem eight_any (w b : Nat) (h : w < 4294967296) (hb : b < 256) (W : World) :
    Calls Try.prog 27 #[.int .u32 (w : Int), .int .u8 (b : Int)] W fun e W' => e = .returned (.int .u32 (eightN w b : Nat)) ∧ W = W' := by
  have HX := Lib.hid (u32_in w b h hb)
  go_enter Try.func27, Try.ntmps27
  go_wp2
  go_loop [0, 10] (fun s i => ∃ k : Nat, k ≤ 8 ∧ i = .int .i64 k ∧ s = .int .u32 (it k (w ^^^ b) : Nat)) (fun _ i => 8 - (intOf i).toNat)
  case atStart => exact ⟨0, by omega, rfl, by rw [HX.out, it_none]⟩
  case round =>
    obtain ⟨k, hk, rfl, rfl⟩ := hrel
    have hlt := it_lt k (w ^^^ b) (Nat.xor_lt_two_pow (n := 32) h (by omega))
    by_cases hk8 : k < 8
    · go_wp2_with (go_at_call 28; refine (bit_any _ hlt _).mono ?_; rintro e w' ⟨rfl, rfl⟩)
      go_round
      case rel => exact ⟨k + 1, by omega, by go_num, by rw [it_snoc]⟩
      case measure => simp [intOf]; omega
    · go_wp2
      go_ret
      exact ⟨ret_u32 (by rw [show k = 8 by omega]; unfold eightN; rfl), rfl⟩
end Go.Proofs.Ytoigogjmhkpdlab
