/- Walks of the program's CRC functions: bytes; the reference's sum. -/
import Derived.Test.YtoigogjmhkpdlabCheckA
import Derived.Test.YtoigogjmhkpdlabWords
namespace Go.Proofs.Ytoigogjmhkpdlab
open Go.RowKit
open Crc

def all32 : Nat := 4294967295
def sumN (l : List Nat) : Nat := crcN all32 l ^^^ all32
def moreN (s : Nat) (l : List Nat) : Nat := crcN (s ^^^ all32) l ^^^ all32

theorem u32_all (w : Nat) (h : w < 4294967296) : bits .xor .u32 (w : Int) 4294967295 = ((w ^^^ all32 : Nat) : Int) := u32_xor_nat w 4294967295 h (by decide)
theorem all_lt (w : Nat) (h : w < 4294967296) : w ^^^ all32 < 4294967296 := Nat.xor_lt_two_pow (n := 32) h (by decide)
theorem bytes_take {l : List Nat} (h : Bytes l) (k : Nat) : Bytes (l.take k) := fun b hb => h b (List.mem_of_mem_take hb)
theorem crc_take {l : List Nat} (w k : Nat) (hk : k < l.length) : eightN (crcN w (l.take k)) l[k] = crcN w (l.take (k + 1)) := by
  rw [List.take_succ_eq_append_getElem hk, crcN_snoc]

/-- Bytes, from a sum on. -/
theorem more_any (s : Nat) (hs : s < 4294967296) (A : Option Addr) (l : List Nat) (c : Nat) (hl : Bytes l) (hm : l.length ≤ 140737488351232) (W : World) (hr : RdB W A l) :
    Calls Try.prog 26 #[.int .u32 (s : Int), .slice A l.length c] W fun e W' => e = .returned (.int .u32 (moreN s l : Nat)) ∧ W = W' := by
  have HS := Lib.hid (u32_all s hs)
  have hs0 := all_lt s hs
  have HR := Lib.hid hr
  clear hr
  go_enter Try.func26, Try.ntmps26
  go_wp2
  go_loop [5, 12] (fun t i => ∃ k : Nat, k ≤ l.length ∧ i = .int .i64 k ∧ t = .int .u32 (crcN (s ^^^ all32) (l.take k) : Nat)) (fun _ i => l.length - (intOf i).toNat)
  case atStart => exact ⟨0, Nat.zero_le _, rfl, by rw [HS.out, List.take_zero, crcN_nil]⟩
  case round =>
    obtain ⟨k, hk, rfl, rfl⟩ := hrel
    have hlt := crcN_lt (l.take k) _ hs0 (bytes_take hl k)
    by_cases hk8 : k < l.length
    · obtain ⟨ad, rfl, hc⟩ := HR.out (by omega)
      have hck := hc k hk8
      have hb : l[k] < 256 := hl _ (List.getElem_mem _)
      clear hc
      go_wp2_with (go_at_call 27; refine (eight_any _ _ hlt hb _).mono ?_; rintro e w' ⟨rfl, rfl⟩)
      go_round
      case rel => exact ⟨k + 1, by omega, by go_num, by rw [crc_take _ _ hk8]⟩
      case measure => simp [intOf]; omega
    · have HA := Lib.hid (u32_all _ hlt)
      go_wp2
      go_ret
      exact ⟨ret_u32 (by rw [HA.out, List.take_of_length_le (by omega)]; rfl), rfl⟩

theorem sumN_eq (l : List Nat) : moreN 0 l = sumN l := by unfold moreN sumN; rw [Nat.zero_xor]
theorem sumN_lt {l : List Nat} (h : Bytes l) : sumN l < 4294967296 := all_lt _ (crcN_lt l _ (by decide) h)

/-- Bytes' sum. -/
theorem sum_any (A : Option Addr) (l : List Nat) (c : Nat) (hl : Bytes l) (hm : l.length ≤ 140737488351232) (W : World) (hr : RdB W A l) :
    Calls Try.prog 24 #[.slice A l.length c] W fun e W' => e = .returned (.int .u32 (sumN l : Nat)) ∧ W = W' := by
  have HR := Lib.hid hr
  clear hr
  go_enter Try.func24, Try.ntmps24
  go_wp2_with (go_at_call 26; refine (more_any 0 (by decide) A l c hl hm _ HR.out).mono ?_; rintro e w' ⟨rfl, rfl⟩)
  go_ret
  exact ⟨ret_u32 (by rw [sumN_eq]), rfl⟩


/-! The reference's sum. -/
theorem all_sub (w : Nat) (h : w < 4294967296) : (4294967295 : Int) - (w : Int) = ((w ^^^ all32 : Nat) : Int) := by
  have e : w ^^^ all32 = 4294967295 - w := by
    apply Nat.eq_of_testBit_eq; intro i
    rw [Nat.testBit_xor, show (4294967295 - w) = 2 ^ 32 - (w + 1) by omega, Nat.testBit_two_pow_sub_succ (by omega), show all32 = 2 ^ 32 - 1 from rfl, Nat.testBit_two_pow_sub_one]
    by_cases hi : i < 32
    · simp [hi]
    · have := Nat.testBit_lt_two_pow (x := w) (i := i) (Nat.lt_of_lt_of_le (show w < 2 ^ 32 by omega) (Nat.pow_le_pow_right (by decide) (by omega)))
      simp [hi, this]
  rw [e]; omega

theorem refsum_any (A : Option Addr) (l : List Nat) (c : Nat) (hl : Bytes l) (hm : l.length ≤ 140737488351232) (W : World) (hr : RdB W A l) :
    Calls Try.prog 25 #[.slice A l.length c] W fun e W' => e = .returned (.int .u32 (sumN l : Nat)) ∧ W = W' := by
  have HR := Lib.hid hr
  clear hr
  go_enter Try.func25, Try.ntmps25
  go_wp2
  go_loop [3, 4, 5, 6] (fun t i _ _ => ∃ k : Nat, k ≤ l.length ∧ i = .int .i64 k ∧ t = .int .u32 (crcN all32 (l.take k) : Nat)) (fun _ i _ _ => l.length - (intOf i).toNat)
  case atStart => exact ⟨0, Nat.zero_le _, rfl, by rw [List.take_zero, crcN_nil]; rfl⟩
  case round =>
    obtain ⟨k, hk, rfl, rfl⟩ := hrel
    have hlt := crcN_lt (l.take k) all32 (by decide) (bytes_take hl k)
    by_cases hk8 : k < l.length
    · obtain ⟨ad, rfl, hc⟩ := HR.out (by omega)
      have hck := hc k hk8
      have hb : l[k] < 256 := hl _ (List.getElem_mem _)
      have HX := Lib.hid (u32_in _ _ hlt hb)
      clear hc
      go_wp2
      go_loop [3, 5, 6] (fun t i _ => ∃ j : Nat, j ≤ 8 ∧ i = .int .i64 j ∧ t = .int .u32 (it j (crcN all32 (l.take k) ^^^ l[k]) : Nat)) (fun _ i _ => 8 - (intOf i).toNat)
      case atStart => exact ⟨0, by omega, rfl, by rw [HX.out, it_none]⟩
      case round =>
        obtain ⟨j, hj, rfl, rfl⟩ := hrel
        have hlt2 := it_lt j _ (Nat.xor_lt_two_pow (n := 32) hlt (show l[k] < 2 ^ 32 by omega))
        obtain ⟨x, hx⟩ : ∃ x, x = it j (crcN all32 (l.take k) ^^^ l[k]) := ⟨_, rfl⟩
        have HP := Lib.hid (u32_poly _ hlt2)
        have HS := Lib.hid (it_snoc j (crcN all32 (l.take k) ^^^ l[k]))
        rw [← hx] at hlt2 HP HS ⊢
        have HX2 := Lib.hid hx
        clear hx
        by_cases hj8 : j < 8
        · by_cases hodd : x % 2 = 1
          · have h1 : (((x : Int) % 2) == 1) = true := by rw [beq_iff_eq]; omega
            have HO := Lib.hid (show bitN x = x / 2 ^^^ 2197175160 by unfold bitN; rw [if_pos hodd])
            clear hodd
            go_wp2
            go_round
            case rel => exact ⟨j + 1, by omega, by go_num, by rw [HP.out, ← HO.out, HS.out]⟩
            case measure => simp [intOf]; omega
          · have h1 : (((x : Int) % 2) == 1) = false := by rw [beq_eq_false_iff_ne]; omega
            have HO := Lib.hid (show bitN x = x / 2 by unfold bitN; rw [if_neg hodd])
            clear hodd
            go_wp2
            go_round
            case rel => exact ⟨j + 1, by omega, by go_num, by rw [← HS.out, HO.out]; go_num⟩
            case measure => simp [intOf]; omega
        · have hj : j = 8 := by omega
          have HE := Lib.hid (show x = crcN all32 (l.take (k + 1)) by rw [HX2.out, hj, ← crc_take _ _ hk8]; unfold eightN; rfl)
          clear hj
          go_wp2
          go_round
          case rel => exact ⟨k + 1, by omega, by go_num, by rw [HE.out]⟩
          case measure => simp [intOf]; omega
    · have HE := Lib.hid (all_sub _ hlt)
      go_wp2
      go_ret
      exact ⟨ret_u32 (by rw [HE.out, List.take_of_length_le (by omega)]; rfl), rfl⟩

/-! The same, with the length under a name of its own. -/
theorem sum_n (A : Option Addr) (l : List Nat) (n c : Nat) (hn : l.length = n) (hl : Bytes l) (hm : l.length ≤ 140737488351232) (W : World) (hr : RdB W A l) :
    Calls Try.prog 24 #[.slice A n c] W fun e W' => e = .returned (.int .u32 (sumN l : Nat)) ∧ W = W' := by
  subst hn; exact sum_any A l c hl hm W hr
theorem refsum_n (A : Option Addr) (l : List Nat) (n c : Nat) (hn : l.length = n) (hl : Bytes l) (hm : l.length ≤ 140737488351232) (W : World) (hr : RdB W A l) :
    Calls Try.prog 25 #[.slice A n c] W fun e W' => e = .returned (.int .u32 (sumN l : Nat)) ∧ W = W' := by
  subst hn; exact refsum_any A l c hl hm W hr
end Go.Proofs.Ytoigogjmhkpdlab
