/- The walk of CheckTurned. -/
import Derived.Test.YtoigogjmhkpdlaaCheckSums
namespace Go.Proofs.Ytoigogjmhkpdlaa
open Go.RowKit
open Crc

theorem u8_bit (x r : Nat) (hx : x < 256) (hr : r < 8) : bits .xor .u8 (x : Int) ((2 : Int) ^ r % 256) = ((x ^^^ 2 ^ r : Nat) : Int) := by
  have h2 : 2 ^ r < 256 := Nat.pow_lt_pow_right (m := r) (n := 8) (by decide) hr
  have e : ((2 : Int) ^ r % 256) = ((2 ^ r : Nat) : Int) := by
    rw [Int.natCast_pow]; exact Int.emod_eq_of_lt (Int.pow_nonneg (by decide)) (by have : ((2 ^ r : Nat) : Int) < 256 := by omega
                                                                                   rw [Int.natCast_pow] at this; exact this)
  rw [e]; exact u8_xor_nat x (2 ^ r) hx h2
theorem u32_bit (t j : Nat) (ht : t < 4294967296) : bits .and .u32 ((t : Int) / 2 ^ j) 1 = ((t / 2 ^ j % 2 : Nat) : Int) := by
  have h : t / 2 ^ j < 4294967296 := Nat.lt_of_le_of_lt (Nat.div_le_self _ _) ht
  have e : (t : Int) / 2 ^ j = ((t / 2 ^ j : Nat) : Int) := by rw [Int.natCast_ediv, Int.natCast_pow]; rfl
  rw [e, u32_low _ h]
theorem turned_differs {a X : List Nat} {m t : Nat} (hX : crcN all32 X = crcN all32 a ^^^ it m t) (ht : t ≠ 0) (ht2 : t < 4294967296) : sumN X ≠ sumN a := by
  intro h
  unfold sumN at h
  rw [hX] at h
  have h2 : crcN all32 a ^^^ it m t = crcN all32 a := by
    have := congrArg (· ^^^ all32) h
    simpa [Nat.xor_assoc] using this
  have h3 : it m t = 0 := by
    have := congrArg (crcN all32 a ^^^ ·) h2
    simpa [← Nat.xor_assoc] using this
  exact ht (it_eq_zero m t ht2 h3)

theorem checkTurned_any (A : Option Addr) (a : List Nat) (ca : Nat) (at0 turn : Nat) (W : World) (ha : Bytes a) (hrA : RdB W A a) (hat : at0 < 65536) (htu : turn < 4294967296)
    (hma : a.length ≤ maxLen) :
    Calls Try.prog 4 #[.slice A a.length ca, .int .u16 (at0 : Int), .int .u32 (turn : Int)] W fun e W' => e = .returned (.bool true) ∧ Below W.heap.size W W' := by
  obtain ⟨i0, hi, hz0, hz1, hz2⟩ := info_parts Try.infoB
  have HA := Lib.hid hrA
  clear hrA
  unfold maxLen at hma
  by_cases h0 : a.length < 5
  · have hd0 : decide ((a.length : Int) < 5) = true := by simp; omega
    go_enter Try.func4, Try.ntmps4
    go_wp2_with fail
    refine (awake02_any _).mono ?_
    rintro e w1 ⟨rfl, hb1⟩
    go_wp2_with fail
    refine (awake02_any _).mono ?_
    rintro e w2 ⟨rfl, hb2⟩
    go_wp2
    go_ret
    exact ⟨rfl, below_next hb1 hb2⟩
  by_cases h1 : a.length ≤ 1000
  · by_cases h2 : turn = 0
    · have hd0 : decide ((a.length : Int) < 5) = false := by simp; omega
      have hd1 : decide ((1000 : Int) < (a.length : Int)) = false := by simp; omega
      subst h2
      go_enter Try.func4, Try.ntmps4
      go_wp2_with fail
      refine (awake02_any _).mono ?_
      rintro e w1 ⟨rfl, hb1⟩
      go_wp2_with fail
      refine (awake02_any _).mono ?_
      rintro e w2 ⟨rfl, hb2⟩
      go_wp2
      go_ret
      exact ⟨rfl, below_next hb1 hb2⟩
    have htu0 := h2
    have hd0 : decide ((a.length : Int) < 5) = false := by simp; omega
    have hd1 : decide ((1000 : Int) < (a.length : Int)) = false := by simp; omega
    have hd2 : ((turn : Int) == 0) = false := by rw [beq_eq_false_iff_ne]; omega
    obtain ⟨k, hk⟩ : ∃ k : Nat, (at0 : Int) % (8 * (a.length : Int) - 31) = (k : Int) := ⟨((at0 : Int) % (8 * (a.length : Int) - 31)).toNat, (Int.toNat_of_nonneg (Int.emod_nonneg _ (by omega))).symm⟩
    have hkl : k + 32 ≤ 8 * a.length := by have := Int.emod_lt_of_pos (at0 : Int) (show (0 : Int) < 8 * (a.length : Int) - 31 by omega); omega
    have hxa := sumN_lt ha
    go_enter Try.func4, Try.ntmps4
    go_wp2_with (first
        | (at_builtin; refine wpList_append_bytes _ rfl (.tmp 37) (.tmp 38) _ rfl W.heap.size 5 i0 Try.underlying22 hi hz0 hz1 hz2 _ _ [] rfl (OwnB.lit _ _ _ _ [] hsz (Nat.zero_le _) rfl) _ _ a rfl (HA1.out.alloc _) (by simp; omega) (by simp; omega) ?_; intro L A2 c2 w2 HL ho2 hb2; have hB2 := (hb1.alloc hsz (.cells #[] 5)).trans hb2; have hsz2 := hB2.size; have hL : L.length ≤ 1000 := (by rw [HL.out]; exact h1))
        | (go_at_call 12; refine (awake02_any _).mono ?_; rintro e w1 ⟨rfl, hb1⟩; have hsz := hb1.size; have HA1 := Lib.hid (HA.out.below hb1 (Nat.le_refl _)))
        | (go_at_call 13; ((with_reducible refine (sum_any A a ca ha (by omega) _ HA1.out).mono ?_); rintro e w' ⟨rfl, rfl⟩)))
    have hlen := Lib.hid (show L.length = a.length by rw [HL.out]; rfl)
    obtain ⟨g, rfl, hg⟩ := ho2.form (by rw [hlen.out]; omega)
    have hkL : k + 32 ≤ 8 * L.length := by rw [hlen.out]; exact hkl
    clear hk hkl
    go_loopw [10] (fun i wr => ∃ (j : Nat) (X : List Nat), j ≤ 32 ∧ i = .int .i64 j ∧ Hid (X.length = L.length) ∧ Bytes X ∧ OwnB 5 wr W.heap.size (some ⟨g, 0, none⟩) c2 X ∧ Hid (crcN all32 X = crcN all32 a ^^^ it (8 * L.length - k) (turn % 2 ^ j)) ∧ Below W.heap.size W wr) (fun i _ => 32 - (intOf i).toNat)
    case atStart => exact ⟨0, L, by omega, rfl, Lib.hid rfl, by rw [HL.out]; exact ha, ho2, Lib.hid (by rw [HL.out]; simp [Nat.mod_one, it_zero]), hB2⟩
    case round =>
      obtain ⟨j, X, hj, rfl, hX, hXb, hXo, hXc, hXB⟩ := hrel
      by_cases hj32 : j < 32
      · have hix : (k + j) / 8 < X.length := by rw [hX.out]; omega
        have hc := hXo.cell ((k + j) / 8) hix
        have hf := hXo.free ((k + j) / 8)
        have hb8 : X[(k + j) / 8] < 256 := hXb _ (List.getElem_mem _)
        have hixL : (k + j) / 8 < L.length := by omega
        have hxb : X[(k + j) / 8] ^^^ 2 ^ ((k + j) % 8) < 256 := Nat.xor_lt_two_pow (n := 8) hb8 (Nat.pow_lt_pow_right (by decide) (by omega))
        have HXX := Lib.hid (u8_bit X[(k + j) / 8] ((k + j) % 8) hb8 (by omega))
        by_cases hodd : turn / 2 ^ j % 2 = 1
        · have hbt : (bits BinOp.and IntKind.u32 ((turn : Int) / 2 ^ j) 1 == 1) = true := by rw [u32_bit _ _ htu, beq_iff_eq]; omega
          have HS := Lib.hid (run_step all32 X k j turn (crcN all32 a) hj32 (by rw [hX.out]; exact hkL) (by rw [hX.out]; exact hXc.out) hodd hix)
          clear hodd
          go_wp2
          go_roundw
          case rel =>
            rw [HXX.out]
            exact ⟨j + 1, X.set ((k + j) / 8) (X[(k + j) / 8] ^^^ 2 ^ ((k + j) % 8)), by omega, by go_num, Lib.hid (by rw [List.length_set]; exact hX.out), bytes_set hXb _ _ hxb, hXo.set _ _, Lib.hid (by rw [HS.out, hX.out]), hXB.setCell hg _⟩
          case measure => simp [intOf]; omega
        · have hbt : (bits BinOp.and IntKind.u32 ((turn : Int) / 2 ^ j) 1 == 1) = false := by rw [u32_bit _ _ htu, beq_eq_false_iff_ne]; omega
          have HS := Lib.hid (show turn % 2 ^ (j + 1) = turn % 2 ^ j by rw [mod_succ_xor, if_neg hodd, Nat.xor_zero])
          clear hodd
          go_wp2
          go_roundw
          case rel => exact ⟨j + 1, X, by omega, by go_num, hX, hXb, hXo, Lib.hid (by rw [HS.out]; exact hXc.out), hXB⟩
          case measure => simp [intOf]; omega
      · have hne := turned_differs (a := a) (X := X) (t := turn) (m := 8 * L.length - k) (by rw [hXc.out, show j = 32 by omega, Nat.mod_eq_of_lt htu]) htu0 htu
        have hq1 : (((sumN X : Nat) : Int) == ((sumN a : Nat) : Int)) = false := by rw [beq_eq_false_iff_ne]; omega
        have hq2 : (((sumN X : Nat) : Int) != ((sumN a : Nat) : Int)) = true := by rw [bne_iff_ne]; omega
        have hXl : X.length ≤ 1000 := by rw [hX.out]; exact hL
        clear hne
        go_wp2_with (first
          | (go_at_call 13; refine (sum_n _ X _ c2 hX.out hXb (by omega) _ hXo.rd).mono ?_; rintro e w' ⟨rfl, rfl⟩)
          | (go_at_call 16; refine (good_n _ X _ c2 _ hX.out hXb (by omega) _ hXo.rd).mono ?_; rintro e w' ⟨rfl, rfl⟩))
        go_ret
        exact ⟨rfl, hXB⟩
  · have hd0 : decide ((a.length : Int) < 5) = false := by simp; omega
    have hd1 : decide ((1000 : Int) < (a.length : Int)) = true := by simp; omega
    go_enter Try.func4, Try.ntmps4
    go_wp2_with fail
    refine (awake02_any _).mono ?_
    rintro e w1 ⟨rfl, hb1⟩
    go_wp2_with fail
    refine (awake02_any _).mono ?_
    rintro e w2 ⟨rfl, hb2⟩
    go_wp2
    go_ret
    exact ⟨rfl, below_next hb1 hb2⟩
end Go.Proofs.Ytoigogjmhkpdlaa
