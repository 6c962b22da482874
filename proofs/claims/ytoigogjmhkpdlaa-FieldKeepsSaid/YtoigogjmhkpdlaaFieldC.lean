/- Walks of the reference's field: product, contrary, power. -/
import Derived.Test.YtoigogjmhkpdlaaFieldB
namespace Go.Proofs.Ytoigogjmhkpdlaa
open Go.RowKit
open Gf

theorem i64_xor_small (a b : Nat) (ha : a < 512) (hb : b < 512) : bits .xor .i64 (a : Int) (b : Int) = ((a ^^^ b : Nat) : Int) := i64_xor_nat a b (by omega) (by omega)

set_option maxRecDepth 100000 in
theorem refmul_any (a b : Nat) (ha : a < 256) (hb : b < 256) (W : World) :
    Calls Try.prog 20 #[.int .u8 (a : Int), .int .u8 (b : Int)] W fun e W' => e = .returned (.int .u8 (mulN a b : Nat)) ∧ W = W' := by
  go_enter Try.func20, Try.ntmps20
  go_wp2
  go_loop [5, 6, 7, 8] (fun x y o i => ∃ (k X Y O : Nat), k ≤ 8 ∧ i = .int .i64 k ∧ x = .int .i64 (X : Nat) ∧ y = .int .i64 (Y : Nat) ∧ o = .int .i64 (O : Nat) ∧ X < 256 ∧ Y < 256 ∧ O < 256 ∧ Hid (X = dblN k a) ∧ Hid (Y = b / 2 ^ k) ∧ Hid (O = mulN a (b % 2 ^ k))) (fun _ _ _ i => 8 - (intOf i).toNat)
  case atStart => exact ⟨0, a, b, 0, by omega, rfl, rfl, rfl, rfl, ha, hb, by omega, Lib.hid (dblN_none a).symm, Lib.hid (by rw [Nat.pow_zero, Nat.div_one]), Lib.hid (by rw [Nat.pow_zero, Nat.mod_one, mulN_zero])⟩
  case round =>
    obtain ⟨k, X, Y, O, hk, rfl, rfl, rfl, rfl, hX, hY, hO, HX, HY, HO⟩ := hrel
    by_cases hk8 : k < 8
    · have HD := Lib.hid (dblN_succ k a)
      have HM := Lib.hid (mul_bit a b k ha hk8 hb)
      have HQ := Lib.hid (show Y / 2 = b / 2 ^ (k + 1) by rw [HY.out, Nat.div_div_eq_div_mul, Nat.pow_succ])
      have HX' := Lib.hid (show X * 2 < 512 by omega)
      have hmb := mulN_lt a (b % 2 ^ (k + 1))
      have hdb := dblN_lt (k + 1) a ha
      by_cases hodd : Y % 2 = 1
      · have h1 : (((Y : Int) % 2) == 1) = true := by rw [beq_iff_eq]; omega
        have HXO := Lib.hid (i64_xor_small O X (by omega) (by omega))
        have HO' := Lib.hid (show O ^^^ X = mulN a (b % 2 ^ (k + 1)) by rw [HM.out, if_pos (by rw [← HY.out]; exact hodd), HO.out, HX.out])
        clear hodd
        by_cases hbig : 256 ≤ X * 2
        · have HB := Lib.hid (show bits .xor .i64 ((X : Int) * 2) 285 = ((dblN (k + 1) a : Nat) : Int) by rw [HD.out, ← HX.out, dbl_big _ hbig, ← i64_poly (X * 2) HX'.out]; rfl)
          go_wp2
          go_round
          case rel => exact ⟨k + 1, dblN (k + 1) a, Y / 2, O ^^^ X, by omega, by go_num, by rw [HB.out], by go_num, by rw [HXO.out], hdb, by omega, by rw [HO'.out]; exact hmb, Lib.hid rfl, HQ, HO'⟩
          case measure => simp [intOf]; omega
        · have HB := Lib.hid (show dblN (k + 1) a = X * 2 by rw [HD.out, ← HX.out, dbl_small _ hbig])
          go_wp2
          go_round
          case rel => exact ⟨k + 1, X * 2, Y / 2, O ^^^ X, by omega, by go_num, by go_num, by go_num, by rw [HXO.out], by omega, by omega, by rw [HO'.out]; exact hmb, Lib.hid HB.out.symm, HQ, HO'⟩
          case measure => simp [intOf]; omega
      · have h1 : (((Y : Int) % 2) == 1) = false := by rw [beq_eq_false_iff_ne]; omega
        have HO' := Lib.hid (show O = mulN a (b % 2 ^ (k + 1)) by rw [HM.out, if_neg (by rw [← HY.out]; exact hodd), HO.out])
        clear hodd
        by_cases hbig : 256 ≤ X * 2
        · have HB := Lib.hid (show bits .xor .i64 ((X : Int) * 2) 285 = ((dblN (k + 1) a : Nat) : Int) by rw [HD.out, ← HX.out, dbl_big _ hbig, ← i64_poly (X * 2) HX'.out]; rfl)
          go_wp2
          go_round
          case rel => exact ⟨k + 1, dblN (k + 1) a, Y / 2, O, by omega, by go_num, by rw [HB.out], by go_num, rfl, hdb, by omega, hO, Lib.hid rfl, HQ, HO'⟩
          case measure => simp [intOf]; omega
        · have HB := Lib.hid (show dblN (k + 1) a = X * 2 by rw [HD.out, ← HX.out, dbl_small _ hbig])
          go_wp2
          go_round
          case rel => exact ⟨k + 1, X * 2, Y / 2, O, by omega, by go_num, by go_num, by go_num, rfl, by omega, by omega, hO, Lib.hid HB.out.symm, HQ, HO'⟩
          case measure => simp [intOf]; omega
    · have HE := Lib.hid (show O = mulN a b by rw [HO.out, show k = 8 by omega, Nat.mod_eq_of_lt hb])
      go_wp2
      go_ret
      exact ⟨ret_u8 (by rw [HE.out]), rfl⟩

set_option maxRecDepth 100000 in
theorem refinv_any (a : Nat) (ha : a < 256) (W : World) :
    Calls Try.prog 21 #[.int .u8 (a : Int)] W fun e W' => e = .returned (.int .u8 (invN a : Nat)) ∧ W = W' := by
  go_enter Try.func21, Try.ntmps21
  go_wp2
  go_loop [3] (fun i => ∃ k : Nat, 1 ≤ k ∧ k ≤ 256 ∧ i = .int .i64 k ∧ Hid (∀ c, 1 ≤ c → c < k → mulN a c ≠ 1)) (fun i => 256 - (intOf i).toNat)
  case atStart => exact ⟨1, by omega, by omega, rfl, Lib.hid (fun c h1 h2 => by omega)⟩
  case round =>
    obtain ⟨k, hk0, hk, rfl, HN⟩ := hrel
    by_cases hk8 : k < 256
    · by_cases hm : mulN a k = 1
      · have h1 : (((mulN a k : Nat) : Int) == 1) = true := by rw [beq_iff_eq]; omega
        have HI := Lib.hid (inv_only a k ha hk8 hm)
        clear hm
        go_wp2_with (go_at_call 20; refine (refmul_any a k ha hk8 _).mono ?_; rintro e w' ⟨rfl, rfl⟩)
        go_ret
        exact ⟨ret_u8 (by rw [← HI.out]), rfl⟩
      · have h1 : (((mulN a k : Nat) : Int) == 1) = false := by rw [beq_eq_false_iff_ne]; omega
        have HN' := Lib.hid (show ∀ c, 1 ≤ c → c < k + 1 → mulN a c ≠ 1 by
          intro c h1 h2
          by_cases hc : c = k
          · subst hc; exact hm
          · exact HN.out c h1 (by omega))
        clear hm
        go_wp2_with (go_at_call 20; refine (refmul_any a k ha hk8 _).mono ?_; rintro e w' ⟨rfl, rfl⟩)
        go_round
        case rel => exact ⟨k + 1, by omega, by omega, by go_num, HN'⟩
        case measure => simp [intOf]; omega
    · have HE := Lib.hid (show invN a = 0 by
        by_cases h0 : a = 0
        · subst h0; unfold invN; rfl
        · exact absurd (mulN_inv a ha (by omega)) (HN.out _ (invN_pos a (by omega)) (by have := invN_lt a; omega)))
      go_wp2
      go_ret
      exact ⟨ret_u8 (by rw [HE.out]; rfl), rfl⟩

set_option maxRecDepth 100000 in
theorem refpow_any (a n : Nat) (ha : a < 256) (hn : n ≤ 9223372036854775807) (W : World) :
    Calls Try.prog 25 #[.int .u8 (a : Int), .int .i64 (n : Int)] W fun e W' => e = .returned (.int .u8 (powN a n : Nat)) ∧ W = W' := by
  go_enter Try.func25, Try.ntmps25
  go_wp2
  go_loop [5, 6] (fun o i => ∃ k : Nat, k ≤ n ∧ i = .int .i64 k ∧ o = .int .u8 (powN a k : Nat)) (fun _ i => n - (intOf i).toNat)
  case atStart => exact ⟨0, by omega, rfl, by rw [powN_zero]; rfl⟩
  case round =>
    obtain ⟨k, hk, rfl, rfl⟩ := hrel
    have hp := powN_lt a k
    by_cases hk8 : k < n
    · have HP := Lib.hid (powN_succ a k ha)
      go_wp2_with (go_at_call 20; refine (refmul_any _ a hp ha _).mono ?_; rintro e w' ⟨rfl, rfl⟩)
      go_round
      case rel => exact ⟨k + 1, by omega, by go_num, by rw [HP.out]⟩
      case measure => simp [intOf]; omega
    · have hk9 : k = n := by omega
      go_wp2
      go_ret
      exact ⟨rfl, rfl⟩
end Go.Proofs.Ytoigogjmhkpdlaa
