/- Walks of the program's filter of keys: a key asked for, by the program and by the reference. -/
import Derived.Test.YtoigogjmhkpdlabBloomB
namespace Go.Proofs.Ytoigogjmhkpdlab
open Go.RowKit
open Crc Bl

/-- Whether a filter has a key. -/
def hasN (F : List Nat) (s : ByteArray) : Bool := F.isEmpty || (bitsN (keyN s) (8 * F.length)).all (bitAt F)
theorem hasN_none (s : ByteArray) : hasN [] s = true := rfl
theorem hasN_no {F L : List Nat} {s : ByteArray} (h0 : F ≠ []) (hL : L = bitsN (keyN s) (8 * F.length)) (p : Nat) (hp : p ∈ L) (hb : bitAt F p = false) : hasN F s = false := by
  unfold hasN
  have : F.isEmpty = false := by cases F <;> simp_all
  rw [this, ← hL, Bool.false_or, List.all_eq_false]
  exact ⟨p, hp, by rw [hb]; simp⟩
theorem hasN_yes {F L : List Nat} {s : ByteArray} (hL : L = bitsN (keyN s) (8 * F.length)) (h : ∀ j (hj : j < L.length), bitAt F L[j] = true) : hasN F s = true := by
  unfold hasN
  rw [← hL]
  have : L.all (bitAt F) = true := by
    rw [List.all_eq_true]
    intro p hp
    obtain ⟨j, hj, rfl⟩ := List.getElem_of_mem hp
    exact h j hj
  rw [this, Bool.or_true]
theorem u8_bit_at (x r : Nat) (hx : x < 256) : bits .and .u8 ((x : Int) / 2 ^ r) 1 = ((x / 2 ^ r % 2 : Nat) : Int) := by
  have h : x / 2 ^ r < 256 := Nat.lt_of_le_of_lt (Nat.div_le_self _ _) hx
  have e : (x : Int) / 2 ^ r = ((x / 2 ^ r : Nat) : Int) := by rw [Int.natCast_ediv, Int.natCast_pow]; rfl
  rw [e, show (1 : Int) = ((1 : Nat) : Int) from rfl, u8_and_nat _ 1 h (by decide), Nat.and_one_is_mod]
theorem bitAt_div {F : List Nat} {p x : Nat} (hp : p / 8 < F.length) (hx : x = F[p / 8]) : bitAt F p = decide (x / 2 ^ (p % 8) % 2 = 1) := by
  unfold bitAt
  have : F.getD (p / 8) 0 = x := by rw [hx]; simp [hp]
  rw [this, bit_of]

set_option maxRecDepth 100000 in
set_option maxHeartbeats 1600000 in
theorem has_any (A : Option Addr) (F : List Nat) (c : Nat) (s : ByteArray) (hF : Small F) (hm : F.length ≤ 1000) (hs : s.size ≤ 140737488351000) (W : World) (hr : Rd bv W A F) :
    Calls Try.prog 19 #[.slice A F.length c, .string s] W fun e W' => e = .returned (.bool (hasN F s)) ∧ Below W.heap.size W W' := by
  have HR := Lib.hid hr
  clear hr
  by_cases h0 : F = []
  · subst h0
    go_enter Try.func19, Try.ntmps19
    go_wp2
    go_ret
    exact ⟨rfl, Below.refl _ _⟩
  · have hpos : 0 < F.length := List.length_pos_iff.2 h0
    have hz : ((F.length : Int) == 0) = false := by rw [beq_eq_false_iff_ne]; omega
    have H0 := Lib.hid h0
    clear h0
    go_enter Try.func19, Try.ntmps19
    go_wp2_with (go_at_call 17; refine (bits_i s _ (8 * F.length) (by omega) (by omega) (by omega) hs _).mono ?_; rintro e w2 ⟨L, A3, c3, HL, rfl, hoL, hbL⟩)
    have hLl : L.length ≤ 3 ∧ 3 ≤ L.length := by rw [HL.out, bitsN_length]; omega
    have HLp := Lib.hid (show ∀ p ∈ L, p < 8 * F.length by rw [HL.out]; exact bitsN_lt _ _ (by omega))
    go_loop [16] (fun i => ∃ j : Nat, j ≤ L.length ∧ i = .int .i64 j ∧ Hid (∀ k (h : k < L.length), k < j → bitAt F L[k] = true)) (fun i => L.length - (intOf i).toNat)
    case atStart => exact ⟨0, by omega, rfl, Lib.hid (fun k h hk => by omega)⟩
    case round =>
      obtain ⟨j, hj, rfl, HJ⟩ := hrel
      by_cases hj8 : j < L.length
      · obtain ⟨aL, rfl, hcL⟩ := hoL.rd (by omega)
        obtain ⟨aF, rfl, hcF⟩ := (HR.out.below hbL (Nat.le_refl _)) hpos
        have hcl := hcL j hj8
        obtain ⟨p, hp⟩ : ∃ p, p = L[j] := ⟨_, rfl⟩
        have hpl : p < 8 * F.length := by rw [hp]; exact HLp.out _ (List.getElem_mem _)
        have hpm : p ∈ L := by rw [hp]; exact List.getElem_mem _
        rw [← hp] at hcl
        have HP := Lib.hid hp
        have HPm := Lib.hid hpm
        have hpF : p / 8 < F.length := by omega
        have hcg := hcF (p / 8) hpF
        obtain ⟨x, hx⟩ : ∃ x, x = F[p / 8] := ⟨_, rfl⟩
        have hxl : x < 256 := by rw [hx]; exact hF _ (List.getElem_mem _)
        have HB := Lib.hid (bitAt_div hpF hx)
        rw [← hx] at hcg
        have HU := Lib.hid (u8_bit_at x (p % 8) hxl)
        unfold iv at hcl
        unfold bv at hcg
        clear hp hx hpm hcL hcF
        by_cases hbit : x / 2 ^ (p % 8) % 2 = 1
        · have hq : (bits .and .u8 ((x : Int) / 2 ^ (p % 8)) 1 == 0) = false := by rw [HU.out, beq_eq_false_iff_ne]; omega
          have HJ2 := Lib.hid (show ∀ k (h : k < L.length), k < j + 1 → bitAt F L[k] = true by
            intro k h hk
            by_cases e : k = j
            · subst e; rw [← HP.out, HB.out]; simpa using hbit
            · exact HJ.out k h (by omega))
          clear hbit
          go_wp2
          go_round
          case rel => exact ⟨j + 1, by omega, by go_num, HJ2⟩
          case measure => simp [intOf]; omega
        · have hq : (bits .and .u8 ((x : Int) / 2 ^ (p % 8)) 1 == 0) = true := by rw [HU.out, beq_iff_eq]; omega
          have HN := Lib.hid (hasN_no H0.out HL.out p HPm.out (by rw [HB.out]; simpa using hbit))
          clear hbit
          go_wp2
          go_ret
          exact ⟨by rw [HN.out]; rfl, hbL⟩
      · have HY := Lib.hid (hasN_yes HL.out (fun k hk => HJ.out k hk (by omega)))
        go_wp2
        go_ret
        exact ⟨by rw [HY.out]; rfl, hbL⟩

set_option maxRecDepth 100000 in
set_option maxHeartbeats 1600000 in
theorem refhas_any (A : Option Addr) (F : List Nat) (c : Nat) (s : ByteArray) (hF : Small F) (hm : F.length ≤ 1000) (hs : s.size ≤ 140737488351000) (W : World) (hr : Rd bv W A F) :
    Calls Try.prog 20 #[.slice A F.length c, .string s] W fun e W' => e = .returned (.bool (hasN F s)) ∧ Below W.heap.size W W' := by
  have HR := Lib.hid hr
  clear hr
  by_cases h0 : F = []
  · subst h0
    go_enter Try.func20, Try.ntmps20
    go_wp2
    go_ret
    exact ⟨rfl, Below.refl _ _⟩
  · have hpos : 0 < F.length := List.length_pos_iff.2 h0
    have hz : ((F.length : Int) == 0) = false := by rw [beq_eq_false_iff_ne]; omega
    have H0 := Lib.hid h0
    clear h0
    go_enter Try.func20, Try.ntmps20
    go_wp2_with (go_at_call 18; refine (refbits_i s _ (8 * F.length) (by omega) (by omega) (by omega) hs _).mono ?_; rintro e w2 ⟨L, A3, c3, HL, rfl, hoL, hbL⟩)
    have hLl : L.length ≤ 3 ∧ 3 ≤ L.length := by rw [HL.out, bitsN_length]; omega
    have HLp := Lib.hid (show ∀ p ∈ L, p < 8 * F.length by rw [HL.out]; exact bitsN_lt _ _ (by omega))
    go_loop [6, 7, 8] (fun i _ _ => ∃ j : Nat, j ≤ L.length ∧ i = .int .i64 j ∧ Hid (∀ k (h : k < L.length), k < j → bitAt F L[k] = true)) (fun i _ _ => L.length - (intOf i).toNat)
    case atStart => exact ⟨0, by omega, rfl, Lib.hid (fun k h hk => by omega)⟩
    case round =>
      obtain ⟨j, hj, rfl, HJ⟩ := hrel
      by_cases hj8 : j < L.length
      · obtain ⟨aL, rfl, hcL⟩ := hoL.rd (by omega)
        obtain ⟨aF, rfl, hcF⟩ := (HR.out.below hbL (Nat.le_refl _)) hpos
        have hcl := hcL j hj8
        obtain ⟨p, hp⟩ : ∃ p, p = L[j] := ⟨_, rfl⟩
        have hpl : p < 8 * F.length := by rw [hp]; exact HLp.out _ (List.getElem_mem _)
        have hpm : p ∈ L := by rw [hp]; exact List.getElem_mem _
        rw [← hp] at hcl
        have HP := Lib.hid hp
        have HPm := Lib.hid hpm
        have hpF : p / 8 < F.length := by omega
        have hcg := hcF (p / 8) hpF
        obtain ⟨x, hx⟩ : ∃ x, x = F[p / 8] := ⟨_, rfl⟩
        have hxl : x < 256 := by rw [hx]; exact hF _ (List.getElem_mem _)
        have HB := Lib.hid (bitAt_div hpF hx)
        rw [← hx] at hcg
        unfold iv at hcl
        unfold bv at hcg
        clear hp hx hpm hcL hcF
        go_wp2
        go_loop [7, 8] (fun y k => ∃ m Y : Nat, m ≤ p % 8 ∧ k = .int .i64 m ∧ y = .int .i64 Y ∧ Y < 256 ∧ Hid (Y = x / 2 ^ m)) (fun _ k => p % 8 - (intOf k).toNat)
        case atStart => exact ⟨0, x, by omega, rfl, rfl, hxl, Lib.hid (by rw [Nat.pow_zero, Nat.div_one])⟩
        case round =>
          obtain ⟨m, Y, hm8, rfl, rfl, hY, HY⟩ := hrel
          by_cases hmp : m < p % 8
          · have HY2 := Lib.hid (show Y / 2 = x / 2 ^ (m + 1) by rw [HY.out, Nat.div_div_eq_div_mul, Nat.pow_succ])
            go_wp2
            go_round
            case rel => exact ⟨m + 1, Y / 2, by omega, by go_num, by go_num, by omega, HY2⟩
            case measure => simp [intOf]; omega
          · have HY3 := Lib.hid (show Y = x / 2 ^ (p % 8) by rw [HY.out, show m = p % 8 by omega])
            by_cases hbit : Y % 2 = 1
            · have hq : (((Y : Int) % 2) == 0) = false := by rw [beq_eq_false_iff_ne]; omega
              have HJ2 := Lib.hid (show ∀ k (h : k < L.length), k < j + 1 → bitAt F L[k] = true by
                intro k h hk
                by_cases e : k = j
                · subst e; rw [← HP.out, HB.out, ← HY3.out]; simpa using hbit
                · exact HJ.out k h (by omega))
              clear hbit
              go_wp2
              go_round
              case rel => exact ⟨j + 1, by omega, by go_num, HJ2⟩
              case measure => simp [intOf]; omega
            · have hq : (((Y : Int) % 2) == 0) = true := by rw [beq_iff_eq]; omega
              have HN := Lib.hid (hasN_no H0.out HL.out p HPm.out (by rw [HB.out, ← HY3.out]; simpa using hbit))
              clear hbit
              go_wp2
              go_ret
              exact ⟨by rw [HN.out]; rfl, hbL⟩
      · have HY := Lib.hid (hasN_yes HL.out (fun k hk => HJ.out k hk (by omega)))
        go_wp2
        go_ret
        exact ⟨by rw [HY.out]; rfl, hbL⟩
end Go.Proofs.Ytoigogjmhkpdlab
