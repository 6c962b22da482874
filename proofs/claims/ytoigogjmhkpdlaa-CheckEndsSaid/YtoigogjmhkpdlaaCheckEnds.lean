/- The walk of CheckEnds. -/
import Derived.Test.YtoigogjmhkpdlaaCheckSums
namespace Go.Proofs.Ytoigogjmhkpdlaa
open Go.RowKit
open Crc

def four (x : Nat) : List Nat := [x % 256, x / 256 % 256, x / 65536 % 256, x / 16777216]
theorem four_bytes (x : Nat) (h : x < 4294967296) : Bytes (four x) := by
  intro b hb
  simp only [four, List.mem_cons, List.not_mem_nil, or_false] at hb
  omega
theorem sumN_four (l : List Nat) : sumN (l ++ four (sumN l)) = it 32 all32 ^^^ all32 := by
  unfold sumN four
  rw [crcN_append, crcN_four]
  congr 2
  rw [← Nat.xor_assoc, Nat.xor_self, Nat.zero_xor]

theorem bytes_ends {a L M : List Nat} (ha : Bytes a) (hx : sumN a < 4294967296) (hM : M = L ++ four (sumN a)) (hL : L = [] ++ a) : Bytes M := by
  rw [hM, hL]
  intro x h
  rcases List.mem_append.1 h with h | h
  · exact ha x h
  · exact four_bytes _ hx x h

theorem checkEnds_any (A : Option Addr) (a : List Nat) (ca : Nat) (B : Option Addr) (b : List Nat) (cb : Nat) (W : World) (ha : Bytes a) (hb : Bytes b) (hrA : RdB W A a) (hrB : RdB W B b)
    (hma : a.length ≤ maxLen) (hmb : b.length ≤ maxLen) :
    Calls Try.prog 6 #[.slice A a.length ca, .slice B b.length cb] W fun e W' => e = .returned (.bool true) ∧ Below W.heap.size W W' := by
  obtain ⟨i0, hi, hz0, hz1, hz2⟩ := info_parts Try.infoB
  have HA := Lib.hid hrA
  have HB := Lib.hid hrB
  clear hrA hrB
  unfold maxLen at hma hmb
  by_cases h1 : a.length ≤ 1000
  · have hd1 : decide ((1000 : Int) < (a.length : Int)) = false := by simp; omega
    by_cases h2 : b.length ≤ 1000
    · have hd2 : decide ((1000 : Int) < (b.length : Int)) = false := by simp; omega
      have hxa := sumN_lt ha
      have hxb := sumN_lt hb
      go_enter Try.func6, Try.ntmps6
      go_wp2_with (first
        | (at_builtin; refine wpList_append_bytes _ rfl (.tmp 26) (.tmp 27) _ rfl W.heap.size 5 i0 Try.underlying22 hi hz0 hz1 hz2 _ _ [] rfl (OwnB.lit _ _ _ _ [] hsz (Nat.zero_le _) rfl) _ _ a rfl (HA1.out.alloc _) (by simp; omega) (by simp; omega) ?_; intro L A2 c2 w2 HL ho2 hb2; have hB2 := (hb1.alloc hsz (.cells #[] 5)).trans hb2; have hsz2 := hB2.size; have hL : L.length ≤ 1000 := (by rw [HL.out]; exact h1))
        | (at_builtin; refine wpList_append_bytes _ rfl (.tmp 28) (.tmp 43) _ rfl W.heap.size 5 i0 Try.underlying22 hi hz0 hz1 hz2 _ _ L rfl (ho2.alloc _) _ _ (four (sumN a)) rfl (rd_new _ _ _ _ _ _ rfl (by simp [four, bv])) (by simp [four]; omega) (by simp; omega) ?_; intro M A3 c3 w3 HM ho3 hb3; have hB3 := (hB2.alloc hsz2 (.cells #[.int .u8 (((sumN a : Nat) : Int) % 256), .int .u8 (((sumN a : Nat) : Int) / 256 % 256), .int .u8 (((sumN a : Nat) : Int) / 65536 % 256), .int .u8 (((sumN a : Nat) : Int) / 16777216)] 5)).trans hb3; have hsz3 := hB3.size; have HB3 := Lib.hid (HB.out.below hB3 (Nat.le_refl _)))
        | (at_builtin; refine wpList_append_bytes _ rfl (.tmp 45) (.tmp 46) _ rfl w3.heap.size 5 i0 Try.underlying22 hi hz0 hz1 hz2 _ _ [] rfl (OwnB.lit _ _ _ _ [] (Nat.le_refl _) (Nat.zero_le _) rfl) _ _ b rfl (HB3.out.alloc _) (by simp; omega) (by simp) ?_; intro L4 A4 c4 w4 HL4 ho4 hb4; have hB4 := ((Below.refl w3.heap.size w3).alloc (Nat.le_refl _) (.cells #[] 5)).trans hb4; have hsz4 := hB4.size; have hL4 : L4.length ≤ 1000 := (by rw [HL4.out]; exact h2))
        | (at_builtin; refine wpList_append_bytes _ rfl (.tmp 47) (.tmp 62) _ rfl w3.heap.size 5 i0 Try.underlying22 hi hz0 hz1 hz2 _ _ L4 rfl (ho4.alloc _) _ _ (four (sumN b)) rfl (rd_new _ _ _ _ _ _ rfl (by simp [four, bv])) (by simp [four]; omega) (by simp; omega) ?_; intro N A5 c5 w5 HN ho5 hb5; have hB5 := (hB4.alloc hsz4 (.cells #[.int .u8 (((sumN b : Nat) : Int) % 256), .int .u8 (((sumN b : Nat) : Int) / 256 % 256), .int .u8 (((sumN b : Nat) : Int) / 65536 % 256), .int .u8 (((sumN b : Nat) : Int) / 16777216)] 5)).trans hb5; have HM5 := Lib.hid (ho3.rd.below hB5 (Nat.le_refl _)); have HN5 := Lib.hid ho5.rd; have hM : M.length ≤ 2000 := (by rw [HM.out, HL.out]; simp [four]; omega); have hN : N.length ≤ 2000 := (by rw [HN.out, HL4.out]; simp [four]; omega); have hMb := bytes_ends ha hxa HM.out HL.out; have hNb := bytes_ends hb hxb HN.out HL4.out; have hq : (((sumN M : Nat) : Int) == ((sumN N : Nat) : Int)) = true := (by rw [HM.out, HN.out, HL.out, HL4.out, List.nil_append, List.nil_append, sumN_four, sumN_four]; simp))
        | (go_at_call 12; refine (awake02_any _).mono ?_; rintro e w1 ⟨rfl, hb1⟩; have hsz := hb1.size; have HA1 := Lib.hid (HA.out.below hb1 (Nat.le_refl _)); have HB1 := Lib.hid (HB.out.below hb1 (Nat.le_refl _)))
        | (go_at_call 13; first | ((with_reducible refine (sum_any A a ca ha (by omega) _ HA1.out).mono ?_); rintro e w' ⟨rfl, rfl⟩) | ((with_reducible refine (sum_any B b cb hb (by omega) _ HB1.out).mono ?_); rintro e w' ⟨rfl, rfl⟩) | ((with_reducible refine (sum_any A3 M c3 hMb (by omega) _ HM5.out).mono ?_); rintro e w' ⟨rfl, rfl⟩) | ((with_reducible refine (sum_any A5 N c5 hNb (by omega) _ HN5.out).mono ?_); rintro e w' ⟨rfl, rfl⟩)))
      go_ret
      exact ⟨rfl, below_next hB3 hB5⟩
    · have hd2 : decide ((1000 : Int) < (b.length : Int)) = true := by simp; omega
      go_enter Try.func6, Try.ntmps6
      go_wp2_with fail
      refine (awake02_any _).mono ?_
      rintro e w1 ⟨rfl, hb1⟩
      go_wp2_with fail
      refine (awake02_any _).mono ?_
      rintro e w2 ⟨rfl, hb2⟩
      go_wp2
      go_ret
      exact ⟨rfl, below_next hb1 hb2⟩
  · have hd1 : decide ((1000 : Int) < (a.length : Int)) = true := by simp; omega
    go_enter Try.func6, Try.ntmps6
    go_wp2_with fail
    refine (awake02_any _).mono ?_
    rintro e w1 ⟨rfl, hb1⟩
    go_wp2_with fail
    refine (awake02_any _).mono ?_
    rintro e w2 ⟨rfl, hb2⟩
    go_wp2
    go_ret
    exact ⟨rfl, below_next hb1 hb2⟩
end Go.Proofs.Ytoigogjmhkpdlaa
