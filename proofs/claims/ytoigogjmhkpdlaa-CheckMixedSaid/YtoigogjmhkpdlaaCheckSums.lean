/- The walk of CheckSums. -/
import Derived.Test.YtoigogjmhkpdlaaCheckC
namespace Go.Proofs.Ytoigogjmhkpdlaa
open Go.RowKit
open Crc

theorem Try.infoB : (Try.prog.info? 5).map (fun i => (i.zero, i.size, i.bytes)) = some (some (.int .u8 0), 1, 1) := by kernel_rfl

theorem sumN_append (a b : List Nat) : sumN (a ++ b) = moreN (sumN a) b := by
  unfold sumN moreN
  rw [crcN_append, Nat.xor_assoc, Nat.xor_self, Nat.xor_zero]

theorem checkSums_any (A : Option Addr) (a : List Nat) (ca : Nat) (B : Option Addr) (b : List Nat) (cb : Nat) (s : Nat) (W : World) (ha : Bytes a) (hb : Bytes b) (hrA : RdB W A a) (hrB : RdB W B b)
    (hma : a.length ≤ maxLen) (hmb : b.length ≤ maxLen) :
    Calls Try.prog 3 #[.slice A a.length ca, .slice B b.length cb, .int .u32 (s : Int)] W fun e W' => e = .returned (.bool true) ∧ Below W.heap.size W W' := by
  obtain ⟨i0, hi, hz0, hz1, hz2⟩ := info_parts Try.infoB
  have HA := Lib.hid hrA
  have HB := Lib.hid hrB
  clear hrA hrB
  unfold maxLen at hma hmb
  by_cases h1 : a.length ≤ 1000
  · have hd1 : decide ((1000 : Int) < (a.length : Int)) = false := by simp; omega
    by_cases h2 : b.length ≤ 1000
    · have hd2 : decide ((1000 : Int) < (b.length : Int)) = false := by simp; omega
      go_enter Try.func3, Try.ntmps3
      go_wp2_with (first
        | (at_builtin; refine wpList_append_bytes _ rfl (.tmp 21) (.tmp 22) _ rfl W.heap.size 5 i0 Try.underlying22 hi hz0 hz1 hz2 _ _ [] rfl (OwnB.lit _ _ _ _ [] hsz (Nat.zero_le _) rfl) _ _ a rfl (HA1.out.alloc _) (by simp; omega) (by simp; omega) ?_; intro L A2 c2 w2 HL ho2 hb2; have hB2 := (hb1.alloc hsz (.cells #[] 5)).trans hb2; have hsz2 := hB2.size; have hL : L.length ≤ 1000 := (by rw [HL.out]; exact h1))
        | (at_builtin; refine wpList_append_bytes _ rfl (.tmp 23) (.tmp 24) _ rfl W.heap.size 5 i0 Try.underlying22 hi hz0 hz1 hz2 _ _ L rfl ho2 _ _ b rfl (HB.out.below hB2 (Nat.le_refl _)) (by omega) hsz2 ?_; intro M A3 c3 w3 HM ho3 hb3; have hB3 := hB2.trans hb3; have hM : M.length ≤ 2000 := (by rw [HM.out, List.length_append]; omega); have hMb : Bytes M := (by rw [HM.out, HL.out]; intro x hx; rcases List.mem_append.1 hx with h | h; exact ha x h; exact hb x h); have HA3 := Lib.hid (HA.out.below hB3 (Nat.le_refl _)); have HB3 := Lib.hid (HB.out.below hB3 (Nat.le_refl _)); have HM3 := Lib.hid ho3.rd; have hq1 : (((moreN (sumN a) b : Nat) : Int) == ((sumN M : Nat) : Int)) = true := (by rw [HM.out, HL.out, List.nil_append, sumN_append]; simp); have hq2 : ((((sumN a : Nat) : Int) == (s : Int)) == ((s : Int) == ((sumN a : Nat) : Int))) = true := (by rw [beq_iff_eq]; exact Bool.beq_comm))
        | (go_at_call 12; refine (awake02_any _).mono ?_; rintro e w1 ⟨rfl, hb1⟩; have hsz := hb1.size; have HA1 := Lib.hid (HA.out.below hb1 (Nat.le_refl _)); have HB1 := Lib.hid (HB.out.below hb1 (Nat.le_refl _)))
        | (go_at_call 13; refine (sum_any A a ca ha (by omega) _ HA3.out).mono ?_; rintro e w' ⟨rfl, rfl⟩)
        | (go_at_call 14; first | ((with_reducible refine (refsum_any A a ca ha (by omega) _ HA3.out).mono ?_); rintro e w' ⟨rfl, rfl⟩) | ((with_reducible refine (refsum_any A3 M c3 hMb (by omega) _ HM3.out).mono ?_); rintro e w' ⟨rfl, rfl⟩))
        | (go_at_call 15; refine (more_any _ (sumN_lt ha) B b cb hb (by omega) _ HB3.out).mono ?_; rintro e w' ⟨rfl, rfl⟩)
        | (go_at_call 16; refine (good_any A a ca _ ha (by omega) _ HA3.out).mono ?_; rintro e w' ⟨rfl, rfl⟩))
      go_ret
      exact ⟨rfl, hB3⟩
    · have hd2 : decide ((1000 : Int) < (b.length : Int)) = true := by simp; omega
      go_enter Try.func3, Try.ntmps3
      go_wp2_with fail
      refine (awake02_any _).mono ?_
      rintro e w1 ⟨rfl, hb1⟩
      go_wp2_with fail
      refine (awake02_any _).mono ?_
      rintro e w2 ⟨rfl, hb2⟩
      go_wp2
      go_ret
      exact ⟨rfl, below_next hb1 hb2⟩
  · have hd1 : decide ((1000 : Int) < (a.length : Int)) = true := by simp; omega
    go_enter Try.func3, Try.ntmps3
    go_wp2_with fail
    refine (awake02_any _).mono ?_
    rintro e w1 ⟨rfl, hb1⟩
    go_wp2_with fail
    refine (awake02_any _).mono ?_
    rintro e w2 ⟨rfl, hb2⟩
    go_wp2
    go_ret
    exact ⟨rfl, below_next hb1 hb2⟩
end Go.Proofs.Ytoigogjmhkpdlaa
