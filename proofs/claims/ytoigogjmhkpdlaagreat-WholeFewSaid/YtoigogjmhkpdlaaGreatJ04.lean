/- A part of the proof of WholeFew: the texts Wire, Slices, Frame, Frame2, Scan, Slot. -/
import Derived.Test.YtoigogjmhkpdlaaGreatJ02
import Derived.BigQuiet
import Derived.BigRegion
import Derived.OwnWalk
import Derived.RegionTactic
import Derived.Lib.AppendZeros
import Derived.Deep.RegionHeld3
set_option maxHeartbeats 4000000
set_option maxRecDepth 100000
namespace Go.Proofs.YtoigogjmhkpdlaaGreat
open Go.RowKit
def NewB (W : World) (l : List Nat) (W' : World) (e : Ending) : Prop :=
  ∃ (L : List Nat) (A : Option Addr) (c : Nat), Hid (L = l) ∧ e = .returned (.slice A L.length c) ∧ OwnB 5 W' W.heap.size A c L ∧ L.length ≤ c ∧ Below W.heap.size W W'
theorem OwnB.cap {e : TypeId} {w : World} {base : Nat} {A : Option Addr} {c : Nat} {l : List Nat} (h : OwnB e w base A c l) : l.length ≤ c := by
  rcases h.2 with ⟨h0, h1⟩ | ⟨g, cap, cur, hv, _, _, hn, _⟩
  · omega
  · injection hv with _ _ hc; omega
theorem rdb_none {W : World} {l : List Nat} (h : RdB W none l) : l = [] := by
  rcases l with _ | ⟨b, l⟩
  · rfl
  · obtain ⟨ad, h, _⟩ := h (by simp)
    cases h
theorem RdB.take {W : World} {A : Option Addr} {l : List Nat} (h : RdB W A l) (n : Nat) : RdB W A (l.take n) := by
  intro h0
  rw [List.length_take] at h0
  obtain ⟨ad, rfl, hc⟩ := h (by omega)
  refine ⟨ad, rfl, fun j hj => ?_⟩
  rw [List.length_take] at hj
  rw [hc j (by omega)]
  simp
theorem RdB.drop {W : World} {ad : Addr} {l : List Nat} (h : RdB W (some ad) l) (n : Nat) : RdB W (some (ad.add n)) (l.drop n) := by
  intro h0
  rw [List.length_drop] at h0
  obtain ⟨ad', e, hc⟩ := h (by omega)
  injection e with e; subst e
  refine ⟨_, rfl, fun j hj => ?_⟩
  rw [List.length_drop] at hj
  have := hc (n + j) (by omega)
  have ea : (ad.add n).add j = ad.add (n + j) := by
    unfold Addr.add
    by_cases h1 : n = 0 <;> by_cases h2 : j = 0 <;> simp [h1, h2, Nat.add_assoc]
  rw [ea, this]
  simp
def numN (n : Nat) : List Nat := [n / 16777216 % 256, n / 65536 % 256, n / 256 % 256, n % 256]
theorem numN_bytes (n : Nat) : Bytes (numN n) := by
  intro b hb
  simp only [numN, List.mem_cons, List.not_mem_nil, or_false] at hb
  omega
def unNum (l : List Nat) : Nat := ((l.getD 0 0 * 256 + l.getD 1 0) * 256 + l.getD 2 0) * 256 + l.getD 3 0
theorem unNum_numN (n : Nat) (h : n < 4294967296) : unNum (numN n) = n := by
  simp [unNum, numN]; omega
theorem num_any (n : Nat) (hn : n ≤ 4294967295) (W : World) :
    Calls Tryz.prog 55 #[.int .i64 (n : Int)] W fun e W' => NewB W (numN n) W' e := by
  have hd : decide ((4294967295 : Int) < (n : Int)) = false := by simp; omega
  have hd0 : decide ((n : Int) < 0) = false := by simp
  go_enter Tryz.func55, Tryz.ntmps55
  go_wp2
  go_ret
  refine ⟨numN n, some ⟨W.heap.size, 0, none⟩, 4, Lib.hid rfl, rfl, OwnB.lit _ W W.heap.size _ (numN n) (Nat.le_refl _) (by simp [numN, maxLen]) ?_, by simp [numN], (Below.refl _ _).alloc (Nat.le_refl _) _⟩
  simp [numN, bv]; omega
theorem num_i (x : Int) (n : Nat) (hx : x = (n : Int)) (hn : n ≤ 4294967295) (W : World) :
    Calls Tryz.prog 55 #[.int .i64 x] W fun e W' => NewB W (numN n) W' e := by subst hx; exact num_any n hn W
theorem clone_any (A : Option Addr) (l : List Nat) (c : Nat) (hm : l.length ≤ 140737488355328) (W : World) (hr : RdB W A l) :
    Calls Tryz.prog 47 #[.slice A l.length c] W fun e W' => NewB W l W' e := by
  obtain ⟨i0, hi, hz0, hz1, hz2⟩ := info_parts Tryz.infoB
  have hq := fun w n => Lib.run_eql_slice_nil (P := Tryz.prog) w 67 5 A n c 0 0 Tryz.underlying67
  rcases A with _ | ad
  · obtain rfl := rdb_none hr
    clear hr
    have hq0 := fun w => hq w 0
    go_enter Tryz.func47, Tryz.ntmps47
    go_wp2
    go_ret
    exact ⟨[], none, 0, Lib.hid rfl, rfl, OwnB.nil _ _ _, Nat.le_refl _, Below.refl _ _⟩
  · have HR := Lib.hid hr
    clear hr
    go_enter Tryz.func47, Tryz.ntmps47
    go_wp2_with (at_builtin; refine wpList_append_bytes _ rfl (.tmp 5) (.tmp 6) _ rfl W.heap.size 5 i0 Tryz.underlying67 hi hz0 hz1 hz2 _ _ [] rfl (OwnB.lit _ _ _ _ [] (Nat.le_refl _) (Nat.zero_le _) rfl) _ _ l rfl (HR.out.alloc _) (by simp; omega) (by simp) ?_; intro L A2 c2 w2 HL ho2 hb2; have hB2 := ((Below.refl W.heap.size W).alloc (Nat.le_refl _) (.cells #[] 5)).trans hb2)
    go_ret
    exact ⟨L, A2, c2, Lib.hid (by rw [HL.out]; rfl), rfl, ho2, ho2.cap, hB2⟩
theorem clone_n (A : Option Addr) (l : List Nat) (n c : Nat) (hn : l.length = n) (hm : l.length ≤ 140737488355328) (W : World) (hr : RdB W A l) :
    Calls Tryz.prog 47 #[.slice A n c] W fun e W' => NewB W l W' e := by subst hn; exact clone_any A l c hm W hr
def textN (s : ByteArray) : List Nat := numN s.size ++ keyN s
theorem text_any (s : ByteArray) (hs : s.size ≤ 4294967295) (W : World) :
    Calls Tryz.prog 56 #[.string s] W fun e W' => NewB W (textN s) W' e := by
  obtain ⟨i0, hi, hz0, hz1, hz2⟩ := info_parts Tryz.infoB
  go_enter Tryz.func56, Tryz.ntmps56
  go_wp2_with fail
  refine (num_any s.size hs _).mono ?_
  rintro e w1 ⟨L, A1, c1, HL, rfl, ho1, hc1, hb1⟩
  have hl : L.length ≤ 4 := by rw [HL.out]; simp [numN]
  have hs1 := hb1.size
  go_wp2_with (at_builtin; refine wpList_append_key _ rfl (.tmp 5) (.tmp 6) 67 9 rfl W.heap.size 5 i0 Tryz.underlying67 Tryz.underlying9 hi hz0 hz1 hz2 _ _ L rfl ho1 s rfl (by omega) hs1 ?_; intro M A2 c2 w2 HM ho2 hb2)
  go_ret
  exact ⟨M, A2, c2, Lib.hid (by rw [HM.out, HL.out]; rfl), rfl, ho2, ho2.cap, hb1.trans hb2⟩
def CutNumPost (W : World) (l : List Nat) (W' : World) (e : Ending) : Prop :=
  (l.length < 4 ∧ e = .returned (.tuple #[.int .i64 0, .slice none 0 0, .bool false]) ∧ W = W') ∨
  (4 ≤ l.length ∧ ∃ (L : List Nat) (A : Option Addr) (c : Nat), Hid (L = l.drop 4) ∧ e = .returned (.tuple #[.int .i64 (unNum l : Nat), .slice A L.length c, .bool true]) ∧ OwnB 5 W' W.heap.size A c L ∧ L.length ≤ c ∧ Below W.heap.size W W')
theorem i64_or_nat (a b : Nat) (ha : a < 9223372036854775808) (hb : b < 9223372036854775808) : bits .or .i64 (a : Int) (b : Int) = ((a ||| b : Nat) : Int) := by
  have hx : a ||| b < 2 ^ 63 := Nat.or_lt_two_pow (by omega) (by omega)
  show IntKind.i64.wrap ((BitVec.ofInt 64 (a : Int) ||| BitVec.ofInt 64 (b : Int)).toNat : Int) = _
  rw [BitVec.toNat_or, ofInt_u64 a (by omega), ofInt_u64 b (by omega), IntKind.wrap_i64]
  omega
theorem or_small (a b : Nat) (hb : b < 256) : (a * 256) ||| b = a * 256 + b := by
  have := Nat.two_pow_add_eq_or_of_lt (i := 8) (b := b) (by simpa using hb) a
  rw [show (2 : Nat) ^ 8 = 256 from rfl, Nat.mul_comm] at this
  exact this.symm
def hi (l : List Nat) (k : Nat) : Nat := (l.take k).foldl (fun a b => a * 256 + b) 0
theorem hi_succ {l : List Nat} {k : Nat} (h : k < l.length) : hi l (k + 1) = hi l k * 256 + l[k] := by
  unfold hi; rw [List.take_succ_eq_append_getElem h, List.foldl_append]; rfl
theorem hi_lt {l : List Nat} (hb : Bytes l) : ∀ k, hi l k < 256 ^ k := by
  intro k
  induction k with
  | zero => simp [hi]
  | succ k ih =>
    by_cases h : k < l.length
    · rw [hi_succ h]
      have := hb l[k] (List.getElem_mem _)
      rw [Nat.pow_succ]; omega
    · have : hi l (k + 1) = hi l k := by unfold hi; rw [List.take_of_length_le (by omega), List.take_of_length_le (by omega)]
      rw [this, Nat.pow_succ]; omega
theorem hi_four {l : List Nat} (h : 4 ≤ l.length) : hi l 4 = unNum l := by
  match l, h with
  | a :: b :: c :: d :: l, _ => simp [hi, unNum]
theorem cutnum_any (A : Option Addr) (l : List Nat) (c : Nat) (hl : Bytes l) (hc : l.length ≤ c) (hcm : c ≤ 9223372036854775807) (hm : l.length ≤ 140737488355328) (W : World) (hr : RdB W A l) :
    Calls Tryz.prog 160 #[.slice A l.length c] W fun e W' => CutNumPost W l W' e := by
  by_cases h4 : l.length < 4
  · have hd : decide ((l.length : Int) < 4) = true := by simp; omega
    go_enter Tryz.func160, Tryz.ntmps160
    go_wp2
    go_ret3
    exact .inl ⟨h4, rfl, rfl⟩
  · have hd : decide ((l.length : Int) < 4) = false := by simp; omega
    obtain ⟨ad, rfl, _⟩ := hr (by omega)
    have HR := Lib.hid hr
    have H5 := Lib.hid (RdB.drop hr 4)
    have hc2 := hr (by omega)
    obtain ⟨_, e, hcell⟩ := hc2
    injection e with e; subst e
    have HC := Lib.hid hcell
    clear hr hcell
    go_enter Tryz.func160, Tryz.ntmps160
    go_wp2
    go_loop [5, 14] (fun n i => ∃ k : Nat, k ≤ 4 ∧ i = .int .i64 k ∧ n = .int .i64 (hi l k : Nat)) (fun _ i => 4 - (intOf i).toNat)
    case atStart => exact ⟨0, by omega, rfl, rfl⟩
    case round =>
      obtain ⟨k, hk, rfl, rfl⟩ := hrel
      by_cases hk4 : k < 4
      · have hkl : k < l.length := by omega
        have hck := HC.out k hkl
        have hb := hl l[k] (List.getElem_mem _)
        have hlt : hi l k < 16777216 := Nat.lt_of_lt_of_le (hi_lt hl k) (Nat.le_trans (Nat.pow_le_pow_right (by decide) (show k ≤ 3 by omega)) (by decide))
        have HO := Lib.hid (i64_or_nat (hi l k * 256) l[k] (by omega) (by omega))
        have HE := Lib.hid (show hi l k * 256 ||| l[k] = hi l (k + 1) by rw [or_small _ _ hb, hi_succ hkl])
        go_wp2
        go_round
        case rel =>
          refine ⟨k + 1, by omega, by go_num, ?_⟩
          have e := HO.out
          rw [HE.out, Int.natCast_mul] at e
          exact congrArg (Value.int .i64) e
        case measure => simp [intOf]; omega
      · go_wp2_with fail
        all_goals
          refine (clone_n _ (l.drop 4) _ _ (by simp) (by simp; omega) _ (by first | exact H5.out | (rw [List.drop_of_length_le (by omega)]; exact RdB.nil _ _))).mono ?_
          rintro e w1 ⟨L, A1, c1, HL, rfl, ho1, hc1, hb1⟩
          go_wp2
          go_ret3
          obtain rfl : k = 4 := by omega
          exact .inr ⟨by omega, L, A1, c1, HL, by rw [hi_four (by omega)]; rfl, ho1, hc1, hb1⟩
def hasText (l : List Nat) : Bool := decide (4 ≤ l.length ∧ unNum l ≤ l.length - 4)
def textOf (l : List Nat) : ByteArray := strN ((l.drop 4).take (unNum l))
def CutTextPost (W : World) (l : List Nat) (W' : World) (e : Ending) : Prop :=
  (hasText l = false ∧ e = .returned (.tuple #[.string ByteArray.empty, .slice none 0 0, .bool false]) ∧ Below W.heap.size W W') ∨
  (hasText l = true ∧ ∃ (L : List Nat) (A : Option Addr) (c : Nat), Hid (L = l.drop (4 + unNum l)) ∧ e = .returned (.tuple #[.string (textOf l), .slice A L.length c, .bool true]) ∧ RdB W' A L ∧ L.length ≤ c ∧ c ≤ 9223372036854775807 ∧ Below W.heap.size W W')
theorem OwnB.capmax {e : TypeId} {w : World} {base : Nat} {A : Option Addr} {c : Nat} {l : List Nat} (h : OwnB e w base A c l) : c ≤ maxLen := by
  rcases h.2 with ⟨h0, h1⟩ | ⟨g, cap, cur, hv, _, _, hn, hc, _⟩
  · injection h0 with _ _ h; rw [h]; exact Nat.zero_le _
  · injection hv with _ _ h; omega
theorem run_conv_bytes_n {P : Program} (w : World) (src dst e : TypeId) (hs : P.underlying src = some (.slice e)) (he : P.underlying e = some (.int .u8)) (hd : P.underlying dst = some .string) (A : Option Addr) (l : List Nat) (n c : Nat) (hn : l.length = n) (hr : RdB w A l) :
    (convert src dst (.slice A n c)).run P w = .ok (.string (strN l)) w := by
  subst hn; exact run_conv_bytes w src dst e hs he hd A l c hr
theorem cuttext_any (A : Option Addr) (l : List Nat) (c : Nat) (hl : Bytes l) (hc : l.length ≤ c) (hcm : c ≤ 9223372036854775807) (hm : l.length ≤ 140737488355328) (W : World) (hr : RdB W A l) :
    Calls Tryz.prog 185 #[.slice A l.length c] W fun e W' => CutTextPost W l W' e := by
  go_enter Tryz.func185, Tryz.ntmps185
  go_wp2_with fail
  refine (cutnum_any A l c hl hc hcm hm _ hr).mono ?_
  rintro e w1 (⟨h4, rfl, rfl⟩ | ⟨h4, L, A1, c1, HL, rfl, ho1, hc1, hb1⟩)
  · go_wp2
    go_ret3
    exact .inl ⟨by unfold hasText; simp; omega, rfl, Below.refl _ _⟩
  · have hLl : L.length = l.length - 4 := by rw [HL.out, List.length_drop]
    obtain ⟨n, hn⟩ : ∃ n, n = unNum l := ⟨_, rfl⟩
    have HN := Lib.hid hn
    rw [← hn]
    clear hn
    by_cases hbig : L.length < n
    · have hd : decide ((L.length : Int) < (n : Int)) = true := by simp; omega
      go_wp2
      go_ret3
      exact .inl ⟨by have := HN.out; unfold hasText; simp; omega, rfl, hb1⟩
    · have hd : decide ((L.length : Int) < (n : Int)) = false := by simp; omega
      have HNl := Lib.hid (show hasText l = true by have := HN.out; unfold hasText; simp; omega)
      have hcm1 := ho1.capmax
      unfold maxLen at hcm1
      have HR1 := Lib.hid ho1.rd
      have hconv := fun w => run_conv_bytes_n (P := Tryz.prog) w 67 9 5 Tryz.underlying67 Tryz.underlying5 Tryz.underlying9 A1 (L.take n) n c1 (by rw [List.length_take]; omega)
      have hcv := hconv w1 (HR1.out.take n)
      have HT := Lib.hid (show strN (L.take n) = textOf l by rw [HL.out, HN.out]; rfl)
      have HD := Lib.hid (show L.drop n = l.drop (4 + unNum l) by rw [HL.out, HN.out, List.drop_drop])
      rcases A1 with _ | ad
      · have hL0 : L = [] := rdb_none HR1.out
        have hL1 : L.length = 0 := by rw [hL0]; rfl
        have hn0 : n = 0 := by omega
        subst hn0
        have hcv2 := hconv w1.drew (HR1.out.take _).drew
        go_wp2
        go_region
        go_wp2
        go_ret3
        refine .inr ⟨HNl.out, [], none, c1, Lib.hid (by rw [← HD.out, hL0]; rfl), ?_, RdB.nil _ _, Nat.zero_le _, hcm1, hb1.drew⟩
        rw [← HT.out, hL0]; rfl
      · have HRd := Lib.hid (RdB.drop HR1.out n)
        have hcv2 := hconv w1.drew (HR1.out.take _).drew
        by_cases hcn : c1 = n
        · subst hcn
          go_wp2
          go_region
          go_wp2
          go_ret3
          refine .inr ⟨HNl.out, L.drop c1, some ad, 0, HD, ?_, ?_, by rw [List.length_drop]; omega, by omega, hb1.drew⟩
          · rw [← HT.out, List.length_drop, hLl]; rfl
          · rw [List.drop_of_length_le (by omega)]; exact RdB.nil _ _
        · go_wp2
          go_region
          go_wp2
          go_ret3
          refine .inr ⟨HNl.out, L.drop n, some (ad.add n), c1 - n, HD, ?_, HRd.out.drew, by rw [List.length_drop]; omega, by omega, hb1.drew⟩
          rw [← HT.out, List.length_drop, hLl]; rfl
theorem take_ne {l m : List Nat} {k : Nat} (hl : k < l.length) (hm : k < m.length) (h : l[k] ≠ m[k]) : l ≠ m := by
  rintro rfl; exact h rfl
theorem eq_of_all {l m : List Nat} (hlm : l.length = m.length) (h : ∀ k (h1 : k < l.length) (h2 : k < m.length), l[k] = m[k]) : l = m := List.ext_getElem hlm h
theorem equal_any (A B : Option Addr) (l m : List Nat) (c d : Nat) (h1 : l.length ≤ 140737488355328) (h2 : m.length ≤ 140737488355328) (W : World) (hA : RdB W A l) (hB : RdB W B m) :
    Calls Tryz.prog 161 #[.slice A l.length c, .slice B m.length d] W fun e W' => e = .returned (.bool (decide (l = m))) ∧ Below W.heap.size W W' := by
  have HA := Lib.hid hA
  have HB := Lib.hid hB
  clear hA hB
  by_cases hlen : l.length = m.length
  · have hd : ((l.length : Int) != (m.length : Int)) = false := by rw [bne_eq_false_iff_eq]; omega
    have Hlen := Lib.hid hlen
    have hlen2 : m.length ≤ l.length ∧ l.length ≤ m.length := by omega
    clear hlen
    go_enter Tryz.func161, Tryz.ntmps161
    go_wp2
    go_loopw [13] (fun i wr => ∃ k : Nat, k ≤ l.length ∧ i = .int .i64 k ∧ Hid (∀ j (h1 : j < l.length) (h2 : j < m.length), j < k → l[j] = m[j]) ∧ Below W.heap.size W wr) (fun i _ => l.length - (intOf i).toNat)
    case atStart => exact ⟨0, Nat.zero_le _, rfl, Lib.hid (fun j _ _ hj => by omega), Below.refl _ _⟩
    case round =>
      obtain ⟨k, hk, rfl, HK, hBw⟩ := hrel
      by_cases hk8 : k < l.length
      · have hkm : k < m.length := by omega
        obtain ⟨a1, rfl, hc1⟩ := (HA.out.below hBw (Nat.le_refl _)) (by omega)
        obtain ⟨a2, rfl, hc2⟩ := (HB.out.below hBw (Nat.le_refl _)) (by omega)
        have hx := hc1 k hk8
        have hy := hc2 k hkm
        clear hc1 hc2
        by_cases hxy : l[k] = m[k]
        · have hd2 : ((l[k] : Int) != (m[k] : Int)) = false := by rw [bne_eq_false_iff_eq, hxy]
          have HK2 := Lib.hid (show ∀ j (h1 : j < l.length) (h2 : j < m.length), j < k + 1 → l[j] = m[j] by
            intro j h1 h2 hj
            by_cases e : j = k
            · subst e; exact hxy
            · exact HK.out j h1 h2 (by omega))
          clear hxy
          go_wp2
          go_region
          go_wp2
          go_roundw
          case rel => exact ⟨k + 1, by omega, by go_num, HK2, hBw.drew⟩
          case measure => simp [intOf]; omega
        · have hd2 : ((l[k] : Int) != (m[k] : Int)) = true := by rw [bne_iff_ne]; omega
          have HN := Lib.hid (show decide (l = m) = false by simpa using take_ne hk8 hkm hxy)
          clear hxy
          go_wp2
          go_region
          go_wp2
          go_ret
          exact ⟨by rw [HN.out]; rfl, hBw.drew⟩
      · have HY := Lib.hid (show decide (l = m) = true by simpa using eq_of_all Hlen.out (fun j h1 h2 => HK.out j h1 h2 (by omega)))
        go_wp2
        go_ret
        exact ⟨by rw [HY.out]; rfl, hBw⟩
  · have hd : ((l.length : Int) != (m.length : Int)) = true := by rw [bne_iff_ne]; omega
    have HN := Lib.hid (show decide (l = m) = false by simp; rintro rfl; exact hlen rfl)
    clear hlen
    go_enter Tryz.func161, Tryz.ntmps161
    go_wp2
    go_ret
    exact ⟨by rw [HN.out]; rfl, Below.refl _ _⟩
theorem grow_any (n : Nat) (hn : n ≤ 140737488355328) (W : World) :
    Calls Tryz.prog 164 #[.slice none 0 0, .int .i64 (n : Int)] W fun e W' => ∃ A c, e = .returned (.slice A 0 c) ∧ OwnB 5 W' W.heap.size A c [] ∧ Below W.heap.size W W' := by
  obtain ⟨i0, hi, hz0, hz1, hz2⟩ := info_parts Tryz.infoB
  by_cases h0 : n = 0
  · subst h0
    go_enter Tryz.func164, Tryz.ntmps164
    go_wp2
    go_ret
    exact ⟨none, 0, rfl, OwnB.nil _ _ _, Below.refl _ _⟩
  · have hpos : decide ((0 : Int) < (n : Int)) = true := by simp; omega
    have hlt0 : decide ((n : Int) < 0) = false := by simp
    have hz := Lib.run_append_nil_zeros (P := Tryz.prog) W 67 3 67 5 i0 (.int .u8 0) .i64 .i64 Tryz.underlying67 Tryz.underlying3 hi hz0 n (by omega) (by omega) (by omega) (by rw [hz2]; omega)
    have hc1 := grownCap_ge W n 0 5
    have hc2 := grownCap_le_maxLen W n 0 5 (by unfold maxLen; omega)
    obtain ⟨c, hc⟩ : ∃ c, c = grownCap W n 0 5 := ⟨_, rfl⟩
    rw [← hc] at hz hc1 hc2
    have hcm : c ≤ 9223372036854775807 := hc2
    have HC2 := Lib.hid hc2
    have hsz : (Builtin.zeroCells (Value.int .u8 0).cells n ++ Builtin.zeroCells (Value.int .u8 0).cells (c - n)).size = c := by
      rw [Array.size_append, size_zeroCells, size_zeroCells]; show n * 1 + (c - n) * 1 = c; omega
    have HS := Lib.hid hsz
    clear hc hsz hc2
    go_enter Tryz.func164, Tryz.ntmps164
    go_wp2_with (at_builtin; refine Lib.wpList_append_run _ rfl (.tmp 20) (.tmp 21) 67 3 rfl _ _ rfl rfl _ _ hz ?_)
    go_ret
    refine ⟨_, _, rfl, ⟨by simp, .inr ⟨W.heap.size, c, _, rfl, Nat.le_refl _, heap_alloc_new _ _, Nat.zero_le _, HC2.out, HS.out.trans (Nat.mul_one _).symm, by simp⟩⟩, ((Below.refl W.heap.size W).drew).alloc (Nat.le_refl _) _⟩
abbrev Sl := Option Addr × Nat × List Nat
def slv (x : Sl) : Value := .slice x.1 x.2.2.length x.2.1
def flat (xs : List Sl) : List Nat := (xs.map fun x => x.2.2).flatten
theorem flat_take_succ {xs : List Sl} {k : Nat} (h : k < xs.length) : flat (xs.take (k + 1)) = flat (xs.take k) ++ xs[k].2.2 := by
  unfold flat; rw [List.take_succ_eq_append_getElem h, List.map_append, List.flatten_append]; simp
theorem flat_take_le (xs : List Sl) (k : Nat) : (flat (xs.take k)).length ≤ (flat xs).length := by
  have : flat xs = flat (xs.take k) ++ flat (xs.drop k) := by
    unfold flat; rw [← List.flatten_append, ← List.map_append, List.take_append_drop]
  rw [this, List.length_append]; omega
def RdSl (W : World) (A : Option Addr) (xs : List Sl) : Prop := Rd slv W A xs ∧ ∀ x ∈ xs, RdB W x.1 x.2.2
theorem RdSl.below {w w' : World} {A : Option Addr} {xs : List Sl} {B : Nat} (h : RdSl w A xs) (hb : Below B w w') (hB : w.heap.size ≤ B) : RdSl w' A xs :=
  ⟨h.1.below hb hB, fun x hx => (h.2 x hx).below hb hB⟩
theorem concat_any (A : Option Addr) (xs : List Sl) (c : Nat) (hn : xs.length ≤ 140737488355328) (hm : (flat xs).length ≤ 140737488355328) (W : World) (hr : RdSl W A xs) :
    Calls Tryz.prog 123 #[.slice A xs.length c] W fun e W' => NewB W (flat xs) W' e := by
  obtain ⟨i0, hi, hz0, hz1, hz2⟩ := info_parts Tryz.infoB
  have HR := Lib.hid hr
  clear hr
  go_enter Tryz.func123, Tryz.ntmps123
  go_wp2
  go_loop [3, 11] (fun n i => ∃ k : Nat, k ≤ xs.length ∧ i = .int .i64 k ∧ n = .int .i64 ((flat (xs.take k)).length : Nat)) (fun _ i => xs.length - (intOf i).toNat)
  case atStart => exact ⟨0, Nat.zero_le _, rfl, rfl⟩
  case round =>
    obtain ⟨k, hk, rfl, rfl⟩ := hrel
    by_cases hk8 : k < xs.length
    · obtain ⟨ad, rfl, hc⟩ := HR.out.1 (by omega)
      have hck := hc k hk8
      clear hc
      obtain ⟨⟨xa, xc, xl⟩, hx⟩ : ∃ x, x = xs[k] := ⟨_, rfl⟩
      have hs := flat_take_succ hk8
      rw [← hx] at hck hs
      have hle := flat_take_le xs (k + 1)
      rw [hs, List.length_append] at hle
      have HS := Lib.hid hs
      unfold slv at hck
      clear hs hx
      simp only at hck hle
      go_wp2
      go_round
      case rel => exact ⟨k + 1, by omega, by go_num, by rw [HS.out, List.length_append]; go_num⟩
      case measure => simp [intOf]; omega
    · obtain rfl : k = xs.length := by omega
      have hle := flat_take_le xs xs.length
      go_wp2_with fail
      refine (grow_any _ (by omega) _).mono ?_
      rintro e w1 ⟨A1, c1, rfl, ho1, hb1⟩
      go_wp2
      go_loopw [6, 27] (fun o i wr => ∃ (k : Nat) (X : List Nat) (B : Option Addr) (d : Nat), k ≤ xs.length ∧ i = .int .i64 k ∧ o = .slice B X.length d ∧ Hid (X = flat (xs.take k)) ∧ OwnB 5 wr W.heap.size B d X ∧ Below W.heap.size W wr) (fun _ i _ => xs.length - (intOf i).toNat)
      case atStart => exact ⟨0, [], A1, c1, Nat.zero_le _, rfl, rfl, Lib.hid rfl, ho1, hb1⟩
      case round =>
        obtain ⟨k, X, B, d, hk, rfl, rfl, hX, ho, hB⟩ := hrel
        have hsw := hB.size
        by_cases hk8 : k < xs.length
        · have HR2 := HR.out.below hB (Nat.le_refl _)
          obtain ⟨ad, rfl, hc⟩ := HR2.1 (by omega)
          have hck := hc k hk8
          have hrx := HR2.2 xs[k] (List.getElem_mem _)
          clear hc HR2
          obtain ⟨⟨xa, xc, xl⟩, hx⟩ : ∃ x, x = xs[k] := ⟨_, rfl⟩
          have hs := flat_take_succ hk8
          rw [← hx] at hck hs hrx
          have hle := flat_take_le xs (k + 1)
          rw [hs, List.length_append, ← hX.out] at hle
          have HS := Lib.hid hs
          have HX := Lib.hid hrx
          unfold slv at hck
          clear hs hx hrx
          simp only at hck hle
          go_wp2_with (at_builtin; refine wpList_append_bytes _ rfl (.tmp 31) (.tmp 32) _ rfl W.heap.size 5 i0 Tryz.underlying67 hi hz0 hz1 hz2 _ _ X rfl ho _ _ xl rfl HX.out (by omega) hsw ?_; intro X2 B2 d2 w2 hX2 ho2 hb2)
          go_roundw
          case rel => exact ⟨k + 1, X2, B2, d2, by omega, by go_num, rfl, Lib.hid (by rw [hX2.out, hX.out, HS.out]), ho2, hB.trans hb2⟩
          case measure => simp [intOf]; omega
        · go_wp2
          go_ret
          exact ⟨X, B, d, Lib.hid (by rw [hX.out, List.take_of_length_le (by omega)]), rfl, ho, ho.cap, hB⟩
open Crc
theorem own_base {e : TypeId} {w : World} {base base' c : Nat} {A : Option Addr} {l : List Nat} (h : OwnB e w base A c l) (hb : base' ≤ base) : OwnB e w base' A c l :=
  ⟨h.1, h.2.elim Or.inl (fun ⟨g, cap, cur, hv, hg, r⟩ => Or.inr ⟨g, cap, cur, hv, Nat.le_trans hb hg, r⟩)⟩
theorem fsum_any (A : Option Addr) (l : List Nat) (c : Nat) (hl : Bytes l) (hm : l.length ≤ 140737488351232) (W : World) (hr : RdB W A l) :
    Calls Tryz.prog 124 #[.slice A l.length c] W fun e W' => NewB W (numN (sumN l)) W' e := by
  have hlt := sumN_lt hl
  go_enter Tryz.func124, Tryz.ntmps124
  go_wp2_with fail
  refine (sum_any A l c hl hm _ hr).mono ?_
  rintro e w1 ⟨rfl, rfl⟩
  go_wp2_with fail
  refine (num_any _ (by omega) _).mono ?_
  rintro e w2 ⟨L, A2, c2, HL, rfl, ho, hc, hb⟩
  go_wp2
  go_ret
  exact ⟨L, A2, c2, HL, rfl, ho, hc, hb⟩
theorem fsum_n (A : Option Addr) (l : List Nat) (n c : Nat) (hn : l.length = n) (hl : Bytes l) (hm : l.length ≤ 140737488351232) (W : World) (hr : RdB W A l) :
    Calls Tryz.prog 124 #[.slice A n c] W fun e W' => NewB W (numN (sumN l)) W' e := by subst hn; exact fsum_any A l c hl hm W hr
def headN (r : List Nat) : List Nat := numN r.length ++ numN (sumN (numN r.length)) ++ numN (sumN r)
def frameN (r : List Nat) : List Nat := headN r ++ r
theorem numN_length (n : Nat) : (numN n).length = 4 := rfl
theorem headN_length (r : List Nat) : (headN r).length = 12 := by simp [headN, numN_length]
theorem rdSl_lit (w : World) (cs : Array Value) (e : TypeId) (xs : List Sl) (g : Nat) (hg : g = w.heap.size) (h : cs.toList = xs.map slv) (hx : ∀ x ∈ xs, RdB w x.1 x.2.2) : RdSl (w.alloc (.cells cs e)) (some ⟨g, 0, none⟩) xs :=
  ⟨rd_lit w cs e (0, 0) xs g hg h, fun x hh => (hx x hh).alloc _⟩
theorem concat_n (A : Option Addr) (xs : List Sl) (n c : Nat) (hx : xs.length = n) (hn : xs.length ≤ 140737488355328) (hm : (flat xs).length ≤ 140737488355328) (W : World) (hr : RdSl W A xs) :
    Calls Tryz.prog 123 #[.slice A n c] W fun e W' => NewB W (flat xs) W' e := by subst hx; exact concat_any A xs c hn hm W hr
theorem fput_any (A : Option Addr) (l : List Nat) (c : Nat) (hl : Bytes l) (hm : l.length ≤ 65535) (W : World) (hr : RdB W A l) :
    Calls Tryz.prog 80 #[.slice A l.length c] W fun e W' => NewB W (frameN l) W' e := by
  have hd : decide ((65535 : Int) < (l.length : Int)) = false := by simp; omega
  have HR := Lib.hid hr
  clear hr
  go_enter Tryz.func80, Tryz.ntmps80
  go_wp2_with fail
  refine (num_any _ (by omega) _).mono ?_
  rintro e w1 ⟨L1, A1, c1, H1, rfl, ho1, hc1, hb1⟩
  have HR1 := Lib.hid (HR.out.below hb1 (Nat.le_refl _))
  have hL1 : L1.length ≤ 4 := by rw [H1.out, numN_length]; omega
  go_wp2_with fail
  refine (fsum_any A1 L1 c1 (by rw [H1.out]; exact numN_bytes _) (by omega) _ ho1.rd).mono ?_
  rintro e w2 ⟨L2, A2, c2, H2, rfl, ho2, hc2, hb2⟩
  have HR2 := Lib.hid (HR1.out.below hb2 (Nat.le_refl _))
  have HL2 := Lib.hid (ho1.rd.below hb2 (Nat.le_refl _))
  have hL2 : L2.length ≤ 4 := by rw [H2.out, numN_length]; omega
  go_wp2_with fail
  refine (fsum_any A l c hl (by omega) _ HR2.out).mono ?_
  rintro e w3 ⟨L3, A3, c3, H3, rfl, ho3, hc3, hb3⟩
  have hL3 : L3.length ≤ 4 := by rw [H3.out, numN_length]; omega
  have HRR := Lib.hid (HR2.out.below hb3 (Nat.le_refl _))
  have HLL := Lib.hid (HL2.out.below hb3 (Nat.le_refl _))
  have HMM := Lib.hid (ho2.rd.below hb3 (Nat.le_refl _))
  have HNN := Lib.hid ho3.rd
  have hB := below_next (below_next hb1 hb2) hb3
  have hB2 := hB.alloc hB.size (.cells #[.slice A1 L1.length c1, .slice A2 L2.length c2, .slice A3 L3.length c3, .slice A l.length c] 67)
  have HB2 := Lib.hid hB2
  clear hB2
  go_wp2_with fail
  refine (concat_n _ [(A1, c1, L1), (A2, c2, L2), (A3, c3, L3), (A, c, l)] _ _ rfl (by simp) (by simp [flat]; omega) _ (rdSl_lit w3 _ _ _ _ rfl rfl ?_)).mono ?_
  · intro x hx
    simp only [List.mem_cons, List.not_mem_nil, or_false] at hx
    rcases hx with rfl | rfl | rfl | rfl
    · exact HLL.out
    · exact HMM.out
    · exact HNN.out
    · exact HRR.out
  rintro e w4 ⟨L4, A4, c4, H4, rfl, ho4, hc4, hb4⟩
  go_wp2
  go_ret
  refine ⟨L4, A4, c4, Lib.hid ?_, rfl, ?_, hc4, below_next HB2.out hb4⟩
  · rw [H4.out]; simp [flat, frameN, headN, H1.out, H2.out, H3.out]
  · exact own_base ho4 HB2.out.size
open Crc
def cutF (b : List Nat) : Option (List Nat × List Nat) :=
  if 12 ≤ b.length ∧ unNum b ≤ 65535 ∧ unNum b ≤ b.length - 12 ∧ b.take 12 = b.take 4 ++ numN (sumN (b.take 4)) ++ numN (sumN ((b.drop 12).take (unNum b))) then
    some ((b.drop 12).take (unNum b), (b.drop 12).drop (unNum b))
  else none
def Fresh (W W' : World) (A : Option Addr) : Prop := ∀ k, blk A = some k → W.heap.size ≤ k ∧ k < W'.heap.size
theorem Fresh.none (W W' : World) : Fresh W W' none := fun k h => by cases h
theorem Fresh.add {W W' : World} {a : Addr} (h : Fresh W W' (some a)) (n : Nat) : Fresh W W' (some (a.add n)) := by
  intro k hk
  refine h k ?_
  unfold blk at hk ⊢
  simpa [add_block] using hk
theorem Fresh.wide {W W1 W' W2 : World} {A : Option Addr} (h : Fresh W1 W' A) (h1 : W.heap.size ≤ W1.heap.size) (h2 : W'.heap.size ≤ W2.heap.size) : Fresh W W2 A := fun k hk => ⟨Nat.le_trans h1 (h k hk).1, Nat.lt_of_lt_of_le (h k hk).2 h2⟩
theorem OwnB.fresh {e : TypeId} {w W : World} {A : Option Addr} {c : Nat} {l : List Nat} (h : OwnB e w W.heap.size A c l) : Fresh W w A := fun k hk => h.lt k hk
def CutPost (W : World) (b : List Nat) (W' : World) (e : Ending) : Prop :=
  (cutF b = none ∧ e = .returned (.tuple #[.slice none 0 0, .slice none 0 0, .bool false]) ∧ Below W.heap.size W W') ∨
  (∃ (r s : List Nat) (A B : Option Addr) (c d : Nat), cutF b = some (r, s) ∧ e = .returned (.tuple #[.slice A r.length c, .slice B s.length d, .bool true]) ∧ RdB W' A r ∧ RdB W' B s ∧ r.length ≤ c ∧ c ≤ 9223372036854775807 ∧ s.length ≤ d ∧ d ≤ 9223372036854775807 ∧ Fresh W W' A ∧ Fresh W W' B ∧ Below W.heap.size W W')
theorem bytes_drop {l : List Nat} (h : Bytes l) (k : Nat) : Bytes (l.drop k) := fun b hb => h b (List.mem_of_mem_drop hb)
theorem equal_n (A B : Option Addr) (l m : List Nat) (p q c d : Nat) (hp : l.length = p) (hq : m.length = q) (h1 : l.length ≤ 140737488355328) (h2 : m.length ≤ 140737488355328) (W : World) (hA : RdB W A l) (hB : RdB W B m) :
    Calls Tryz.prog 161 #[.slice A p c, .slice B q d] W fun e W' => e = .returned (.bool (decide (l = m))) ∧ Below W.heap.size W W' := by subst hp hq; exact equal_any A B l m c d h1 h2 W hA hB
theorem all3 {α : Type} {P : α → Prop} {x y z : α} (hx : P x) (hy : P y) (hz : P z) : ∀ t ∈ [x, y, z], P t := by
  intro t ht
  simp only [List.mem_cons, List.not_mem_nil, or_false] at ht
  rcases ht with rfl | rfl | rfl <;> assumption
theorem unNum_lt {l : List Nat} (h : Bytes l) (h4 : 4 ≤ l.length) : unNum l < 4294967296 := by
  have := hi_lt h 4
  rw [hi_four h4] at this
  exact this
theorem fcut_any (A : Option Addr) (b : List Nat) (c : Nat) (hb : Bytes b) (hc : b.length ≤ c) (hcm : c ≤ 9223372036854775807) (hm : b.length ≤ 140737488351232) (W : World) (hr : RdB W A b) :
    Calls Tryz.prog 121 #[.slice A b.length c] W fun e W' => CutPost W b W' e := by
  by_cases h12 : b.length < 12
  · have hd : decide ((b.length : Int) < 12) = true := by simp; omega
    have HN := Lib.hid (show cutF b = none by unfold cutF; rw [if_neg (by omega)])
    go_enter Tryz.func121, Tryz.ntmps121
    go_wp2
    go_ret3
    exact .inl ⟨HN.out, rfl, Below.refl _ _⟩
  · have hd : decide ((b.length : Int) < 12) = false := by simp; omega
    have hpos : 0 < b.length := by omega
    obtain ⟨ad, rfl, _⟩ := hr hpos
    have HR := Lib.hid hr
    clear hr
    go_enter Tryz.func121, Tryz.ntmps121
    go_wp2_with fail
    refine (cutnum_any (some ad) b c hb hc hcm (by omega) _ HR.out).mono ?_
    rintro e w1 (⟨h4, _, _⟩ | ⟨h4, L, A1, c1, HL, rfl, ho1, hc1, hb1⟩)
    · omega
    have HR1 := Lib.hid (HR.out.below hb1 (Nat.le_refl _))
    have hlt := unNum_lt hb h4
    obtain ⟨n, hn⟩ : ∃ n, n = unNum b := ⟨_, rfl⟩
    have HN := Lib.hid hn
    rw [← hn]
    rw [← hn] at hlt
    clear hn HL ho1 hc1
    have H12 := Lib.hid (RdB.drop HR1.out 12)
    by_cases hc12 : c = 12
    · subst hc12
      go_wp2_with fail
      refine (clone_n _ (b.drop 12) _ _ (by simp <;> omega) (by simp; omega) _ (by rw [List.drop_of_length_le (by omega)]; exact RdB.nil _ _)).mono ?_
      rintro e w2 ⟨L2, A2, c2, H2, rfl, ho2, hc2, hb2⟩
      have hL2 : L2.length + 12 ≤ b.length ∧ b.length ≤ L2.length + 12 := by rw [H2.out, List.length_drop]; omega
      have HB := Lib.hid (HR1.out.below hb2 (Nat.le_refl _))
      have HY := Lib.hid ho2.rd
      have hL2b : Bytes L2 := by rw [H2.out]; exact bytes_drop hb 12
      have HFr := Lib.hid (ho2.fresh)
      have hcm2 := ho2.capmax
      unfold maxLen at hcm2
      have hb12 := below_next hb1 hb2
      clear H12 ho2 HR1 HR
      by_cases hn1 : n ≤ 65535
      · have hd1 : decide ((65535 : Int) < (n : Int)) = false := by simp; omega
        by_cases hn2 : n ≤ L2.length
        · have hd2 : decide ((L2.length : Int) < (n : Int)) = false := by simp; omega
          have hd3 : decide (L2.length < n) = false := by simp; omega
          have hTb := bytes_take hb 4
          have h4 : (b.take 4).length = 4 := by rw [List.length_take]; omega
          have hN : (L2.take n).length = n := by rw [List.length_take]; omega
          have H4 := Lib.hid h4
          have HNn := Lib.hid hN
          clear h4 hN
          have HB4 := Lib.hid (HB.out.take 4)
          have HB12 := Lib.hid (HB.out.take 12)
          have HYn := Lib.hid (HY.out.take n)
          have hL2n := bytes_take hL2b n
          have q3 : (n : Int) ≤ (c2 : Int) := by omega
          have q6 : n ≤ c2 := by omega
          go_wp2_with fail
          go_region_held3 (fun _ => True) (trivial)
            (first
              | (go_at_call 124; refine (fsum_n (some ad) (b.take 4) 4 12 H4.out hTb (by rw [H4.out]; omega) _ (by first | (with_reducible exact HB4.out) | exact HB4.out.drew)).mono ?_; rintro e w3 ⟨L3, A3, c3, H3, rfl, ho3, hc3, hb3⟩; have hl3 : L3.length ≤ 4 := (by rw [H3.out]; exact Nat.le_refl _); have hb3' : Below w2.heap.size w2 w3 := (by first | exact below_undrew hb3 | exact hb3))
              | (go_at_call 124; refine (fsum_n A2 (L2.take n) n c2 HNn.out hL2n (by rw [HNn.out]; omega) _ (HYn.out.below hb3' (Nat.le_refl _))).mono ?_; rintro e w4 ⟨L4, A4, c4, H4', rfl, ho4, hc4, hb4⟩; have hl4 : L4.length ≤ 4 := (by rw [H4'.out]; exact Nat.le_refl _); have hb24 := below_next hb3' hb4)
              | (go_at_call 123; refine (concat_n _ [(some ad, 12, b.take 4), (A3, c3, L3), (A4, c4, L4)] 3 3 rfl (by simp) (by simp [flat]; omega) _ (rdSl_lit w4 _ _ _ _ rfl (by simp [slv, H4.out]) (all3 (HB4.out.below hb24 (Nat.le_refl _)) (ho3.rd.below hb4 (Nat.le_refl _)) ho4.rd))).mono ?_; rintro e w5 ⟨L5, A5, c5, H5, rfl, ho5, hc5, hb5⟩; have hl5 : L5.length ≤ 12 := (by rw [H5.out]; simp [flat]; omega); have hB5 := below_next (hb24.alloc hb24.size (.cells #[.slice (some ad) 4 12, .slice A3 L3.length c3, .slice A4 L4.length c4] 67)) hb5)
              | (go_at_call 161; refine (equal_n (some ad) A5 (b.take 12) L5 12 _ 12 c5 (by rw [List.length_take]; omega) rfl (by rw [List.length_take]; omega) (by omega) _ (HB12.out.below hB5 (Nat.le_refl _)) ho5.rd).mono ?_; rintro e w6 ⟨rfl, hb6⟩))
          have hFl : flat [(some ad, 12, b.take 4), (A3, c3, L3), (A4, c4, L4)] = b.take 4 ++ numN (sumN (b.take 4)) ++ numN (sumN (L2.take n)) := by simp [flat, H3.out, H4'.out]
          have hbw := below_next (below_next hb12 hB5) hb6
          by_cases heq : b.take 12 = L5
          · have hdq : decide (b.take 12 = L5) = true := by simpa using heq
            simp only [hdq, Bool.not_true]
            have HS := Lib.hid (show cutF b = some (L2.take n, L2.drop n) by
              have e := heq
              rw [H5.out, hFl, H2.out, HN.out] at e
              have h1 := HN.out
              unfold cutF
              rw [if_pos ⟨by omega, by omega, by omega, e⟩, H2.out, HN.out])
            have HFw := Lib.hid (show Fresh W w6 A2 from HFr.out.wide hb1.size (below_next hB5 hb6).size)
            have HYw := Lib.hid (HY.out.below (below_next hB5 hb6) (Nat.le_refl _))
            have HLt := Lib.hid (show (L2.take n).length = n by rw [List.length_take]; omega)
            clear heq hFl
            rcases A2 with _ | ad2
            · have hL0 : L2 = [] := rdb_none HYw.out
              have hn0 : n = 0 := by have : L2.length = 0 := by rw [hL0]; rfl
                                     omega
              subst hn0
              go_wp2
              go_region
              go_wp2
              go_ret3
              refine .inr ⟨[], [], none, none, 0, c2, by rw [HS.out, hL0]; rfl, ?_, RdB.nil _ _, RdB.nil _ _, Nat.le_refl _, by omega, Nat.zero_le _, by omega, Fresh.none _ _, Fresh.none _ _, by first | exact hbw | exact hbw.drew⟩
              rw [hL0]; rfl
            · have hcell : RdB w6 (some (ad2.add n)) (L2.drop n) := RdB.drop HYw.out n
              have HCd := Lib.hid hcell
              clear hcell
              by_cases hcn : c2 = n
              · subst hcn
                go_wp2
                go_region
                go_wp2
                go_ret3
                refine .inr ⟨L2.take c2, L2.drop c2, some ad2, some ad2, c2, 0, HS.out, ?_, (HYw.out.take c2).drew, ?_, by rw [HLt.out]; exact Nat.le_refl _, by omega, by rw [List.length_drop]; omega, by omega, HFw.out, HFw.out, by first | exact hbw | exact hbw.drew⟩
                · rw [HLt.out, List.length_drop, show L2.length - c2 = 0 by omega]; rfl
                · rw [List.drop_of_length_le (by omega)]; exact RdB.nil _ _
              · go_wp2
                go_region
                go_wp2
                go_ret3
                refine .inr ⟨L2.take n, L2.drop n, some ad2, some (ad2.add n), n, c2 - n, HS.out, ?_, (HYw.out.take n).drew, HCd.out.drew, by rw [HLt.out]; exact Nat.le_refl _, by omega, by rw [List.length_drop]; omega, by omega, HFw.out, HFw.out.add n, by first | exact hbw | exact hbw.drew⟩
                rw [HLt.out, List.length_drop]; rfl
          · have hdq : decide (b.take 12 = L5) = false := by simpa using heq
            simp only [hdq, Bool.not_false]
            have HS := Lib.hid (show cutF b = none by
              have e := heq
              rw [H5.out, hFl, H2.out, HN.out] at e
              unfold cutF
              rw [if_neg (fun h => e h.2.2.2)])
            clear heq hFl
            go_wp2
            go_ret3
            exact .inl ⟨HS.out, rfl, hbw⟩
        · have hd2 : decide ((L2.length : Int) < (n : Int)) = true := by simp; omega
          have hd3 : decide (L2.length < n) = true := by simp; omega
          have HX := Lib.hid (show cutF b = none by have := HN.out; unfold cutF; rw [if_neg (by rw [← this]; omega)])
          go_wp2_with fail
          go_quiet (fail)
          go_wp2
          go_ret3
          exact .inl ⟨HX.out, rfl, below_drewN hb12⟩
      · have hd1 : decide ((65535 : Int) < (n : Int)) = true := by simp; omega
        have HX := Lib.hid (show cutF b = none by have := HN.out; unfold cutF; rw [if_neg (by rw [← this]; omega)])
        go_wp2_with fail
        go_quiet (fail)
        go_wp2
        go_ret3
        exact .inl ⟨HX.out, rfl, below_drewN hb12⟩
    · go_wp2_with fail
      refine (clone_n _ (b.drop 12) _ _ (by simp <;> omega) (by simp; omega) _ H12.out).mono ?_
      rintro e w2 ⟨L2, A2, c2, H2, rfl, ho2, hc2, hb2⟩
      have hL2 : L2.length + 12 ≤ b.length ∧ b.length ≤ L2.length + 12 := by rw [H2.out, List.length_drop]; omega
      have HB := Lib.hid (HR1.out.below hb2 (Nat.le_refl _))
      have HY := Lib.hid ho2.rd
      have hL2b : Bytes L2 := by rw [H2.out]; exact bytes_drop hb 12
      have HFr := Lib.hid (ho2.fresh)
      have hcm2 := ho2.capmax
      unfold maxLen at hcm2
      have hb12 := below_next hb1 hb2
      clear H12 ho2 HR1 HR
      by_cases hn1 : n ≤ 65535
      · have hd1 : decide ((65535 : Int) < (n : Int)) = false := by simp; omega
        by_cases hn2 : n ≤ L2.length
        · have hd2 : decide ((L2.length : Int) < (n : Int)) = false := by simp; omega
          have hd3 : decide (L2.length < n) = false := by simp; omega
          have hTb := bytes_take hb 4
          have h4 : (b.take 4).length = 4 := by rw [List.length_take]; omega
          have hN : (L2.take n).length = n := by rw [List.length_take]; omega
          have H4 := Lib.hid h4
          have HNn := Lib.hid hN
          clear h4 hN
          have HB4 := Lib.hid (HB.out.take 4)
          have HB12 := Lib.hid (HB.out.take 12)
          have HYn := Lib.hid (HY.out.take n)
          have hL2n := bytes_take hL2b n
          have q1 : (12 : Int) ≤ (c : Int) := by omega
          have q2 : (4 : Int) ≤ (c : Int) := by omega
          have q3 : (n : Int) ≤ (c2 : Int) := by omega
          have q4 : 12 ≤ c := by omega
          have q5 : 4 ≤ c := by omega
          have q6 : n ≤ c2 := by omega
          go_wp2_with fail
          go_region_held3 (fun _ => True) (trivial)
            (first
              | (go_at_call 124; refine (fsum_n (some ad) (b.take 4) 4 c H4.out hTb (by rw [H4.out]; omega) _ (by first | (with_reducible exact HB4.out) | exact HB4.out.drew)).mono ?_; rintro e w3 ⟨L3, A3, c3, H3, rfl, ho3, hc3, hb3⟩; have hl3 : L3.length ≤ 4 := (by rw [H3.out]; exact Nat.le_refl _); have hb3' : Below w2.heap.size w2 w3 := (by first | exact below_undrew hb3 | exact hb3))
              | (go_at_call 124; refine (fsum_n A2 (L2.take n) n c2 HNn.out hL2n (by rw [HNn.out]; omega) _ (HYn.out.below hb3' (Nat.le_refl _))).mono ?_; rintro e w4 ⟨L4, A4, c4, H4', rfl, ho4, hc4, hb4⟩; have hl4 : L4.length ≤ 4 := (by rw [H4'.out]; exact Nat.le_refl _); have hb24 := below_next hb3' hb4)
              | (go_at_call 123; refine (concat_n _ [(some ad, c, b.take 4), (A3, c3, L3), (A4, c4, L4)] 3 3 rfl (by simp) (by simp [flat]; omega) _ (rdSl_lit w4 _ _ _ _ rfl (by simp [slv, H4.out]) (all3 (HB4.out.below hb24 (Nat.le_refl _)) (ho3.rd.below hb4 (Nat.le_refl _)) ho4.rd))).mono ?_; rintro e w5 ⟨L5, A5, c5, H5, rfl, ho5, hc5, hb5⟩; have hl5 : L5.length ≤ 12 := (by rw [H5.out]; simp [flat]; omega); have hB5 := below_next (hb24.alloc hb24.size (.cells #[.slice (some ad) 4 c, .slice A3 L3.length c3, .slice A4 L4.length c4] 67)) hb5)
              | (go_at_call 161; refine (equal_n (some ad) A5 (b.take 12) L5 12 _ c c5 (by rw [List.length_take]; omega) rfl (by rw [List.length_take]; omega) (by omega) _ (HB12.out.below hB5 (Nat.le_refl _)) ho5.rd).mono ?_; rintro e w6 ⟨rfl, hb6⟩))
          have hFl : flat [(some ad, c, b.take 4), (A3, c3, L3), (A4, c4, L4)] = b.take 4 ++ numN (sumN (b.take 4)) ++ numN (sumN (L2.take n)) := by simp [flat, H3.out, H4'.out]
          have hbw := below_next (below_next hb12 hB5) hb6
          by_cases heq : b.take 12 = L5
          · have hdq : decide (b.take 12 = L5) = true := by simpa using heq
            simp only [hdq, Bool.not_true]
            have HS := Lib.hid (show cutF b = some (L2.take n, L2.drop n) by
              have e := heq
              rw [H5.out, hFl, H2.out, HN.out] at e
              have h1 := HN.out
              unfold cutF
              rw [if_pos ⟨by omega, by omega, by omega, e⟩, H2.out, HN.out])
            have HFw := Lib.hid (show Fresh W w6 A2 from HFr.out.wide hb1.size (below_next hB5 hb6).size)
            have HYw := Lib.hid (HY.out.below (below_next hB5 hb6) (Nat.le_refl _))
            have HLt := Lib.hid (show (L2.take n).length = n by rw [List.length_take]; omega)
            clear heq hFl
            rcases A2 with _ | ad2
            · have hL0 : L2 = [] := rdb_none HYw.out
              have hn0 : n = 0 := by have : L2.length = 0 := by rw [hL0]; rfl
                                     omega
              subst hn0
              go_wp2
              go_region
              go_wp2
              go_ret3
              refine .inr ⟨[], [], none, none, 0, c2, by rw [HS.out, hL0]; rfl, ?_, RdB.nil _ _, RdB.nil _ _, Nat.le_refl _, by omega, Nat.zero_le _, by omega, Fresh.none _ _, Fresh.none _ _, by first | exact hbw | exact hbw.drew⟩
              rw [hL0]; rfl
            · have hcell : RdB w6 (some (ad2.add n)) (L2.drop n) := RdB.drop HYw.out n
              have HCd := Lib.hid hcell
              clear hcell
              by_cases hcn : c2 = n
              · subst hcn
                go_wp2
                go_region
                go_wp2
                go_ret3
                refine .inr ⟨L2.take c2, L2.drop c2, some ad2, some ad2, c2, 0, HS.out, ?_, (HYw.out.take c2).drew, ?_, by rw [HLt.out]; exact Nat.le_refl _, by omega, by rw [List.length_drop]; omega, by omega, HFw.out, HFw.out, by first | exact hbw | exact hbw.drew⟩
                · rw [HLt.out, List.length_drop, show L2.length - c2 = 0 by omega]; rfl
                · rw [List.drop_of_length_le (by omega)]; exact RdB.nil _ _
              · go_wp2
                go_region
                go_wp2
                go_ret3
                refine .inr ⟨L2.take n, L2.drop n, some ad2, some (ad2.add n), n, c2 - n, HS.out, ?_, (HYw.out.take n).drew, HCd.out.drew, by rw [HLt.out]; exact Nat.le_refl _, by omega, by rw [List.length_drop]; omega, by omega, HFw.out, HFw.out.add n, by first | exact hbw | exact hbw.drew⟩
                rw [HLt.out, List.length_drop]; rfl
          · have hdq : decide (b.take 12 = L5) = false := by simpa using heq
            simp only [hdq, Bool.not_false]
            have HS := Lib.hid (show cutF b = none by
              have e := heq
              rw [H5.out, hFl, H2.out, HN.out] at e
              unfold cutF
              rw [if_neg (fun h => e h.2.2.2)])
            clear heq hFl
            go_wp2
            go_ret3
            exact .inl ⟨HS.out, rfl, hbw⟩
        · have hd2 : decide ((L2.length : Int) < (n : Int)) = true := by simp; omega
          have hd3 : decide (L2.length < n) = true := by simp; omega
          have HX := Lib.hid (show cutF b = none by have := HN.out; unfold cutF; rw [if_neg (by rw [← this]; omega)])
          go_wp2_with fail
          go_quiet (fail)
          go_wp2
          go_ret3
          exact .inl ⟨HX.out, rfl, below_drewN hb12⟩
      · have hd1 : decide ((65535 : Int) < (n : Int)) = true := by simp; omega
        have HX := Lib.hid (show cutF b = none by have := HN.out; unfold cutF; rw [if_neg (by rw [← this]; omega)])
        go_wp2_with fail
        go_quiet (fail)
        go_wp2
        go_ret3
        exact .inl ⟨HX.out, rfl, below_drewN hb12⟩
open Crc
theorem Tryz.infoSl : (Tryz.prog.info? 67).map (fun i => (i.zero, i.size, i.bytes)) = some (some (.slice none 0 0), 1, 24) := by kernel_rfl
theorem slv_one (x : Sl) : (slv x).oneCell' = true := rfl
inductive Scans : List Nat → List (List Nat) → List Nat → Prop
  | stop {b : List Nat} : cutF b = none → Scans b [] b
  | step {b r s t : List Nat} {rs : List (List Nat)} : cutF b = some (r, s) → Scans s rs t → Scans b (r :: rs) t
theorem cutF_some {b r s : List Nat} (h : cutF b = some (r, s)) : 12 ≤ b.length ∧ s.length + r.length + 12 = b.length ∧ ∀ x, x ∈ r ∨ x ∈ s → x ∈ b := by
  unfold cutF at h
  split at h
  · rename_i hc
    injection h with h
    injection h with h1 h2
    subst h1 h2
    refine ⟨hc.1, ?_, ?_⟩
    · simp only [List.length_drop, List.length_take]; omega
    · intro x hx
      rcases hx with hx | hx
      · exact List.mem_of_mem_drop (List.mem_of_mem_take hx)
      · exact List.mem_of_mem_drop (List.mem_of_mem_drop hx)
  · cases h
def slLen : Value → Nat
  | .slice _ n _ => n
  | _ => 0
def SlOk (W : World) (x : Sl) : Prop := RdB W x.1 x.2.2 ∧ Bytes x.2.2 ∧ x.2.2.length ≤ x.2.1 ∧ x.2.1 ≤ 9223372036854775807
theorem SlOk.below {w w' : World} {x : Sl} {B : Nat} (h : SlOk w x) (hb : Below B w w') (hB : w.heap.size ≤ B) : SlOk w' x := ⟨h.1.below hb hB, h.2⟩
def Apart (W : World) (B A : Option Addr) : Prop := Dist A B ∧ ∀ k, blk A = some k → k < W.heap.size
theorem RdB.kept {w w' : World} {A S : Option Addr} {l : List Nat} (h : RdB w A l) (hg : w.grownBy w' (blk S)) (hd : Dist A S) : RdB w' A l := by
  intro hl
  obtain ⟨ad, rfl, hc⟩ := h hl
  refine ⟨ad, rfl, fun j hj => ?_⟩
  have hlt := lt_of_cell (hc j hj)
  rw [← hc j hj]
  have hb : (ad.add j).block = ad.block := add_block ad j
  have hk : w'.heap[(ad.add j).block]? = w.heap[(ad.add j).block]? := by
    refine hg.block _ hlt ?_
    rcases hd with hd | hd
    · cases hd
    · intro e; exact hd (by rw [← e, hb]; rfl)
  unfold World.cell?
  rw [hk]
theorem Apart.step {v w' : World} {B B' A : Option Addr} (h : Apart v B A) (hs : v.heap.size ≤ w'.heap.size) (hb : blk B' = blk B ∨ blk B' = some v.heap.size) : Apart w' B' A := by
  refine ⟨?_, fun k hk => Nat.lt_of_lt_of_le (h.2 k hk) hs⟩
  rcases hb with hb | hb
  · rcases h.1 with h1 | h1
    · exact .inl h1
    · exact .inr (by rw [hb]; exact h1)
  · rcases hA : blk A with _ | k
    · exact .inl hA
    · refine .inr ?_
      have := h.2 k hA
      rw [hA, hb]; intro e; injection e with e; omega
theorem Apart.wide {v w' : World} {B A : Option Addr} (h : Apart v B A) (hs : v.heap.size ≤ w'.heap.size) : Apart w' B A := ⟨h.1, fun k hk => Nat.lt_of_lt_of_le (h.2 k hk) hs⟩
theorem apart_fresh {w w' : World} {A B : Option Addr} (h : Fresh w w' A) (hB : ∀ k, blk B = some k → k < w.heap.size) : Apart w' B A := by
  refine ⟨?_, fun k hk => (h k hk).2⟩
  rcases hA : blk A with _ | k
  · exact .inl hA
  · refine .inr ?_
    have h1 := (h k hA).1
    rw [hA]; intro e
    have := hB k e.symm
    omega
theorem scan_any (A : Option Addr) (b : List Nat) (c : Nat) (rs : List (List Nat)) (t : List Nat) (hS : Scans b rs t) (hb : Bytes b) (hc : b.length ≤ c) (hcm : c ≤ 9223372036854775807) (hm : b.length ≤ 1000000) (W : World) (hr : RdB W A b) :
    Calls Tryz.prog 78 #[.slice A b.length c] W fun e W' => ∃ (xs : List Sl) (B : Option Addr) (d : Nat), Hid (xs.map (fun x => x.2.2) = rs) ∧ e = .returned (.tuple #[.slice B xs.length d, .int .i64 ((b.length - t.length : Nat) : Int)]) ∧ Rd slv W' B xs ∧ (∀ x ∈ xs, SlOk W' x) ∧ Below W.heap.size W W' := by
  obtain ⟨i1, hi1, hy0, hy1, hy2⟩ := info_parts Tryz.infoSl
  go_enter Tryz.func78, Tryz.ntmps78
  go_wp2
  have HS := Lib.hid hS
  clear hS
  go_loopw [0, 4] (fun bv o wr => ∃ (b2 : List Nat) (A2 : Option Addr) (c2 : Nat) (xs : List Sl) (B : Option Addr) (d : Nat) (rs2 : List (List Nat)), bv = .slice A2 b2.length c2 ∧ o = .slice B xs.length d ∧ Hid (xs.map (fun x => x.2.2) ++ rs2 = rs) ∧ Hid (Scans b2 rs2 t) ∧ Bytes b2 ∧ b2.length ≤ c2 ∧ c2 ≤ 9223372036854775807 ∧ b2.length + xs.length ≤ b.length ∧ RdB wr A2 b2 ∧ Own slv 67 wr W.heap.size B d xs ∧ (∀ x ∈ xs, SlOk wr x ∧ Apart wr B x.1) ∧ Dist A2 B ∧ Below W.heap.size W wr) (fun bv _ _ => slLen bv)
  case atStart => exact ⟨b, A, c, [], none, 0, rs, rfl, rfl, Lib.hid rfl, HS, hb, hc, hcm, by simp, hr, Own.nil _ _ _ _, (fun x hx => by simp at hx), Dist.symm (.inl rfl), Below.refl _ _⟩
  case round =>
    obtain ⟨b2, A2, c2, xs, B, d, rs2, rfl, rfl, hX, hS2, hb2, hc2, hcm2, hl2, hr2, hO, hOk, hD2, hB⟩ := hrel
    have hsw := hB.size
    go_wp2_with fail
    refine (fcut_any A2 b2 c2 hb2 hc2 hcm2 (by omega) _ hr2).mono ?_
    rintro e w2 (⟨hN, rfl, hbw⟩ | ⟨r, s, A3, B3, c3, d3, hC, rfl, hr3, hs3, hrc, hcm3, hsd, hdm, hf1, hf2, hbw⟩)
    · have hst := hS2.out
      cases hst with
      | step h _ => rw [hN] at h; cases h
      | stop _ =>
        go_wp2
        go_ret2
        refine ⟨xs, B, d, Lib.hid (by have := hX.out; simpa using this), ?_, (hO.below hbw (Nat.le_refl _)).rd, fun x hx => (hOk x hx).1.below hbw (Nat.le_refl _), below_next hB hbw⟩
        have e : ((b.length : Int) - (t.length : Int)) = ((b.length - t.length : Nat) : Int) := by omega
        rw [← e]; rfl
    · have hst := hS2.out
      cases hst with
      | stop h => rw [hC] at h; cases h
      | @step _ r' s' _ rs3 h hrest =>
        rw [hC] at h
        injection h with h
        injection h with h1 h2
        subst h1 h2
        obtain ⟨h12, hlen, hmem⟩ := cutF_some hC
        have hO2 := hO.below hbw (Nat.le_refl _)
        have HC := Lib.hid hC
        have HRest := Lib.hid hrest
        clear hC hrest
        have hB2 := below_next hB hbw
        have hs2 := hB2.size
        have HOk := Lib.hid (show ∀ x ∈ xs, SlOk w2 x ∧ Apart w2 B x.1 from fun x hx => ⟨(hOk x hx).1.below hbw (Nat.le_refl _), (hOk x hx).2.wide hbw.size⟩)
        have HF1 := Lib.hid (apart_fresh hf1 (fun k hk => (hO.lt k hk).2))
        have HF2 := Lib.hid (apart_fresh hf2 (fun k hk => (hO.lt k hk).2))
        have Hbb := Lib.hid hb2
        clear hf1 hf2 hD2
        clear hOk
        have Hr3 := Lib.hid hr3
        have Hs3 := Lib.hid hs3
        have Hmem := Lib.hid hmem
        clear hr3 hs3 hmem hb2
        go_wp2_with (at_builtin; refine wpList_append_one slv _ slv_one rfl (.tmp 24) (.tmp 26) _ rfl W.heap.size 67 i1 _ 24 Tryz.underlying111 hi1 hy0 hy1 hy2 rfl _ _ xs rfl (hO2.alloc _) _ _ (A3, c3, r) rfl (cell_alloc_one _ _ _ _ rfl) (by unfold maxLen; omega) (by omega) (by simp; omega) ?_; intro X2 B4 d4 w4 hX2 ho4 hb4 hg4 ha4; have hB4 := (hB2.alloc hs2 (.cells #[.slice A3 r.length c3] 67)).trans hb4)
        have hsz : w2.heap.size ≤ (w2.alloc (.cells #[.slice A3 r.length c3] 67)).heap.size := by simp
        have hal := (Below.refl w2.heap.size w2).alloc (Nat.le_refl _) (.cells #[.slice A3 r.length c3] 67)
        have hX2l : X2.length ≤ xs.length + 1 := by rw [hX2.out, List.length_append]; exact Nat.le_refl _
        have F1 := (HF1.out.wide hsz).step hg4.size ha4
        have F2 := (HF2.out.wide hsz).step hg4.size ha4
        go_roundw
        case rel =>
          refine ⟨s, B3, d3, X2, B4, d4, rs3, rfl, rfl, Lib.hid (by rw [hX2.out, ← hX.out]; simp), HRest, fun x hx => Hbb.out x (Hmem.out x (.inr hx)), hsd, hdm, by omega, ((Hs3.out.below hal (Nat.le_refl _)).kept hg4 HF2.out.1), ho4, ?_, F2.1, hB4⟩
          intro x hx
          rw [hX2.out] at hx
          rcases List.mem_append.1 hx with hx | hx
          · have h := HOk.out x hx
            exact ⟨⟨(h.1.1.below hal (Nat.le_refl _)).kept hg4 h.2.1, h.1.2⟩, (h.2.wide hsz).step hg4.size ha4⟩
          · obtain rfl := List.mem_singleton.1 hx
            exact ⟨⟨(Hr3.out.below hal (Nat.le_refl _)).kept hg4 HF1.out.1, fun x hx => Hbb.out x (Hmem.out x (.inl hx)), hrc, hcm3⟩, F1⟩
        case measure => simp [slLen]; omega
open Crc
theorem all2 {α : Type} {P : α → Prop} {x y : α} (hx : P x) (hy : P y) : ∀ t ∈ [x, y], P t := by
  intro t ht
  simp only [List.mem_cons, List.not_mem_nil, or_false] at ht
  rcases ht with rfl | rfl <;> assumption
structure Vt where
  slot : Nat
  ballot : Nat
  origin : Nat
  full : Bool
  bytes : ByteArray
def vtv (v : Vt) : Value := .agg #[.int .i64 (v.slot : Int), .int .i64 (v.ballot : Int), .int .i64 (v.origin : Int), .bool v.full, .string v.bytes]
structure VRight (v : Vt) : Prop where
  s : v.slot < 64
  b1 : 1 ≤ v.ballot
  b2 : v.ballot ≤ 2147483647
  o1 : 1 ≤ v.origin
  o2 : v.origin ≤ v.ballot
  y : v.bytes.size ≤ 520
theorem ballot_yes (b : Nat) (h1 : 1 ≤ b) (h2 : b ≤ 2147483647) (W : World) :
    Calls Tryz.prog 183 #[.int .i64 (b : Int)] W fun e W' => e = .returned (.bool true) ∧ W = W' := by
  have hd1 : decide ((1 : Int) ≤ (b : Int)) = true := by simp; omega
  have hd2 : decide ((b : Int) ≤ 2147483647) = true := by simp; omega
  go_enter Tryz.func183, Tryz.ntmps183
  go_wp2
  go_ret
  exact ⟨rfl, rfl⟩
theorem vright_yes (v : Vt) (h : VRight v) (W : World) :
    Calls Tryz.prog 140 #[vtv v] W fun e W' => e = .returned (.bool true) ∧ Below W.heap.size W W' := by
  obtain ⟨s, b, o, f, y⟩ := v
  obtain ⟨h1, h2, h3, h4, h5, h6⟩ := h
  simp only at h1 h2 h3 h4 h5 h6
  unfold vtv
  simp only
  have hd0 : decide ((0 : Int) ≤ (s : Int)) = true := by simp
  have hd1 : decide ((s : Int) < 64) = true := by simp; omega
  have hd2 : decide ((o : Int) ≤ (b : Int)) = true := by simp; omega
  have hd3 : decide ((y.size : Int) ≤ 520) = true := by simp; omega
  go_enter Tryz.func140, Tryz.ntmps140
  go_wp2_with (first
    | (go_at_call 183; refine (ballot_yes b h2 h3 _).mono ?_; rintro e w1 ⟨rfl, rfl⟩)
    | (go_at_call 183; refine (ballot_yes o h4 (by omega) _).mono ?_; rintro e w1 ⟨rfl, rfl⟩))
  go_ret
  exact ⟨rfl, (Below.refl _ _).alloc (Nat.le_refl _) _⟩
def recP (b : Nat) : List Nat := numN 1 ++ numN b
theorem promise_any (b : Nat) (h1 : 1 ≤ b) (h2 : b ≤ 2147483647) (W : World) :
    Calls Tryz.prog 152 #[.int .i64 (b : Int)] W fun e W' => ∃ (L : List Nat) (A : Option Addr) (c : Nat), Hid (L = recP b) ∧ e = .returned (.tuple #[.slice A L.length c, .int .i64 0]) ∧ OwnB 5 W' W.heap.size A c L ∧ L.length ≤ c ∧ Below W.heap.size W W' := by
  go_enter Tryz.func152, Tryz.ntmps152
  go_wp2_with fail
  refine (ballot_yes b h1 h2 _).mono ?_
  rintro e w1 ⟨rfl, rfl⟩
  go_wp2_with fail
  refine (num_i 1 1 rfl (by decide) _).mono ?_
  rintro e w2 ⟨L2, A2, c2, H2, rfl, ho2, hc2, hb2⟩
  go_wp2_with fail
  refine (num_any b (by omega) _).mono ?_
  rintro e w3 ⟨L3, A3, c3, H3, rfl, ho3, hc3, hb3⟩
  have hB := below_next hb2 hb3
  have HB := Lib.hid (hB.alloc hB.size (.cells #[.slice A2 L2.length c2, .slice A3 L3.length c3] 67))
  have hl2 : L2.length ≤ 4 := by rw [H2.out]; exact Nat.le_refl _
  have hl3 : L3.length ≤ 4 := by rw [H3.out]; exact Nat.le_refl _
  have HA := Lib.hid (ho2.rd.below hb3 (Nat.le_refl _))
  go_wp2_with fail
  refine (concat_n _ [(A2, c2, L2), (A3, c3, L3)] _ _ rfl (by simp) (by simp [flat]; omega) _ (rdSl_lit w3 _ _ _ _ rfl rfl (all2 HA.out ho3.rd))).mono ?_
  rintro e w4 ⟨L4, A4, c4, H4, rfl, ho4, hc4, hb4⟩
  go_wp2
  go_ret2
  exact ⟨L4, A4, c4, Lib.hid (by rw [H4.out]; simp [flat, recP, H2.out, H3.out]), rfl, own_base ho4 HB.out.size, hc4, below_next HB.out hb4⟩
theorem full_any (f : Bool) (W : World) : Calls Tryz.prog 196 #[.bool f] W fun e W' => e = .returned (.int .i64 (f.toNat : Nat)) ∧ W = W' := by
  cases f
  all_goals
    go_enter Tryz.func196, Tryz.ntmps196
    go_wp2
    go_ret
    exact ⟨rfl, rfl⟩
end Go.Proofs.YtoigogjmhkpdlaaGreat
