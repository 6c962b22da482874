/- Walks of the program's filter of keys: a key's bits. -/
import Derived.Test.YtoigogjmhkpdlabCheckB
import Derived.Test.YtoigogjmhkpdlabSame
import Derived.Test.YtoigogjmhkpdlabRows2
import Derived.BigRegion
import Derived.RegionTactic
namespace Go.Proofs.Ytoigogjmhkpdlab
open Go.RowKit
open Crc

/-- An int's value. -/
def iv (n : Nat) : Value := .int .i64 (n : Int)
theorem iv_one (n : Nat) : (iv n).oneCell' = true := rfl
theorem Try.infoI : (Try.prog.info? 3).map (fun i => (i.zero, i.size, i.bytes)) = some (some (.int .i64 0), 1, 8) := by kernel_rfl

/-- The sums that a key's bits go by. -/
def accN (k : List Nat) (j : Nat) : Nat := (sumN k + j * sumN (1 :: k)) % 4294967296
/-- A key's bits. -/
def bitsN (k : List Nat) (n : Nat) : List Nat := (List.range 3).map fun j => accN k j % n
def NewInts (W : World) (l : List Nat) (W' : World) (e : Ending) : Prop :=
  ∃ (L : List Nat) (A : Option Addr) (c : Nat), Hid (L = l) ∧ e = .returned (.slice A L.length c) ∧ Own iv 3 W' W.heap.size A c L ∧ Below W.heap.size W W'

theorem accN_lt (k : List Nat) (j : Nat) : accN k j < 4294967296 := Nat.mod_lt _ (by decide)
theorem accN_zero {k : List Nat} (h : Bytes k) : accN k 0 = sumN k := by unfold accN; rw [Nat.zero_mul, Nat.add_zero, Nat.mod_eq_of_lt (sumN_lt h)]
theorem accN_succ (k : List Nat) (j : Nat) : (accN k j + sumN (1 :: k)) % 4294967296 = accN k (j + 1) := by
  unfold accN; rw [Nat.mod_add_mod, Nat.add_assoc, ← Nat.succ_mul]
theorem one_bytes {k : List Nat} (h : Bytes k) : Bytes (1 :: k) := by
  intro b hb
  rcases List.mem_cons.1 hb with rfl | hb
  · decide
  · exact h b hb

set_option maxHeartbeats 1600000 in
theorem bits_any (s : ByteArray) (n : Nat) (hn1 : 1 ≤ n) (hn2 : n < 4294967296) (hs : s.size ≤ 140737488351000) (W : World) :
    Calls Try.prog 17 #[.string s, .int .i64 (n : Int)] W fun e W' => NewInts W (bitsN (keyN s) n) W' e := by
  obtain ⟨i0, hi, hz0, hz1, hz2⟩ := info_parts Try.infoB
  obtain ⟨i1, hi1, hy0, hy1, hy2⟩ := info_parts Try.infoI
  have hk := keyN_bytes s
  have hkl := keyN_length s
  have Hkl := Lib.hid hkl
  clear hkl
  have hconv := fun w => Lib.run_convert_string_bytes (P := Try.prog) w 9 31 5 s Try.underlying9 Try.underlying31 Try.underlying5
  have hbw := bytesWorld_below W 5 s
  have hbs := hbw.size
  go_enter Try.func17, Try.ntmps17
  go_wp2_with fail
  refine (sum_n _ (keyN s) _ _ Hkl.out hk (by rw [Hkl.out]; omega) _ (bytesWorld_rd W _ s)).mono ?_
  rintro e w1 ⟨rfl, rfl⟩
  have hb1 : (1 : Nat) < 256 := by decide
  go_wp2_with (first
    | (at_builtin; refine wpList_append_key _ rfl (.tmp 11) (.tmp 12) 31 9 rfl W.heap.size 5 i0 Try.underlying31 Try.underlying9 hi hz0 hz1 hz2 _ _ [1] rfl (OwnB.lit _ _ _ _ [1] hbs (by decide) rfl) s rfl (by simp; omega) (by simp; omega) ?_; intro L A2 c2 w2 HL ho2 hb2; have hB2 := (hbw.alloc hbs (.cells #[.int .u8 1] 5)).trans hb2; have hLb : Bytes L := (by rw [HL.out]; exact one_bytes hk); have hLl : L.length ≤ 140737488351001 := (by rw [HL.out]; simp [Hkl.out]; omega))
    | (go_at_call 24; refine (sum_any A2 L c2 hLb (by omega) _ ho2.rd).mono ?_; rintro e w3 ⟨rfl, rfl⟩))
  have hLe : sumN L = sumN (1 :: keyN s) := by rw [HL.out]; rfl
  obtain ⟨b, hb⟩ : ∃ b, b = sumN L := ⟨_, rfl⟩
  have hbl : b < 4294967296 := by rw [hb]; exact sumN_lt hLb
  have Hb := Lib.hid (hb.trans hLe)
  have HA := Lib.hid (accN_zero hk)
  rw [← hb]
  clear hb hLe
  go_loopw [5, 7, 15] (fun a o i wr => ∃ (j : Nat) (X : List Nat) (B : Option Addr) (d : Nat), j ≤ 3 ∧ i = .int .i64 j ∧ a = .int .u32 (accN (keyN s) j : Nat) ∧ o = .slice B X.length d ∧ Hid (X = (List.range j).map fun j => accN (keyN s) j % n) ∧ Own iv 3 wr W.heap.size B d X ∧ Below W.heap.size W wr) (fun _ _ i _ => 3 - (intOf i).toNat)
  case atStart => exact ⟨0, [], none, 0, by omega, rfl, by rw [HA.out], rfl, Lib.hid rfl, Own.nil _ _ _ _, hB2⟩
  case round =>
    obtain ⟨j, X, B, d, hj, rfl, rfl, rfl, hX, ho, hB⟩ := hrel
    have hs3 := hB.size
    have hXl : X.length ≤ 3 := by rw [hX.out]; simp; omega
    by_cases hj8 : j < 3
    · have hal := accN_lt (keyN s) j
      have HS := Lib.hid (accN_succ (keyN s) j)
      obtain ⟨m, hm, hme, hml⟩ : ∃ m : Nat, ((accN (keyN s) j : Nat) : Int) % (n : Int) = (m : Int) ∧ m = accN (keyN s) j % n ∧ m < n := ⟨accN (keyN s) j % n, by simp, rfl, Nat.mod_lt _ (by omega)⟩
      have HM := Lib.hid hme
      clear hme
      have hnz : ((n : Int) == 0) = false := by rw [beq_eq_false_iff_ne]; omega
      go_wp2_with (at_builtin; refine wpList_append_one iv _ iv_one rfl (.tmp 17) (.tmp 23) _ rfl W.heap.size 3 i1 _ 8 Try.underlying34 hi1 hy0 hy1 hy2 rfl _ _ X rfl (ho.alloc _) _ _ m rfl (cell_alloc_one _ _ _ _ rfl) (by unfold maxLen; omega) (by omega) (by simp; omega) ?_; intro X2 B2 d2 w4 hX2 ho4 hb4 _ _; have hB4 := (hB.alloc hs3 (.cells #[.int .i64 (m : Int)] 3)).trans hb4)
      go_roundw
      case rel => exact ⟨j + 1, X2, B2, d2, by omega, by go_num, by rw [← HS.out, ← Hb.out]; go_num, rfl, Lib.hid (by rw [hX2.out, hX.out, HM.out, List.range_succ, List.map_append]; rfl), ho4, hB4⟩
      case measure => simp [intOf]; omega
    · go_wp2
      go_ret
      exact ⟨X, B, d, Lib.hid (by rw [hX.out, show j = 3 by omega]; rfl), rfl, ho, hB⟩

/-- The reference's bits. -/
theorem refbits_any (s : ByteArray) (n : Nat) (hn1 : 1 ≤ n) (hn2 : n < 4294967296) (hs : s.size ≤ 140737488351000) (W : World) :
    Calls Try.prog 18 #[.string s, .int .i64 (n : Int)] W fun e W' => NewInts W (bitsN (keyN s) n) W' e := by
  obtain ⟨i0, hi, hz0, hz1, hz2⟩ := info_parts Try.infoB
  have hk := keyN_bytes s
  have Hkl := Lib.hid (keyN_length s)
  have hconv := fun w => Lib.run_convert_string_bytes (P := Try.prog) w 9 31 5 s Try.underlying9 Try.underlying31 Try.underlying5
  have hbw := bytesWorld_below W 5 s
  have hbs := hbw.size
  go_enter Try.func18, Try.ntmps18
  go_wp2_with fail
  refine (refsum_n _ (keyN s) _ _ Hkl.out hk (by rw [Hkl.out]; omega) _ (bytesWorld_rd W _ s)).mono ?_
  rintro e w1 ⟨rfl, rfl⟩
  have hsl := sumN_lt hk
  have hbx := bytesWorld_below ((Lib.bytesWorld W 5 s).alloc (.cells #[.int .u8 1] 5)) 5 s
  have hB1 := (hbw.alloc hbs (.cells #[.int .u8 1] 5)).trans (hbx.mono (B' := W.heap.size) (by simp; omega))
  have hs1 := hB1.size
  go_wp2_with (at_builtin; refine wpList_append_bytes_n _ rfl (.tmp 11) (.tmp 13) _ rfl W.heap.size 5 i0 Try.underlying31 hi hz0 hz1 hz2 _ _ [1] rfl ((OwnB.lit _ _ _ _ [1] hbs (by decide) rfl).below hbx (Nat.le_refl _)) _ _ _ (keyN s) Hkl.out rfl (by simpa using bytesWorld_rd ((Lib.bytesWorld W 5 s).alloc (.cells #[.int .u8 1] 5)) 5 s) (by rw [Hkl.out]; simp; omega) hs1 ?_; intro L A2 c2 w2 HL ho2 hb2; have hB2 := hB1.trans hb2; have hLb : Bytes L := (by rw [HL.out]; exact one_bytes hk); have hLl : L.length ≤ 140737488351001 := (by rw [HL.out]; simp [Hkl.out]; omega))
  have hLe : sumN L = sumN (1 :: keyN s) := by rw [HL.out]; rfl
  refine (refsum_any A2 L c2 hLb (by omega) _ ho2.rd).mono ?_
  rintro e w3 ⟨rfl, rfl⟩
  obtain ⟨x, hx⟩ : ∃ x, x = sumN (keyN s) := ⟨_, rfl⟩
  obtain ⟨b, hb⟩ : ∃ b, b = sumN L := ⟨_, rfl⟩
  have hbl : b < 4294967296 := by rw [hb]; exact sumN_lt hLb
  have e0 : accN (keyN s) 0 = x := by rw [accN_zero hk, hx]
  have e1 : accN (keyN s) 1 = (x + b) % 4294967296 := by unfold accN; rw [hx, hb, hLe, Nat.one_mul]
  have e2 : accN (keyN s) 2 = (x + 2 * b) % 4294967296 := by unfold accN; rw [hx, hb, hLe]
  obtain ⟨m0, h0, g0⟩ : ∃ m : Nat, (x : Int) % (n : Int) = (m : Int) ∧ m = accN (keyN s) 0 % n := ⟨x % n, by simp, by rw [e0]⟩
  obtain ⟨m1, h1, g1⟩ : ∃ m : Nat, ((x : Int) + (b : Int)) % 4294967296 % (n : Int) = (m : Int) ∧ m = accN (keyN s) 1 % n := ⟨(x + b) % 4294967296 % n, by simp, by rw [e1]⟩
  obtain ⟨m2, h2, g2⟩ : ∃ m : Nat, ((x : Int) + 2 * (b : Int)) % 4294967296 % (n : Int) = (m : Int) ∧ m = accN (keyN s) 2 % n := ⟨(x + 2 * b) % 4294967296 % n, by simp, by rw [e2]⟩
  have HM := Lib.hid (show bitsN (keyN s) n = [m0, m1, m2] by rw [g0, g1, g2]; rfl)
  have hxl : x < 4294967296 := by rw [hx]; exact hsl
  have hnz : ((n : Int) == 0) = false := by rw [beq_eq_false_iff_ne]; omega
  rw [← hx, ← hb]
  clear hx hb hLe e0 e1 e2 g0 g1 g2 hsl
  go_wp2
  go_region
  go_wp2
  go_ret
  exact ⟨[m0, m1, m2], some ⟨w2.heap.size, 0, none⟩, 3, Lib.hid HM.out.symm, rfl, (Own.lit iv 3 w2 W.heap.size _ [m0, m1, m2] hB2.size (by simp [maxLen]) rfl).drew, (hB2.alloc hB2.size _).drew⟩

theorem bits_i (s : ByteArray) (x : Int) (n : Nat) (hx : x = (n : Int)) (hn1 : 1 ≤ n) (hn2 : n < 4294967296) (hs : s.size ≤ 140737488351000) (W : World) :
    Calls Try.prog 17 #[.string s, .int .i64 x] W fun e W' => NewInts W (bitsN (keyN s) n) W' e := by
  subst hx; exact bits_any s n hn1 hn2 hs W
theorem refbits_i (s : ByteArray) (x : Int) (n : Nat) (hx : x = (n : Int)) (hn1 : 1 ≤ n) (hn2 : n < 4294967296) (hs : s.size ≤ 140737488351000) (W : World) :
    Calls Try.prog 18 #[.string s, .int .i64 x] W fun e W' => NewInts W (bitsN (keyN s) n) W' e := by
  subst hx; exact refbits_any s n hn1 hn2 hs W
end Go.Proofs.Ytoigogjmhkpdlab
