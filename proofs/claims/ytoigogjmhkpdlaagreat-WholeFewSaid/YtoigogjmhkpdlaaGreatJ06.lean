/- A part of the proof of WholeFew: the texts BlmA, BlmB, BlmC. -/
import Derived.Test.YtoigogjmhkpdlaaGreatJ01
import Derived.Test.YtoigogjmhkpdlaaGreatJ02
import Derived.Test.YtoigogjmhkpdlaaGreatJ05
import Derived.BigRegion
import Derived.RegionTactic
set_option maxHeartbeats 1600000
set_option maxRecDepth 100000
namespace Go.Proofs.YtoigogjmhkpdlaaGreat
open Go.RowKit
open Crc
theorem iv_one (n : Nat) : (iv n).oneCell' = true := rfl
theorem Tryz.infoI : (Tryz.prog.info? 3).map (fun i => (i.zero, i.size, i.bytes)) = some (some (.int .i64 0), 1, 8) := by kernel_rfl
def accN (k : List Nat) (j : Nat) : Nat := (sumN k + j * sumN (1 :: k)) % 4294967296
def bitsN (k : List Nat) (n : Nat) : List Nat := (List.range 3).map fun j => accN k j % n
def NewInts (W : World) (l : List Nat) (W' : World) (e : Ending) : Prop :=
  ∃ (L : List Nat) (A : Option Addr) (c : Nat), Hid (L = l) ∧ e = .returned (.slice A L.length c) ∧ Own iv 3 W' W.heap.size A c L ∧ Below W.heap.size W W'
theorem accN_lt (k : List Nat) (j : Nat) : accN k j < 4294967296 := Nat.mod_lt _ (by decide)
theorem accN_zero {k : List Nat} (h : Bytes k) : accN k 0 = sumN k := by unfold accN; rw [Nat.zero_mul, Nat.add_zero, Nat.mod_eq_of_lt (sumN_lt h)]
theorem accN_succ (k : List Nat) (j : Nat) : (accN k j + sumN (1 :: k)) % 4294967296 = accN k (j + 1) := by
  unfold accN; rw [Nat.mod_add_mod, Nat.add_assoc, ← Nat.succ_mul]
theorem one_bytes {k : List Nat} (h : Bytes k) : Bytes (1 :: k) := by
  intro b hb
  rcases List.mem_cons.1 hb with rfl | hb
  · decide
  · exact h b hb
theorem bits_any (s : ByteArray) (n : Nat) (hn1 : 1 ≤ n) (hn2 : n < 4294967296) (hs : s.size ≤ 140737488351000) (W : World) :
    Calls Tryz.prog 338 #[.string s, .int .i64 (n : Int)] W fun e W' => NewInts W (bitsN (keyN s) n) W' e := by
  obtain ⟨i0, hi, hz0, hz1, hz2⟩ := info_parts Tryz.infoB
  obtain ⟨i1, hi1, hy0, hy1, hy2⟩ := info_parts Tryz.infoI
  have hk := keyN_bytes s
  have hkl := keyN_length s
  have Hkl := Lib.hid hkl
  clear hkl
  have hconv := fun w => Lib.run_convert_string_bytes (P := Tryz.prog) w 9 67 5 s Tryz.underlying9 Tryz.underlying67 Tryz.underlying5
  have hbw := bytesWorld_below W 5 s
  have hbs := hbw.size
  go_enter Tryz.func338, Tryz.ntmps338
  go_wp2_with fail
  refine (sum_n _ (keyN s) _ _ Hkl.out hk (by rw [Hkl.out]; omega) _ (bytesWorld_rd W _ s)).mono ?_
  rintro e w1 ⟨rfl, rfl⟩
  have hb1 : (1 : Nat) < 256 := by decide
  go_wp2_with (first
    | (at_builtin; refine wpList_append_key _ rfl (.tmp 11) (.tmp 12) 67 9 rfl W.heap.size 5 i0 Tryz.underlying67 Tryz.underlying9 hi hz0 hz1 hz2 _ _ [1] rfl (OwnB.lit _ _ _ _ [1] hbs (by decide) rfl) s rfl (by simp; omega) (by simp; omega) ?_; intro L A2 c2 w2 HL ho2 hb2; have hB2 := (hbw.alloc hbs (.cells #[.int .u8 1] 5)).trans hb2; have hLb : Bytes L := (by rw [HL.out]; exact one_bytes hk); have hLl : L.length ≤ 140737488351001 := (by rw [HL.out]; simp [Hkl.out]; omega))
    | (go_at_call 165; refine (sum_any A2 L c2 hLb (by omega) _ ho2.rd).mono ?_; rintro e w3 ⟨rfl, rfl⟩))
  have hLe : sumN L = sumN (1 :: keyN s) := by rw [HL.out]; rfl
  obtain ⟨b, hb⟩ : ∃ b, b = sumN L := ⟨_, rfl⟩
  have hbl : b < 4294967296 := by rw [hb]; exact sumN_lt hLb
  have Hb := Lib.hid (hb.trans hLe)
  have HA := Lib.hid (accN_zero hk)
  rw [← hb]
  clear hb hLe
  go_loopw [5, 7, 15] (fun a o i wr => ∃ (j : Nat) (X : List Nat) (B : Option Addr) (d : Nat), j ≤ 3 ∧ i = .int .i64 j ∧ a = .int .u32 (accN (keyN s) j : Nat) ∧ o = .slice B X.length d ∧ Hid (X = (List.range j).map fun j => accN (keyN s) j % n) ∧ Own iv 3 wr W.heap.size B d X ∧ Below W.heap.size W wr) (fun _ _ i _ => 3 - (intOf i).toNat)
  case atStart => exact ⟨0, [], none, 0, by omega, rfl, by rw [HA.out], rfl, Lib.hid rfl, Own.nil _ _ _ _, hB2⟩
  case round =>
    obtain ⟨j, X, B, d, hj, rfl, rfl, rfl, hX, ho, hB⟩ := hrel
    have hs3 := hB.size
    have hXl : X.length ≤ 3 := by rw [hX.out]; simp; omega
    by_cases hj8 : j < 3
    · have hal := accN_lt (keyN s) j
      have HS := Lib.hid (accN_succ (keyN s) j)
      obtain ⟨m, hm, hme, hml⟩ : ∃ m : Nat, ((accN (keyN s) j : Nat) : Int) % (n : Int) = (m : Int) ∧ m = accN (keyN s) j % n ∧ m < n := ⟨accN (keyN s) j % n, by simp, rfl, Nat.mod_lt _ (by omega)⟩
      have HM := Lib.hid hme
      clear hme
      have hnz : ((n : Int) == 0) = false := by rw [beq_eq_false_iff_ne]; omega
      go_wp2_with (at_builtin; refine wpList_append_one iv _ iv_one rfl (.tmp 17) (.tmp 23) _ rfl W.heap.size 3 i1 _ 8 Tryz.underlying35 hi1 hy0 hy1 hy2 rfl _ _ X rfl (ho.alloc _) _ _ m rfl (cell_alloc_one _ _ _ _ rfl) (by unfold maxLen; omega) (by omega) (by simp; omega) ?_; intro X2 B2 d2 w4 hX2 ho4 hb4 _ _; have hB4 := (hB.alloc hs3 (.cells #[.int .i64 (m : Int)] 3)).trans hb4)
      go_roundw
      case rel => exact ⟨j + 1, X2, B2, d2, by omega, by go_num, by rw [← HS.out, ← Hb.out]; go_num, rfl, Lib.hid (by rw [hX2.out, hX.out, HM.out, List.range_succ, List.map_append]; rfl), ho4, hB4⟩
      case measure => simp [intOf]; omega
    · go_wp2
      go_ret
      exact ⟨X, B, d, Lib.hid (by rw [hX.out, show j = 3 by omega]; rfl), rfl, ho, hB⟩
theorem bits_i (s : ByteArray) (x : Int) (n : Nat) (hx : x = (n : Int)) (hn1 : 1 ≤ n) (hn2 : n < 4294967296) (hs : s.size ≤ 140737488351000) (W : World) :
    Calls Tryz.prog 338 #[.string s, .int .i64 x] W fun e W' => NewInts W (bitsN (keyN s) n) W' e := by
  subst hx; exact bits_any s n hn1 hn2 hs W
open Crc Bl
abbrev RdS (W : World) (A : Option Addr) (l : List ByteArray) : Prop := Rd Value.string W A l
/-! Making a filter. -/
def keyBits (n : Nat) (s : ByteArray) : List Nat := bitsN (keyN s) (8 * n)
def filt (l : List ByteArray) : Nat := max 1 l.length
theorem bitsN_lt (k : List Nat) (m : Nat) (hm : 1 ≤ m) : ∀ p ∈ bitsN k m, p < m := by
  intro p hp
  obtain ⟨j, _, rfl⟩ := List.mem_map.1 hp
  exact Nat.mod_lt _ hm
theorem bitsN_length (k : List Nat) (m : Nat) : (bitsN k m).length = 3 := rfl
def makeF (l : List ByteArray) : List Nat := makeN (keyBits (filt l)) (filt l) l
def NewBytes (W : World) (l : List Nat) (W' : World) (e : Ending) : Prop :=
  ∃ (L : List Nat) (A : Option Addr) (c : Nat), Hid (L = l) ∧ e = .returned (.slice A L.length c) ∧ Own bv 5 W' W.heap.size A c L ∧ Below W.heap.size W W'
theorem ret_sl {A : Option Addr} {n m c : Nat} (h : n = m) : Ending.returned (.slice A n c) = .returned (.slice A m c) := by rw [h]
theorem u8_or_bit (x r : Nat) (hx : x < 256) (hr : r < 8) : bits .or .u8 (x : Int) ((2 : Int) ^ r % 256) = ((x ||| 2 ^ r : Nat) : Int) := by
  have h2 : 2 ^ r < 256 := Nat.pow_lt_pow_right (m := r) (n := 8) (by decide) hr
  have e : ((2 : Int) ^ r % 256) = ((2 ^ r : Nat) : Int) := by
    have h3 : ((2 ^ r : Nat) : Int) = (2 : Int) ^ r := by rw [Int.natCast_pow]; rfl
    rw [← h3]; have := Int.ofNat_lt.2 h2; exact Int.emod_eq_of_lt (Int.natCast_nonneg _) (by simpa using this)
  rw [e]; exact u8_or_nat x (2 ^ r) hx h2
theorem make_any (A : Option Addr) (l : List ByteArray) (c : Nat) (hm : l.length ≤ 1000) (hR : ∀ s ∈ l, s.size ≤ 5000) (W : World) (hr : RdS W A l) :
    Calls Tryz.prog 336 #[.slice A l.length c] W fun e W' => NewBytes W (makeF l) W' e := by
  obtain ⟨i0, hi, hz0, hz1, hz2⟩ := info_parts Tryz.infoB
  have HR := Lib.hid hr
  clear hr
  have hf1 : 1 ≤ filt l := by unfold filt; omega
  have hf2 : filt l ≤ 1000 := by unfold filt; omega
  have Hf := Lib.hid (show filt l = max 1 l.length from rfl)
  have hbits : ∀ s ∈ l, s.size ≤ 140737488351000 := fun s hs => Nat.le_trans (hR s hs) (by decide)
  have hcases : (1 < l.length ∧ filt l ≤ l.length ∧ l.length ≤ filt l) ∨ (l.length ≤ 1 ∧ filt l ≤ 1) := by rw [Hf.out]; omega
  rcases hcases with ⟨hl1, hg1, hg2⟩ | ⟨hl1, hg1⟩
  all_goals
    go_enter Tryz.func336, Tryz.ntmps336
    go_wp2_with (at_make; refine wpList_make_list bv _ rfl (.tmp 12) (.tmp 12) _ rfl W.heap.size 5 i0 0 Tryz.underlying67 hi hz0 hz1 rfl .i64 .i64 _ _ (filt l) rfl rfl (by omega) (by omega) (by rw [hz2]; omega) (by unfold maxLen; omega) (Nat.le_refl _) ?_; intro M A2 c2 w1 HM ho hB)
    have hM1 : M.length ≤ filt l ∧ filt l ≤ M.length := by rw [HM.out]; simp
    obtain ⟨g, rfl, hg⟩ := ho.form (by omega)
    have hglt : g < w1.heap.size := (ho.lt g rfl).2
    have Hn := Lib.hid (show M.length = filt l by omega)
    go_loopw [16] (fun i wr => ∃ (k : Nat) (F : List Nat), k ≤ l.length ∧ i = .int .i64 k ∧ Hid (F.length = M.length) ∧ Small F ∧ Own bv 5 wr W.heap.size (some ⟨g, 0, none⟩) c2 F ∧ Hid (F = setKeys (keyBits (filt l)) (List.replicate (filt l) 0) (l.take k)) ∧ Below W.heap.size W wr) (fun i _ => l.length - (intOf i).toNat)
    case atStart => exact ⟨0, M, Nat.zero_le _, rfl, Lib.hid rfl, by rw [HM.out]; exact small_zero _, ho, Lib.hid (by rw [HM.out]; rfl), hB⟩
    case round =>
      obtain ⟨k, F, hk, rfl, hFl, hFs, hFo, hFe, hFB⟩ := hrel
      have hgw : g < wr.heap.size := (hFo.lt g rfl).2
      have hsw := hFB.size
      by_cases hk8 : k < l.length
      · obtain ⟨ad, rfl, hcell⟩ := (HR.out.below hFB (Nat.le_refl _)) (by omega)
        have hck := hcell k hk8
        obtain ⟨s, hs⟩ : ∃ s, s = l[k] := ⟨_, rfl⟩
        have hsz : s.size ≤ 140737488351000 := by rw [hs]; exact hbits _ (List.getElem_mem _)
        rw [← hs] at hck
        have HS := Lib.hid hs
        clear hcell hs
        go_wp2_with (go_at_call 338; refine (bits_i s _ (8 * filt l) (by omega) (by omega) (by omega) hsz _).mono ?_; rintro e w2 ⟨L, A3, c3, HL, rfl, hoL, hbL⟩)
        have hLl : L.length ≤ 3 ∧ 3 ≤ L.length := by rw [HL.out, bitsN_length]; omega
        obtain ⟨gL, rfl, hgL⟩ := hoL.form (by omega)
        have HLp := Lib.hid (show ∀ p ∈ L, p < 8 * filt l by rw [HL.out]; exact bitsN_lt _ _ (by omega))
        obtain ⟨wo, hwo⟩ : ∃ wo : World, wo = wr := ⟨_, rfl⟩
        go_loopw [26] (fun i w3 => ∃ (j : Nat) (G : List Nat), j ≤ L.length ∧ i = .int .i64 j ∧ Hid (G.length = M.length) ∧ Small G ∧ Own bv 5 w3 W.heap.size (some ⟨g, 0, none⟩) c2 G ∧ Own iv 3 w3 wr.heap.size (some ⟨gL, 0, none⟩) c3 L ∧ Hid (G = setAll F (L.take j)) ∧ Below W.heap.size W w3) (fun i _ => L.length - (intOf i).toNat)
        case atStart => exact ⟨0, F, Nat.zero_le _, rfl, hFl, hFs, hFo.below hbL (Nat.le_refl _), hoL, Lib.hid rfl, hFB.trans (hbL.mono hsw)⟩
        case round =>
          obtain ⟨j, G, hj, rfl, hGl, hGs, hGo, hLo, hGe, hGB⟩ := hrel
          by_cases hj8 : j < L.length
          · have hcl := hLo.cell j hj8
            obtain ⟨p, hp⟩ : ∃ p, p = L[j] := ⟨_, rfl⟩
            have hpl : p < 8 * filt l := by rw [hp]; exact HLp.out _ (List.getElem_mem _)
            rw [← hp] at hcl
            have HP := Lib.hid hp
            have hpG : p / 8 < G.length := by rw [hGl.out]; omega
            have hcg := hGo.cell (p / 8) hpG
            have hfg := hGo.free (p / 8)
            obtain ⟨x, hx⟩ : ∃ x, x = G[p / 8] := ⟨_, rfl⟩
            have hxl : x < 256 := by rw [hx]; exact hGs _ (List.getElem_mem _)
            have HX := Lib.hid (show G.getD (p / 8) 0 = x by rw [hx]; simp [hpG])
            rw [← hx] at hcg
            have hpM : p / 8 < M.length := by omega
            have HO := Lib.hid (u8_or_bit x (p % 8) hxl (by omega))
            unfold iv at hcl
            unfold bv at hcg
            clear hp hx
            go_wp2
            go_region
            go_wp2
            go_roundw
            case rel =>
              rw [HO.out]
              exact ⟨j + 1, G.set (p / 8) (x ||| 2 ^ (p % 8)), by omega, by go_num, Lib.hid (by rw [List.length_set]; exact hGl.out), small_set hGs _ _ (or_lt hxl (pow_lt p)), (hGo.set (p / 8) (x ||| 2 ^ (p % 8))).drew, (hLo.far (p := ⟨g, p / 8, none⟩) (by rw [← hwo]; rw [← hwo] at hgw; exact hgw) _).drew,
                Lib.hid (by rw [List.take_succ_eq_append_getElem hj8, setAll_snoc, ← hGe.out, ← HP.out, ← HX.out]; rfl), (hGB.setCell hg _).drew⟩
            case measure => simp [intOf]; omega
          · go_wp2
            go_roundw
            case rel => exact ⟨k + 1, G, by omega, by go_num, hGl, hGs, hGo, Lib.hid (by rw [hGe.out, List.take_of_length_le (by omega), hFe.out, List.take_succ_eq_append_getElem hk8, setKeys_snoc, HL.out, HS.out]; rfl), hGB⟩
            case measure => simp [intOf]; omega
      · go_wp2
        go_ret
        exact ⟨F, _, c2, Lib.hid (by rw [hFe.out, List.take_of_length_le (by omega)]; rfl), ret_sl hFl.out.symm, hFo, hFB⟩
open Crc Bl
def hasN (F : List Nat) (s : ByteArray) : Bool := F.isEmpty || (bitsN (keyN s) (8 * F.length)).all (bitAt F)
theorem hasN_no {F L : List Nat} {s : ByteArray} (h0 : F ≠ []) (hL : L = bitsN (keyN s) (8 * F.length)) (p : Nat) (hp : p ∈ L) (hb : bitAt F p = false) : hasN F s = false := by
  unfold hasN
  have : F.isEmpty = false := by cases F <;> simp_all
  rw [this, ← hL, Bool.false_or, List.all_eq_false]
  exact ⟨p, hp, by rw [hb]; simp⟩
theorem hasN_yes {F L : List Nat} {s : ByteArray} (hL : L = bitsN (keyN s) (8 * F.length)) (h : ∀ j (hj : j < L.length), bitAt F L[j] = true) : hasN F s = true := by
  unfold hasN
  rw [← hL]
  have : L.all (bitAt F) = true := by
    rw [List.all_eq_true]
    intro p hp
    obtain ⟨j, hj, rfl⟩ := List.getElem_of_mem hp
    exact h j hj
  rw [this, Bool.or_true]
theorem u8_bit_at (x r : Nat) (hx : x < 256) : bits .and .u8 ((x : Int) / 2 ^ r) 1 = ((x / 2 ^ r % 2 : Nat) : Int) := by
  have h : x / 2 ^ r < 256 := Nat.lt_of_le_of_lt (Nat.div_le_self _ _) hx
  have e : (x : Int) / 2 ^ r = ((x / 2 ^ r : Nat) : Int) := by rw [Int.natCast_ediv, Int.natCast_pow]; rfl
  rw [e, show (1 : Int) = ((1 : Nat) : Int) from rfl, u8_and_nat _ 1 h (by decide), Nat.and_one_is_mod]
theorem bitAt_div {F : List Nat} {p x : Nat} (hp : p / 8 < F.length) (hx : x = F[p / 8]) : bitAt F p = decide (x / 2 ^ (p % 8) % 2 = 1) := by
  unfold bitAt
  have : F.getD (p / 8) 0 = x := by rw [hx]; simp [hp]
  rw [this, bit_of]
theorem has_any (A : Option Addr) (F : List Nat) (c : Nat) (s : ByteArray) (hF : Small F) (hm : F.length ≤ 1000) (hs : s.size ≤ 140737488351000) (W : World) (hr : Rd bv W A F) :
    Calls Tryz.prog 325 #[.slice A F.length c, .string s] W fun e W' => e = .returned (.bool (hasN F s)) ∧ Below W.heap.size W W' := by
  have HR := Lib.hid hr
  clear hr
  by_cases h0 : F = []
  · subst h0
    go_enter Tryz.func325, Tryz.ntmps325
    go_wp2
    go_ret
    exact ⟨rfl, Below.refl _ _⟩
  · have hpos : 0 < F.length := List.length_pos_iff.2 h0
    have hz : ((F.length : Int) == 0) = false := by rw [beq_eq_false_iff_ne]; omega
    have H0 := Lib.hid h0
    clear h0
    go_enter Tryz.func325, Tryz.ntmps325
    go_wp2_with (go_at_call 338; refine (bits_i s _ (8 * F.length) (by omega) (by omega) (by omega) hs _).mono ?_; rintro e w2 ⟨L, A3, c3, HL, rfl, hoL, hbL⟩)
    have hLl : L.length ≤ 3 ∧ 3 ≤ L.length := by rw [HL.out, bitsN_length]; omega
    have HLp := Lib.hid (show ∀ p ∈ L, p < 8 * F.length by rw [HL.out]; exact bitsN_lt _ _ (by omega))
    go_loop [16] (fun i => ∃ j : Nat, j ≤ L.length ∧ i = .int .i64 j ∧ Hid (∀ k (h : k < L.length), k < j → bitAt F L[k] = true)) (fun i => L.length - (intOf i).toNat)
    case atStart => exact ⟨0, by omega, rfl, Lib.hid (fun k h hk => by omega)⟩
    case round =>
      obtain ⟨j, hj, rfl, HJ⟩ := hrel
      by_cases hj8 : j < L.length
      · obtain ⟨aL, rfl, hcL⟩ := hoL.rd (by omega)
        obtain ⟨aF, rfl, hcF⟩ := (HR.out.below hbL (Nat.le_refl _)) hpos
        have hcl := hcL j hj8
        obtain ⟨p, hp⟩ : ∃ p, p = L[j] := ⟨_, rfl⟩
        have hpl : p < 8 * F.length := by rw [hp]; exact HLp.out _ (List.getElem_mem _)
        have hpm : p ∈ L := by rw [hp]; exact List.getElem_mem _
        rw [← hp] at hcl
        have HP := Lib.hid hp
        have HPm := Lib.hid hpm
        have hpF : p / 8 < F.length := by omega
        have hcg := hcF (p / 8) hpF
        obtain ⟨x, hx⟩ : ∃ x, x = F[p / 8] := ⟨_, rfl⟩
        have hxl : x < 256 := by rw [hx]; exact hF _ (List.getElem_mem _)
        have HB := Lib.hid (bitAt_div hpF hx)
        rw [← hx] at hcg
        have HU := Lib.hid (u8_bit_at x (p % 8) hxl)
        unfold iv at hcl
        unfold bv at hcg
        clear hp hx hpm hcL hcF
        by_cases hbit : x / 2 ^ (p % 8) % 2 = 1
        · have hq : (bits .and .u8 ((x : Int) / 2 ^ (p % 8)) 1 == 0) = false := by rw [HU.out, beq_eq_false_iff_ne]; omega
          have HJ2 := Lib.hid (show ∀ k (h : k < L.length), k < j + 1 → bitAt F L[k] = true by
            intro k h hk
            by_cases e : k = j
            · subst e; rw [← HP.out, HB.out]; simpa using hbit
            · exact HJ.out k h (by omega))
          clear hbit
          go_wp2
          go_round
          case rel => exact ⟨j + 1, by omega, by go_num, HJ2⟩
          case measure => simp [intOf]; omega
        · have hq : (bits .and .u8 ((x : Int) / 2 ^ (p % 8)) 1 == 0) = true := by rw [HU.out, beq_iff_eq]; omega
          have HN := Lib.hid (hasN_no H0.out HL.out p HPm.out (by rw [HB.out]; simpa using hbit))
          clear hbit
          go_wp2
          go_ret
          exact ⟨by rw [HN.out]; rfl, hbL⟩
      · have HY := Lib.hid (hasN_yes HL.out (fun k hk => HJ.out k hk (by omega)))
        go_wp2
        go_ret
        exact ⟨by rw [HY.out]; rfl, hbL⟩
end Go.Proofs.YtoigogjmhkpdlaaGreat
