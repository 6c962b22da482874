/- Walks of the program's filter of keys: few keys; a filter made; a key asked for. -/
import Derived.Test.YtoigogjmhkpdlabBloomA
import Derived.Test.YtoigogjmhkpdlabBl
namespace Go.Proofs.Ytoigogjmhkpdlab
open Go.RowKit
open Crc Bl

/-- What a slice of strings reads as. -/
abbrev RdS (W : World) (A : Option Addr) (l : List ByteArray) : Prop := Rd Value.string W A l
/-- Keys that may be asked: what the reach of memory says of each. -/
def Reach (l : List ByteArray) : Prop := ∀ s ∈ l, s.size ≤ 140737488351232
def FewPost (l : List ByteArray) (e : Ending) : Prop := ∃ b : Bool, e = .returned (.bool b) ∧ (b = true → l.length ≤ 100 ∧ ∀ s ∈ l, s.size ≤ 5000)

theorem few_any (A : Option Addr) (l : List ByteArray) (c : Nat) (hm : l.length ≤ 9223372036854775807) (hR : Reach l) (W : World) (hr : RdS W A l) :
    Calls Try.prog 13 #[.slice A l.length c] W fun e W' => FewPost l e ∧ W = W' := by
  have HR := Lib.hid hr
  clear hr
  go_enter Try.func13, Try.ntmps13
  go_wp2
  go_loop [3, 4] (fun n i => ∃ k N : Nat, k ≤ l.length ∧ k ≤ 200 ∧ i = .int .i64 k ∧ n = .int .i64 N ∧ N ≤ 5000 ∧ Hid (∀ j (h : j < l.length), j < k → l[j].size ≤ 5000)) (fun _ i => l.length - (intOf i).toNat)
  case atStart => exact ⟨0, 0, by omega, by omega, rfl, rfl, by omega, Lib.hid (fun j h hj => by omega)⟩
  case round =>
    obtain ⟨k, N, hk, hk2, rfl, rfl, hN, HN⟩ := hrel
    by_cases hk8 : k < l.length
    · have hd1 : decide ((k : Int) < (l.length : Int)) = true := by simp; omega
      by_cases hk9 : k < 200
      · have hd2 : decide ((k : Int) < 200) = true := by simp; omega
        obtain ⟨ad, rfl, hc⟩ := HR.out (by omega)
        have hck := hc k hk8
        have hsz := hR l[k] (List.getElem_mem _)
        clear hc
        by_cases hbig : N + l[k].size ≤ 5000
        · have hd3 : decide ((5000 : Int) < (N : Int) + (l[k].size : Int)) = false := by simp; omega
          have HN2 := Lib.hid (show ∀ j (h : j < l.length), j < k + 1 → l[j].size ≤ 5000 by
            intro j h hj
            by_cases e : j = k
            · subst e; omega
            · exact HN.out j h (by omega))
          go_wp2
          go_round
          case rel => exact ⟨k + 1, N + l[k].size, by omega, by omega, by go_num, by go_num, hbig, HN2⟩
          case measure => simp [intOf]; omega
        · have hd3 : decide ((5000 : Int) < (N : Int) + (l[k].size : Int)) = true := by simp; omega
          go_wp2
          go_ret
          exact ⟨⟨false, rfl, fun h => by cases h⟩, rfl⟩
      · have hd2 : decide ((k : Int) < 200) = false := by simp; omega
        have hd4 : decide ((l.length : Int) ≤ 100) = false := by simp; omega
        go_wp2
        go_ret
        exact ⟨⟨false, rfl, fun h => by cases h⟩, rfl⟩
    · have hd1 : decide ((k : Int) < (l.length : Int)) = false := by simp; omega
      have HF := Lib.hid (show ∀ s ∈ l, s.size ≤ 5000 by
        intro s hs
        obtain ⟨j, hj, rfl⟩ := List.getElem_of_mem hs
        exact HN.out j hj (by omega))
      go_wp2
      go_ret
      exact ⟨⟨_, rfl, fun h => ⟨by have := of_decide_eq_true h; omega, HF.out⟩⟩, rfl⟩

/-! Making a filter. -/
def keyBits (n : Nat) (s : ByteArray) : List Nat := bitsN (keyN s) (8 * n)
/-- How many bytes a filter of so many keys has. -/
def filt (l : List ByteArray) : Nat := max 1 l.length
theorem bitsN_lt (k : List Nat) (m : Nat) (hm : 1 ≤ m) : ∀ p ∈ bitsN k m, p < m := by
  intro p hp
  obtain ⟨j, _, rfl⟩ := List.mem_map.1 hp
  exact Nat.mod_lt _ hm
theorem bitsN_length (k : List Nat) (m : Nat) : (bitsN k m).length = 3 := rfl
def makeF (l : List ByteArray) : List Nat := makeN (keyBits (filt l)) (filt l) l
def NewBytes (W : World) (l : List Nat) (W' : World) (e : Ending) : Prop :=
  ∃ (L : List Nat) (A : Option Addr) (c : Nat), Hid (L = l) ∧ e = .returned (.slice A L.length c) ∧ Own bv 5 W' W.heap.size A c L ∧ Below W.heap.size W W'
theorem ret_sl {A : Option Addr} {n m c : Nat} (h : n = m) : Ending.returned (.slice A n c) = .returned (.slice A m c) := by rw [h]
theorem bv_one (n : Nat) : (bv n).oneCell' = true := rfl
theorem u8_or_bit (x r : Nat) (hx : x < 256) (hr : r < 8) : bits .or .u8 (x : Int) ((2 : Int) ^ r % 256) = ((x ||| 2 ^ r : Nat) : Int) := by
  have h2 : 2 ^ r < 256 := Nat.pow_lt_pow_right (m := r) (n := 8) (by decide) hr
  have e : ((2 : Int) ^ r % 256) = ((2 ^ r : Nat) : Int) := by
    have h3 : ((2 ^ r : Nat) : Int) = (2 : Int) ^ r := by rw [Int.natCast_pow]; rfl
    rw [← h3]; have := Int.ofNat_lt.2 h2; exact Int.emod_eq_of_lt (Int.natCast_nonneg _) (by simpa using this)
  rw [e]; exact u8_or_nat x (2 ^ r) hx h2

set_option maxRecDepth 100000 in
set_option maxHeartbeats 1600000 in
theorem make_any (A : Option Addr) (l : List ByteArray) (c : Nat) (hm : l.length ≤ 1000) (hR : ∀ s ∈ l, s.size ≤ 5000) (W : World) (hr : RdS W A l) :
    Calls Try.prog 15 #[.slice A l.length c] W fun e W' => NewBytes W (makeF l) W' e := by
  obtain ⟨i0, hi, hz0, hz1, hz2⟩ := info_parts Try.infoB
  have HR := Lib.hid hr
  clear hr
  have hf1 : 1 ≤ filt l := by unfold filt; omega
  have hf2 : filt l ≤ 1000 := by unfold filt; omega
  have Hf := Lib.hid (show filt l = max 1 l.length from rfl)
  have hbits : ∀ s ∈ l, s.size ≤ 140737488351000 := fun s hs => Nat.le_trans (hR s hs) (by decide)
  have hcases : (1 < l.length ∧ filt l ≤ l.length ∧ l.length ≤ filt l) ∨ (l.length ≤ 1 ∧ filt l ≤ 1) := by rw [Hf.out]; omega
  rcases hcases with ⟨hl1, hg1, hg2⟩ | ⟨hl1, hg1⟩
  all_goals
    go_enter Try.func15, Try.ntmps15
    go_wp2_with (at_make; refine wpList_make_list bv _ rfl (.tmp 12) (.tmp 12) _ rfl W.heap.size 5 i0 0 Try.underlying31 hi hz0 hz1 rfl .i64 .i64 _ _ (filt l) rfl rfl (by omega) (by omega) (by rw [hz2]; omega) (by unfold maxLen; omega) (Nat.le_refl _) ?_; intro M A2 c2 w1 HM ho hB)
    have hM1 : M.length ≤ filt l ∧ filt l ≤ M.length := by rw [HM.out]; simp
    obtain ⟨g, rfl, hg⟩ := ho.form (by omega)
    have hglt : g < w1.heap.size := (ho.lt g rfl).2
    have Hn := Lib.hid (show M.length = filt l by omega)
    go_loopw [16] (fun i wr => ∃ (k : Nat) (F : List Nat), k ≤ l.length ∧ i = .int .i64 k ∧ Hid (F.length = M.length) ∧ Small F ∧ Own bv 5 wr W.heap.size (some ⟨g, 0, none⟩) c2 F ∧ Hid (F = setKeys (keyBits (filt l)) (List.replicate (filt l) 0) (l.take k)) ∧ Below W.heap.size W wr) (fun i _ => l.length - (intOf i).toNat)
    case atStart => exact ⟨0, M, Nat.zero_le _, rfl, Lib.hid rfl, by rw [HM.out]; exact small_zero _, ho, Lib.hid (by rw [HM.out]; rfl), hB⟩
    case round =>
      obtain ⟨k, F, hk, rfl, hFl, hFs, hFo, hFe, hFB⟩ := hrel
      have hgw : g < wr.heap.size := (hFo.lt g rfl).2
      have hsw := hFB.size
      by_cases hk8 : k < l.length
      · obtain ⟨ad, rfl, hcell⟩ := (HR.out.below hFB (Nat.le_refl _)) (by omega)
        have hck := hcell k hk8
        obtain ⟨s, hs⟩ : ∃ s, s = l[k] := ⟨_, rfl⟩
        have hsz : s.size ≤ 140737488351000 := by rw [hs]; exact hbits _ (List.getElem_mem _)
        rw [← hs] at hck
        have HS := Lib.hid hs
        clear hcell hs
        go_wp2_with (go_at_call 17; refine (bits_i s _ (8 * filt l) (by omega) (by omega) (by omega) hsz _).mono ?_; rintro e w2 ⟨L, A3, c3, HL, rfl, hoL, hbL⟩)
        have hLl : L.length ≤ 3 ∧ 3 ≤ L.length := by rw [HL.out, bitsN_length]; omega
        obtain ⟨gL, rfl, hgL⟩ := hoL.form (by omega)
        have HLp := Lib.hid (show ∀ p ∈ L, p < 8 * filt l by rw [HL.out]; exact bitsN_lt _ _ (by omega))
        obtain ⟨wo, hwo⟩ : ∃ wo : World, wo = wr := ⟨_, rfl⟩
        go_loopw [26] (fun i w3 => ∃ (j : Nat) (G : List Nat), j ≤ L.length ∧ i = .int .i64 j ∧ Hid (G.length = M.length) ∧ Small G ∧ Own bv 5 w3 W.heap.size (some ⟨g, 0, none⟩) c2 G ∧ Own iv 3 w3 wr.heap.size (some ⟨gL, 0, none⟩) c3 L ∧ Hid (G = setAll F (L.take j)) ∧ Below W.heap.size W w3) (fun i _ => L.length - (intOf i).toNat)
        case atStart => exact ⟨0, F, Nat.zero_le _, rfl, hFl, hFs, hFo.below hbL (Nat.le_refl _), hoL, Lib.hid rfl, hFB.trans (hbL.mono hsw)⟩
        case round =>
          obtain ⟨j, G, hj, rfl, hGl, hGs, hGo, hLo, hGe, hGB⟩ := hrel
          by_cases hj8 : j < L.length
          · have hcl := hLo.cell j hj8
            obtain ⟨p, hp⟩ : ∃ p, p = L[j] := ⟨_, rfl⟩
            have hpl : p < 8 * filt l := by rw [hp]; exact HLp.out _ (List.getElem_mem _)
            rw [← hp] at hcl
            have HP := Lib.hid hp
            have hpG : p / 8 < G.length := by rw [hGl.out]; omega
            have hcg := hGo.cell (p / 8) hpG
            have hfg := hGo.free (p / 8)
            obtain ⟨x, hx⟩ : ∃ x, x = G[p / 8] := ⟨_, rfl⟩
            have hxl : x < 256 := by rw [hx]; exact hGs _ (List.getElem_mem _)
            have HX := Lib.hid (show G.getD (p / 8) 0 = x by rw [hx]; simp [hpG])
            rw [← hx] at hcg
            have hpM : p / 8 < M.length := by omega
            have HO := Lib.hid (u8_or_bit x (p % 8) hxl (by omega))
            unfold iv at hcl
            unfold bv at hcg
            clear hp hx
            go_wp2
            go_region
            go_wp2
            go_roundw
            case rel =>
              rw [HO.out]
              exact ⟨j + 1, G.set (p / 8) (x ||| 2 ^ (p % 8)), by omega, by go_num, Lib.hid (by rw [List.length_set]; exact hGl.out), small_set hGs _ _ (or_lt hxl (pow_lt p)), (hGo.set (p / 8) (x ||| 2 ^ (p % 8))).drew, (hLo.far (p := ⟨g, p / 8, none⟩) (by rw [← hwo]; rw [← hwo] at hgw; exact hgw) _).drew,
                Lib.hid (by rw [List.take_succ_eq_append_getElem hj8, setAll_snoc, ← hGe.out, ← HP.out, ← HX.out]; rfl), (hGB.setCell hg _).drew⟩
            case measure => simp [intOf]; omega
          · go_wp2
            go_roundw
            case rel => exact ⟨k + 1, G, by omega, by go_num, hGl, hGs, hGo, Lib.hid (by rw [hGe.out, List.take_of_length_le (by omega), hFe.out, List.take_succ_eq_append_getElem hk8, setKeys_snoc, HL.out, HS.out]; rfl), hGB⟩
            case measure => simp [intOf]; omega
      · go_wp2
        go_ret
        exact ⟨F, _, c2, Lib.hid (by rw [hFe.out, List.take_of_length_le (by omega)]; rfl), ret_sl hFl.out.symm, hFo, hFB⟩
end Go.Proofs.Ytoigogjmhkpdlab
