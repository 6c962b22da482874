/- Walks of the filter of keys: the reference's filter. -/
import Derived.Test.YtoigogjmhkpdlabBloomC
namespace Go.Proofs.Ytoigogjmhkpdlab
open Go.RowKit
open Crc Bl

theorem Try.infoZ : (Try.prog.info? 4).map (fun i => (i.zero, i.size, i.bytes)) = some (some (.bool false), 1, 1) := by kernel_rfl
theorem bv_lit (n : Nat) : bv n = .int .u8 (n : Int) := rfl
theorem bitAt_of {F : List Nat} {i k x : Nat} (hi : i < F.length) (hk : k < 8) (hx : x = F[i]) : bitAt F (8 * i + k) = x.testBit k := by
  unfold bitAt
  rw [show (8 * i + k) / 8 = i by omega, show (8 * i + k) % 8 = k by omega]
  have : F.getD i 0 = x := by rw [hx]; simp [hi]
  rw [this]

theorem ownsR_base {α : Type} {mk : α → Value} {e : TypeId} {w : World} {base base' c : Nat} {A : Option Addr} {l : List α} (h : Own mk e w base A c l) (hb : base' ≤ base) : Own mk e w base' A c l :=
  ⟨h.1, h.2.elim Or.inl (fun ⟨g, cap, cur, hv, hg, r⟩ => Or.inr ⟨g, cap, cur, hv, Nat.le_trans hb hg, r⟩)⟩

set_option maxRecDepth 100000 in
set_option maxHeartbeats 3200000 in
theorem refmake_any (A : Option Addr) (l : List ByteArray) (c : Nat) (hm : l.length ≤ 1000) (hR : ∀ s ∈ l, s.size ≤ 5000) (W : World) (hr : RdS W A l) :
    Calls Try.prog 16 #[.slice A l.length c] W fun e W' => NewBytes W (makeF l) W' e := by
  obtain ⟨i0, hi, hz0, hz1, hz2⟩ := info_parts Try.infoB
  obtain ⟨i1, hi1, hy0, hy1, hy2⟩ := info_parts Try.infoZ
  have HR := Lib.hid hr
  clear hr
  have hf1 : 1 ≤ filt l := by unfold filt; omega
  have hf2 : filt l ≤ 1000 := by unfold filt; omega
  have Hf := Lib.hid (show filt l = max 1 l.length from rfl)
  have hbits : ∀ s ∈ l, s.size ≤ 140737488351000 := fun s hs => Nat.le_trans (hR s hs) (by decide)
  have hcases : (1 ≤ l.length ∧ filt l ≤ l.length ∧ l.length ≤ filt l ∧ ((l.length : Int) == 0) = false) ∨ (l.length ≤ 0 ∧ filt l ≤ 1 ∧ 1 ≤ filt l ∧ ((l.length : Int) == 0) = true) := by
    rw [Hf.out]
    by_cases h : l.length = 0
    · right; rw [h]; exact ⟨by omega, by omega, by omega, rfl⟩
    · left; exact ⟨by omega, by omega, by omega, by rw [beq_eq_false_iff_ne]; omega⟩
  rcases hcases with ⟨hl1, hg1, hg2, hz⟩ | ⟨hl1, hg1, hg2, hz⟩
  all_goals
    go_enter Try.func16, Try.ntmps16
    go_wp2_with (at_make; refine wpList_make_list Value.bool _ rfl (.tmp 17) (.tmp 17) _ rfl W.heap.size 4 i1 false Try.underlying48 hi1 hy0 hy1 rfl .i64 .i64 _ _ (8 * filt l) rfl rfl (by omega) (by omega) (by rw [hy2]; omega) (by unfold maxLen; omega) (Nat.le_refl _) ?_; intro M A2 c2 w1 HM ho hB)
    have hM1 : M.length ≤ 8 * filt l ∧ 8 * filt l ≤ M.length := by rw [HM.out]; simp
    obtain ⟨g, rfl, hg⟩ := ho.form (by omega)
    have hglt : g < w1.heap.size := (ho.lt g rfl).2
    go_loopw [5, 6, 7] (fun i _ _ wr => ∃ (k : Nat) (F : List Nat) (S : List Bool), k ≤ l.length ∧ i = .int .i64 k ∧ Hid (F.length = filt l) ∧ Small F ∧ Hid (S = bitList F) ∧ Hid (S.length = M.length) ∧ Own Value.bool 4 wr W.heap.size (some ⟨g, 0, none⟩) c2 S ∧ Hid (F = setKeys (keyBits (filt l)) (List.replicate (filt l) 0) (l.take k)) ∧ Below W.heap.size W wr) (fun i _ _ _ => l.length - (intOf i).toNat)
    case atStart => exact ⟨0, List.replicate (filt l) 0, M, Nat.zero_le _, rfl, Lib.hid (by simp), small_zero _, Lib.hid (by rw [HM.out, bitList_zero]), Lib.hid rfl, ho, Lib.hid rfl, hB⟩
    case round =>
      obtain ⟨k, F, S, hk, rfl, hFl, hFs, hSe, hSl, hSo, hFe, hFB⟩ := hrel
      have hgw : g < wr.heap.size := (hSo.lt g rfl).2
      have hsw := hFB.size
      by_cases hk8 : k < l.length
      · first
        | (exfalso; omega)
        | (obtain ⟨ad, rfl, hcell⟩ := (HR.out.below hFB (Nat.le_refl _)) (by omega)
           have hck := hcell k hk8
           obtain ⟨s, hs⟩ : ∃ s, s = l[k] := ⟨_, rfl⟩
           have hsz : s.size ≤ 140737488351000 := by rw [hs]; exact hbits _ (List.getElem_mem _)
           rw [← hs] at hck
           have HS := Lib.hid hs
           clear hcell hs
           go_wp2_with (go_at_call 18; refine (refbits_i s _ (8 * filt l) (by omega) (by omega) (by omega) hsz _).mono ?_; rintro e w2 ⟨L, A3, c3, HL, rfl, hoL, hbL⟩)
           have hLl : L.length ≤ 3 ∧ 3 ≤ L.length := by rw [HL.out, bitsN_length]; omega
           obtain ⟨gL, rfl, hgL⟩ := hoL.form (by omega)
           have HLp := Lib.hid (show ∀ p ∈ L, p < 8 * filt l by rw [HL.out]; exact bitsN_lt _ _ (by omega))
           obtain ⟨wo, rfl⟩ : ∃ wo : World, wo = wr := ⟨_, rfl⟩
           go_loopw [7] (fun i w3 => ∃ (j : Nat) (G : List Nat) (T : List Bool), j ≤ L.length ∧ i = .int .i64 j ∧ Hid (G.length = filt l) ∧ Small G ∧ Hid (T = bitList G) ∧ Hid (T.length = M.length) ∧ Own Value.bool 4 w3 W.heap.size (some ⟨g, 0, none⟩) c2 T ∧ Own iv 3 w3 wo.heap.size (some ⟨gL, 0, none⟩) c3 L ∧ Hid (G = setAll F (L.take j)) ∧ Below W.heap.size W w3) (fun i _ => L.length - (intOf i).toNat)
           case atStart => exact ⟨0, F, S, Nat.zero_le _, rfl, hFl, hFs, hSe, hSl, hSo.below hbL (Nat.le_refl _), hoL, Lib.hid rfl, hFB.trans (hbL.mono hsw)⟩
           case round =>
             obtain ⟨j, G, T, hj, rfl, hGl, hGs, hTe, hTl, hTo, hLo, hGe, hGB⟩ := hrel
             by_cases hj8 : j < L.length
             · have hcl := hLo.cell j hj8
               obtain ⟨p, hp⟩ : ∃ p, p = L[j] := ⟨_, rfl⟩
               have hpl : p < 8 * filt l := by rw [hp]; exact HLp.out _ (List.getElem_mem _)
               rw [← hp] at hcl
               have HP := Lib.hid hp
               have hpT : p < T.length := by rw [hTl.out]; omega
               have hcg := hTo.cell p hpT
               have hfg := hTo.free p
               have hpM : p < M.length := by omega
               unfold iv at hcl
               clear hp
               go_wp2
               go_roundw
               case rel => exact ⟨j + 1, setB G p, T.set p true, by omega, by go_num, Lib.hid (by rw [length_setB]; exact hGl.out), small_setB hGs p, Lib.hid (by rw [hTe.out, bitList_set _ _ (by rw [hGl.out]; exact hpl)]), Lib.hid (by rw [List.length_set]; exact hTl.out), hTo.set p true, hLo.far (p := ⟨g, p, none⟩) (by exact hgw) _,
                   Lib.hid (by rw [List.take_succ_eq_append_getElem hj8, setAll_snoc, ← hGe.out, ← HP.out]), hGB.setCell hg _⟩
               case measure => simp [intOf]; omega
             · go_wp2
               go_roundw
               case rel => exact ⟨k + 1, G, T, by omega, by go_num, hGl, hGs, hTe, hTl, hTo, Lib.hid (by rw [hGe.out, List.take_of_length_le (by omega), hFe.out, List.take_succ_eq_append_getElem hk8, setKeys_snoc, HL.out, HS.out]; rfl), hGB⟩
               case measure => simp [intOf]; omega)
      · have HF := Lib.hid (show F = makeF l by rw [hFe.out, List.take_of_length_le (by omega)]; rfl)
        go_wp2
        obtain ⟨wo, rfl⟩ : ∃ wo : World, wo = wr := ⟨_, rfl⟩
        go_loopw [8, 9, 10, 11] (fun o i _ _ w3 => ∃ (j : Nat) (X : List Nat) (B : Option Addr) (d : Nat), j ≤ filt l ∧ i = .int .i64 j ∧ o = .slice B X.length d ∧ Hid (X = F.take j) ∧ Own bv 5 w3 wo.heap.size B d X ∧ Below wo.heap.size wo w3) (fun _ i _ _ _ => filt l - (intOf i).toNat)
        case atStart => exact ⟨0, [], none, 0, Nat.zero_le _, rfl, rfl, Lib.hid rfl, Own.nil _ _ _ _, Below.refl _ _⟩
        case round =>
          obtain ⟨j, X, B, d, hj, rfl, rfl, hX, hXo, hXB⟩ := hrel
          have hs3 := hXB.size
          have hXl : X.length ≤ 1000 := by rw [hX.out]; simp; omega
          by_cases hj8 : j < filt l
          · have hjF : j < F.length := by rw [hFl.out]; exact hj8
            obtain ⟨x, hx⟩ : ∃ x, x = F[j] := ⟨_, rfl⟩
            have hxl : x < 256 := by rw [hx]; exact hFs _ (List.getElem_mem _)
            have HXF := Lib.hid hx
            have HBit := Lib.hid (show ∀ k, k < 8 → bitAt F (8 * j + k) = x.testBit k from fun k hk => bitAt_of hjF hk hx)
            clear hx
            go_wp2
            obtain ⟨wi, rfl⟩ : ∃ wi : World, wi = wr := ⟨_, rfl⟩
            go_loop [10, 11] (fun y k => ∃ (m Y : Nat) (κ : Int), m ≤ 8 ∧ κ + 1 ≤ m ∧ (m : Int) ≤ κ + 1 ∧ k = .int .i64 κ ∧ y = .int .i64 Y ∧ Y < 256 ∧ Hid (Y = x / 2 ^ m)) (fun _ k => (intOf k + 1).toNat)
            case atStart => exact ⟨8, 0, 7, by omega, by omega, by omega, rfl, rfl, by omega, Lib.hid (by omega)⟩
            case round =>
              obtain ⟨m, Y, κ, hm8, hk1, hk2, rfl, rfl, hY, HY⟩ := hrel
              by_cases hm0 : m = 0
              · have HYx := Lib.hid (show Y = x by rw [HY.out, hm0, Nat.pow_zero, Nat.div_one])
                have hkn : ¬ (0 : Int) ≤ κ := by omega
                clear hm0
                go_wp2_with (at_builtin; refine wpList_append_one bv _ bv_one rfl (.tmp 64) (.tmp 67) _ rfl wo.heap.size 5 i0 _ 1 Try.underlying31 hi hz0 hz1 hz2 rfl _ _ X rfl (hXo.alloc _) _ _ Y rfl (cell_alloc_one _ _ _ _ rfl) (by unfold maxLen; omega) (by omega) (by simp; omega) ?_; intro X2 B2 d2 w4 hX2 ho4 hb4 _ _; have hB4 := (hXB.alloc hs3 (.cells #[.int .u8 (Y : Int)] 5)).trans hb4)
                go_roundw
                case rel => exact ⟨j + 1, X2, B2, d2, by omega, by go_num, rfl, Lib.hid (by rw [hX2.out, hX.out, HYx.out, List.take_succ_eq_append_getElem hjF, HXF.out]), ho4, hB4⟩
                case measure => simp [intOf]; omega
              · obtain ⟨k, rfl⟩ : ∃ k : Nat, κ = (k : Int) := ⟨κ.toNat, by omega⟩
                have hmk : m = k + 1 := by omega
                have hk8' : k < 8 := by omega
                have hpS : 8 * j + k < S.length := by rw [hSl.out]; omega
                have hcS := hSo.cell (8 * j + k) hpS
                have hbit : S[8 * j + k] = x.testBit k := by simp only [hSe.out, bitList_get]; exact HBit.out k hk8'
                rw [hbit] at hcS
                have hcs : wi.cell? ⟨g, 8 * j + k, none⟩ = some (.bool (x.testBit k)) := (hXB.cell (by exact hgw)).trans hcS
                have hpM : 8 * j + k < M.length := by omega
                have HYk := Lib.hid (byte_step x k)
                have HYm := Lib.hid (show Y = x / 2 ^ (k + 1) by rw [HY.out, hmk])
                have hdl : x / 2 ^ k < 256 := Nat.lt_of_le_of_lt (Nat.div_le_self _ _) hxl
                clear hcS hbit hm0 hmk
                by_cases hb : x.testBit k = true
                · have HE := Lib.hid (show x / 2 ^ k = 2 * Y + 1 by rw [HYk.out, if_pos hb, HYm.out])
                  have hY2 : 2 * Y + 1 < 256 := by rw [← HE.out]; exact hdl
                  go_wp2
                  go_round
                  case rel => exact ⟨k, 2 * Y + 1, (k : Int) - 1, by omega, by omega, by omega, rfl, by go_num, hY2, Lib.hid HE.out.symm⟩
                  case measure => simp [intOf]
                · have hb' : x.testBit k = false := by simpa using hb
                  have HE := Lib.hid (show x / 2 ^ k = 2 * Y by rw [HYk.out, if_neg hb, HYm.out]; omega)
                  have hY2 : 2 * Y < 256 := by rw [← HE.out]; exact hdl
                  clear hb
                  go_wp2
                  go_round
                  case rel => exact ⟨k, 2 * Y, (k : Int) - 1, by omega, by omega, by omega, rfl, by go_num, hY2, Lib.hid HE.out.symm⟩
                  case measure => simp [intOf]
          · have HXe := Lib.hid (show X = makeF l by rw [hX.out, List.take_of_length_le (by rw [hFl.out]; omega), HF.out])
            go_wp2
            go_ret
            exact ⟨X, B, d, HXe, rfl, ownsR_base hXo hsw, hFB.trans (hXB.mono hsw)⟩
end Go.Proofs.Ytoigogjmhkpdlab
