/- The walk of BloomHolds. -/
import Derived.Test.YtoigogjmhkpdlabBloomOrders
namespace Go.Proofs.Ytoigogjmhkpdlab
open Go.RowKit
open Crc Bl

/-- A filter has its keys; one with more bits set has them too. -/
theorem has_make {l : List ByteArray} {s : ByteArray} {F G : List Nat} (hF : F = makeF l) (hs : s ∈ l) (hl : G.length = F.length) (h : ∀ p, bitAt F p = true → bitAt G p = true) : hasN G s = true := by
  have hGl : G.length = filt l := by rw [hl, hF, makeF_length]
  refine hasN_yes (L := keyBits (filt l) s) (by rw [hGl]; rfl) fun j hj => h _ ?_
  rw [hF]
  exact (makeN_bit _ _ _ _ (fun k _ p hp => bitsN_lt _ _ (by unfold filt; omega) p hp)).2 ⟨s, hs, List.getElem_mem _⟩

theorem has_n (A : Option Addr) (F : List Nat) (n c : Nat) (hn : F.length = n) (s : ByteArray) (hF : Small F) (hm : F.length ≤ 1000) (hs : s.size ≤ 140737488351000) (W : World) (hr : Rd bv W A F) :
    Calls Try.prog 19 #[.slice A n c, .string s] W fun e W' => e = .returned (.bool (hasN F s)) ∧ Below W.heap.size W W' := by
  subst hn; exact has_any A F c s hF hm hs W hr

set_option maxHeartbeats 3200000 in
theorem bloomHolds_any (A : Option Addr) (l : List ByteArray) (c : Nat) (B : Option Addr) (m : List Nat) (d : Nat) (W : World) (hm : l.length ≤ maxLen) (hR : Reach l) (hr : RdS W A l) (hb : Bytes m) (hm1 : m.length ≤ maxLen) (hr1 : RdB W B m) :
    Calls Try.prog 6 #[.slice A l.length c, .slice B m.length d] W fun e W' => e = .returned (.bool true) ∧ Below W.heap.size W W' := by
  obtain ⟨i0, hi, hz0, hz1, hz2⟩ := info_parts Try.infoB
  have HR := Lib.hid hr
  have HM := Lib.hid hr1
  clear hr hr1
  unfold maxLen at hm hm1
  go_enter Try.func6, Try.ntmps6
  go_wp2_with fail
  refine (awake11_any _).mono ?_
  rintro e w1 ⟨rfl, hB1⟩
  have HR1 := Lib.hid (HR.out.below hB1 (Nat.le_refl _))
  have HM1 := Lib.hid (HM.out.below hB1 (Nat.le_refl _))
  go_wp2_with fail
  refine (few_any A l c (by omega) hR _ HR1.out).mono ?_
  rintro e w2 ⟨⟨b, rfl, hfew⟩, rfl⟩
  cases b
  · clear hfew
    go_wp2_with fail
    refine (awake11_any _).mono ?_
    rintro e w3 ⟨rfl, hB2⟩
    go_wp2
    go_ret
    exact ⟨rfl, below_next hB1 hB2⟩
  · obtain ⟨hl, hs⟩ := hfew rfl
    clear hfew
    by_cases hbig : m.length ≤ 1000
    · have hd1 : decide ((1000 : Int) < (m.length : Int)) = false := by simp; omega
      go_wp2_with fail
      refine (make_any A l c (by omega) hs _ HR1.out).mono ?_
      rintro e w5 ⟨F, A5, c5, HF, rfl, ho5, hb5⟩
      have hFl : F.length ≤ 100 := by rw [HF.out, makeF_length]; unfold filt; omega
      have hFs : Small F := by rw [HF.out]; exact makeF_small _
      go_wp2_with (at_builtin; refine wpList_append_bytes _ rfl (.tmp 24) (.tmp 25) _ rfl w5.heap.size 5 i0 Try.underlying31 hi hz0 hz1 hz2 _ _ [] rfl (OwnB.lit _ _ _ _ [] (Nat.le_refl _) (Nat.zero_le _) rfl) _ _ F rfl (ho5.alloc _).rd (by simp; omega) (by simp) ?_; intro L A6 c6 w6 HL ho6 hb6; have hB6 := ((Below.refl w5.heap.size w5).alloc (Nat.le_refl _) (.cells #[] 5)).trans hb6)
      have hLF : L = F := HL.out
      have HLF := Lib.hid hLF
      have hLl : L.length ≤ F.length ∧ F.length ≤ L.length := by rw [hLF]; omega
      clear hLF
      have HR5 := Lib.hid (HR1.out.below hb5 (Nat.le_refl _))
      have HM5 := Lib.hid (HM1.out.below hb5 (Nat.le_refl _))
      have hs5 := hb5.size
      have hs6 := hB6.size
      go_loopw [7] (fun i w7 => ∃ (k : Nat) (G : List Nat), k ≤ L.length ∧ i = .int .i64 k ∧ Hid (G.length = L.length) ∧ Small G ∧ Hid (∀ p, bitAt F p = true → bitAt G p = true) ∧ OwnB 5 w7 w5.heap.size A6 c6 G ∧ Below w5.heap.size w5 w7) (fun i _ => L.length - (intOf i).toNat)
      case atStart => exact ⟨0, L, Nat.zero_le _, rfl, Lib.hid rfl, by rw [HLF.out]; exact hFs, Lib.hid (by rw [HLF.out]; exact fun _ h => h), ho6, hB6⟩
      case round =>
        obtain ⟨k, G, hk, rfl, hGl, hGs, hGb, hGo, hGB⟩ := hrel
        have hgs := hGB.size
        have hcases : (k < L.length ∧ k < m.length) ∨ (¬ k < L.length) ∨ (k < L.length ∧ ¬ k < m.length) := by omega
        rcases hcases with ⟨h1, h2⟩ | h1 | ⟨h1, h2⟩
        · have hkG : k < G.length := by rw [hGl.out]; exact h1
          have hGl2 : G.length = L.length := hGl.out
          obtain ⟨gg, rfl, hg⟩ := hGo.form (by omega)
          obtain ⟨ad, rfl, hcm⟩ := (HM5.out.below hGB (Nat.le_refl _)) (by omega)
          have hc1 := hGo.cell k hkG
          have hc2 := hcm k h2
          have hfr := hGo.free k
          have hx : G[k] < 256 := hGs _ (List.getElem_mem _)
          have hy : m[k] < 256 := hb _ (List.getElem_mem _)
          have HO := Lib.hid (u8_or_nat G[k] m[k] hx hy)
          have HK := Lib.hid (show ∀ p, bitAt F p = true → bitAt (G.set k (G[k] ||| m[k])) p = true by
            intro p hp
            have := or_keeps G k m[k] p hkG (hGb.out p hp)
            rw [show G.getD k 0 = G[k] by simp [hkG]] at this
            exact this)
          clear hcm
          go_wp2
          go_region
          go_wp2
          go_roundw
          case rel =>
            rw [HO.out]
            exact ⟨k + 1, G.set k (G[k] ||| m[k]), by omega, by go_num, Lib.hid (by rw [List.length_set]; exact hGl.out), small_set hGs _ _ (or_lt hx hy), HK, (hGo.set k _).drew, (hGB.setCell hg _).drew⟩
          case measure => simp [intOf]; omega
        all_goals
          have HR7 := Lib.hid (HR5.out.below hGB (Nat.le_refl _))
          have HF7 := Lib.hid (ho5.below hGB (Nat.le_refl _)).rd
          have HG7 : Hid (Rd bv wr A6 G) := Lib.hid (show Rd bv wr A6 G from hGo.rd)
          have HGF := Lib.hid (show G.length = F.length by rw [hGl.out, HLF.out])
          have HGL := Lib.hid (show G.length = L.length from hGl.out)
          have hGl3 : G.length ≤ 1000 := by rw [hGl.out]; omega
          have hBx := below_next hB1 (hb5.trans (hGB.mono hs5))
          clear hGl hGo hGB
          go_wp2
          obtain ⟨wo, hwo⟩ : ∃ wo : World, wo = wr := ⟨_, rfl⟩
          rw [← hwo] at HR7 HF7 HG7 hBx
          go_loopw [8] (fun i w8 => ∃ (q : Nat), q ≤ l.length ∧ i = .int .i64 q ∧ Below wo.heap.size wo w8) (fun i _ => l.length - (intOf i).toNat)
          case atStart => exact ⟨0, Nat.zero_le _, rfl, by rw [hwo]; exact Below.refl _ _⟩
          case round =>
            obtain ⟨q, hq, rfl, hqB⟩ := hrel
            by_cases hq8 : q < l.length
            · obtain ⟨ad, rfl, hcell⟩ := (HR7.out.below hqB (Nat.le_refl _)) (by omega)
              have hck := hcell q hq8
              have hHF := Lib.hid (has_make HF.out (List.getElem_mem hq8) (G := F) rfl (fun _ h => h))
              have hHG := Lib.hid (has_make HF.out (List.getElem_mem hq8) HGF.out hGb.out)
              have hsz : l[q].size ≤ 140737488351000 := Nat.le_trans (hs _ (List.getElem_mem _)) (by decide)
              have hcell2 := Lib.hid hcell
              clear hcell
              go_wp2_with fail
              refine (has_any A5 F c5 l[q] hFs (by omega) hsz _ (HF7.out.below hqB (Nat.le_refl _))).mono ?_
              rintro e w9 ⟨rfl, hb9⟩
              rw [hHF.out]
              have hqB2 := below_next hqB hb9
              have hck2 : w9.cell? (ad.add q) = some (.string l[q]) := (hb9.cell (lt_of_cell hck)).trans hck
              go_wp2_with fail
              refine (has_n A6 G _ c6 HGL.out l[q] hGs hGl3 hsz _ (HG7.out.below hqB2 (Nat.le_refl _))).mono ?_
              rintro e w10 ⟨rfl, hb10⟩
              rw [hHG.out]
              go_wp2
              go_roundw
              case rel => exact ⟨q + 1, by omega, by go_num, below_next hqB2 hb10⟩
              case measure => simp [intOf]; omega
            · go_wp2
              go_ret
              exact ⟨rfl, below_next hBx hqB⟩
    · have hd1 : decide ((1000 : Int) < (m.length : Int)) = true := by simp; omega
      go_wp2_with fail
      refine (awake11_any _).mono ?_
      rintro e w3 ⟨rfl, hB2⟩
      go_wp2
      go_ret
      exact ⟨rfl, below_next hB1 hB2⟩
end Go.Proofs.Ytoigogjmhkpdlab
