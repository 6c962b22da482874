/- The walk of BloomOrders. -/
import Derived.Test.YtoigogjmhkpdlabBloomE
namespace Go.Proofs.Ytoigogjmhkpdlab
open Go.RowKit
open Crc Bl

theorem Try.infoS : (Try.prog.info? 9).map (fun i => (i.zero, i.size, i.bytes)) = some (some (.string ByteArray.empty), 1, 16) := by kernel_rfl
theorem str_one (s : ByteArray) : (Value.string s).oneCell' = true := rfl
theorem drop_rev {l : List ByteArray} {j : Nat} (h : j < l.length) : (l.drop (j + 1)).reverse ++ [l[j]] = (l.drop j).reverse := by
  rw [List.drop_eq_getElem_cons h, List.reverse_cons]
theorem filt_reverse (l : List ByteArray) : filt l.reverse = filt l := by unfold filt; rw [List.length_reverse]
theorem makeF_reverse (l : List ByteArray) : makeF l.reverse = makeF l := by
  unfold makeF
  rw [filt_reverse]
  exact makeN_reverse _ _ _ (fun k _ p hp => bitsN_lt _ _ (by unfold filt; omega) p hp)
theorem makeF_length (l : List ByteArray) : (makeF l).length = filt l := makeN_length _ _ _
theorem makeF_small (l : List ByteArray) : Small (makeF l) := makeN_small _ _ _

set_option maxHeartbeats 1600000 in
theorem bloomOrders_any (A : Option Addr) (l : List ByteArray) (c : Nat) (W : World) (hm : l.length ≤ maxLen) (hR : Reach l) (hr : RdS W A l) :
    Calls Try.prog 7 #[.slice A l.length c] W fun e W' => e = .returned (.bool true) ∧ Below W.heap.size W W' := by
  obtain ⟨i0, hi, hz0, hz1, hz2⟩ := info_parts Try.infoB
  obtain ⟨i1, hi1, hy0, hy1, hy2⟩ := info_parts Try.infoS
  have HR := Lib.hid hr
  clear hr
  unfold maxLen at hm
  go_enter Try.func7, Try.ntmps7
  go_wp2_with fail
  refine (awake11_any _).mono ?_
  rintro e w1 ⟨rfl, hB1⟩
  have HR1 := Lib.hid (HR.out.below hB1 (Nat.le_refl _))
  go_wp2_with fail
  refine (few_any A l c (by omega) hR _ HR1.out).mono ?_
  rintro e w2 ⟨⟨b, rfl, hb⟩, rfl⟩
  cases b
  · clear hb
    go_wp2_with fail
    refine (awake11_any _).mono ?_
    rintro e w3 ⟨rfl, hB2⟩
    go_wp2
    go_ret
    exact ⟨rfl, below_next hB1 hB2⟩
  · obtain ⟨hl, hs⟩ := hb rfl
    clear hb
    go_wp2
    go_loopw [3, 4] (fun o i wr => ∃ (X : List ByteArray) (B : Option Addr) (d : Nat), o = .slice B X.length d ∧ ((∃ j : Nat, j < l.length ∧ i = .int .i64 j ∧ Hid (X = (l.drop (j + 1)).reverse)) ∨ (i = .int .i64 (-1) ∧ Hid (X = l.reverse))) ∧ Own Value.string 9 wr w1.heap.size B d X ∧ Below w1.heap.size w1 wr) (fun _ i _ => (intOf i + 1).toNat)
    case atStart =>
      refine ⟨[], none, 0, rfl, ?_, Own.nil _ _ _ _, Below.refl _ _⟩
      rcases l.length.eq_zero_or_pos with h | h
      · exact .inr ⟨by rw [h]; rfl, Lib.hid (by rw [List.length_eq_zero_iff.1 h]; rfl)⟩
      · exact .inl ⟨l.length - 1, by omega, by go_num, Lib.hid (by rw [List.drop_of_length_le (by omega)]; rfl)⟩
    case round =>
      obtain ⟨X, B, d, rfl, hcase, ho, hB⟩ := hrel
      have hs3 := hB.size
      rcases hcase with ⟨j, hj, rfl, hX⟩ | ⟨rfl, hX⟩
      · obtain ⟨ad, rfl, hcell⟩ := (HR1.out.below hB (Nat.le_refl _)) (by omega)
        have hck := hcell j hj
        have hXl : X.length ≤ 100 := by rw [hX.out]; simp; omega
        have hd1 : decide ((0 : Int) ≤ (j : Int)) = true := by simp
        go_wp2_with (at_builtin; refine wpList_append_one Value.string _ str_one rfl (.tmp 23) (.tmp 28) _ rfl w1.heap.size 9 i1 _ 16 Try.underlying28 hi1 hy0 hy1 hy2 rfl _ _ X rfl (ho.alloc _) _ _ l[j] rfl (cell_alloc_one _ _ _ _ rfl) (by unfold maxLen; omega) (by omega) (by simp; omega) ?_; intro X2 B2 d2 w4 hX2 ho4 hb4 _ _; have hB4 := (hB.alloc hs3 (.cells #[.string l[j]] 9)).trans hb4)
        go_roundw
        case rel =>
          refine ⟨X2, B2, d2, rfl, ?_, ho4, hB4⟩
          rcases j.eq_zero_or_pos with h | h
          · subst h
            exact .inr ⟨by go_num, Lib.hid (by rw [hX2.out, hX.out, drop_rev hj, List.drop_zero])⟩
          · obtain ⟨k, rfl⟩ : ∃ k, j = k + 1 := ⟨j - 1, by omega⟩
            exact .inl ⟨k, by omega, by go_num, Lib.hid (by rw [hX2.out, hX.out, drop_rev hj])⟩
        case measure => simp [intOf]
      · have HRr := Lib.hid (HR1.out.below hB (Nat.le_refl _))
        have hXl : X.length ≤ 100 := by rw [hX.out]; simp; omega
        have hXs : ∀ s ∈ X, s.size ≤ 5000 := by rw [hX.out]; intro s h; exact hs s (List.mem_reverse.1 h)
        have hXm : makeF X = makeF l := by rw [hX.out]; exact makeF_reverse l
        have HXm := Lib.hid hXm
        clear hXm
        go_wp2_with fail
        refine (make_any A l c (by omega) hs _ HRr.out).mono ?_
        rintro e w5 ⟨F, A5, c5, HF, rfl, ho5, hb5⟩
        have hFl : F.length ≤ 100 := by rw [HF.out, makeF_length]; unfold filt; omega
        go_wp2_with (at_builtin; refine wpList_append_bytes _ rfl (.tmp 32) (.tmp 33) _ rfl w5.heap.size 5 i0 Try.underlying31 hi hz0 hz1 hz2 _ _ [] rfl (OwnB.lit _ _ _ _ [] (Nat.le_refl _) (Nat.zero_le _) rfl) _ _ F rfl (ho5.alloc _).rd (by simp; omega) (by simp) ?_; intro L A6 c6 w6 HL ho6 hb6; have hB6 := ((Below.refl w5.heap.size w5).alloc (Nat.le_refl _) (.cells #[] 5)).trans hb6)
        have ho56 := ho5.below hB6 (Nat.le_refl _)
        obtain ⟨wo, hwo⟩ : ∃ wo : World, wo = wr := ⟨_, rfl⟩
        have hB56 := below_next hb5 hB6
        go_loopw [7] (fun i w7 => ∃ (k : Nat) (G : List Nat), k ≤ F.length ∧ i = .int .i64 k ∧ Hid (G.length = F.length) ∧ Own bv 5 w7 wr.heap.size A5 c5 G ∧ OwnB 5 w7 w5.heap.size A6 c6 L ∧ Below wr.heap.size wr w7) (fun i _ => F.length - (intOf i).toNat)
        case atStart => exact ⟨0, F, Nat.zero_le _, rfl, Lib.hid rfl, ho56, ho6, hB56⟩
        case round =>
          obtain ⟨k, G, hk, rfl, hGl, hGo, hLo, hGB⟩ := hrel
          by_cases hk8 : k < F.length
          · have hkG : k < G.length := by rw [hGl.out]; exact hk8
            obtain ⟨gg, rfl, hg⟩ := hGo.form (by omega)
            have hlt := (ho5.lt gg rfl).2
            have hcell := hGo.cell k hkG
            have hfr := hGo.free k
            go_wp2
            go_roundw
            case rel => exact ⟨k + 1, G.set k 0, by omega, by go_num, Lib.hid (by rw [List.length_set]; exact hGl.out), hGo.set k 0, ownsRow_setCell_below hLo hlt _, hGB.setCell hg _⟩
            case measure => simp [intOf]; omega
          · go_wp2_with fail
            refine (make_any B X d (by omega) hXs _ (ho.rd.below hGB (Nat.le_refl _))).mono ?_
            rintro e w8 ⟨F8, A8, c8, HF8, rfl, ho8, hb8⟩
            have hL8 := hLo.below hb8 (Nat.le_refl _)
            go_wp2_with fail
            refine (same_any A8 A6 F8 L c8 c6 (by rw [HF8.out, HXm.out, HL.out, HF.out]; rfl) _ ho8.rd hL8.rd).mono ?_
            rintro e w9 ⟨rfl, rfl⟩
            go_wp2_with fail
            have hBx := below_next hGB hb8
            refine (make_any A l c (by omega) hs _ (HRr.out.below hBx (Nat.le_refl _))).mono ?_
            rintro e w10 ⟨F10, A10, c10, HF10, rfl, ho10, hb10⟩
            go_wp2_with fail
            refine (same_any A10 A6 F10 L c10 c6 (by rw [HF10.out, HL.out, HF.out]; rfl) _ ho10.rd (hL8.below hb10 (Nat.le_refl _)).rd).mono ?_
            rintro e w11 ⟨rfl, rfl⟩
            go_wp2
            go_ret
            exact ⟨rfl, below_next (below_next (below_next hB1 hB) hBx) hb10⟩
end Go.Proofs.Ytoigogjmhkpdlab
