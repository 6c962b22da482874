/- A part of the proof of WholeFew: the texts Matrix, Mul. -/
import Derived.Test.YtoigogjmhkpdlaaGreatJ03
import Derived.Test.YtoigogjmhkpdlaaGreatJ11
set_option maxHeartbeats 6400000
set_option maxRecDepth 100000
namespace Go.Proofs.YtoigogjmhkpdlaaGreat
open Go.RowKit
open Gf
theorem grown_setCell {W w : World} {g : Nat} (h : W.grownBy w (some g)) (j : Nat) (v : Value) : W.grownBy (w.setCell ⟨g, j, none⟩ v) (some g) :=
  ⟨h.os, h.tape, h.output, by rw [World.size_setCell]; exact h.size, fun k hk hne => (heap_setCell_other _ _ _ _ (by simpa using fun e => hne (by rw [e]))).trans (h.block k hk hne)⟩
theorem u8_xor_nat2 (a b : Nat) (ha : a < 256) (hb : b < 256) : bits .xor .u8 (a : Int) (b : Int) = ((a ^^^ b : Nat) : Int) ∧ a ^^^ b < 256 := by
  have hx : a ^^^ b < 2 ^ 8 := Nat.xor_lt_two_pow (by omega) (by omega)
  refine ⟨?_, hx⟩
  exact u8_xor_nat a b ha hb
theorem plus_any (g c : Nat) (l : List Nat) (B : Option Addr) (m : List Nat) (d base : Nat) (hl : Bytes l) (hm : Bytes m) (hlm : m.length ≤ l.length) (hlen : l.length ≤ 140737488351232) (W : World) (hO : OwnB 5 W base (some ⟨g, 0, none⟩) c l) (hr : RdB W B m) (hd : Dist B (some ⟨g, 0, none⟩)) :
    Calls Tryz.prog 244 #[.slice (some ⟨g, 0, none⟩) l.length c, .slice B m.length d] W fun e W' => ∃ l', l'.length = l.length ∧ Bytes l' ∧ e = .returned (.tuple #[]) ∧ OwnB 5 W' base (some ⟨g, 0, none⟩) c l' ∧ W.grownBy W' (some g) := by
  have HR := Lib.hid hr
  have Hm := Lib.hid hm
  clear hr hm
  go_enter Tryz.func244, Tryz.ntmps244
  go_wp2
  go_loopw [8] (fun i wr => ∃ (k : Nat) (l' : List Nat), k ≤ m.length ∧ i = .int .i64 k ∧ l.length ≤ l'.length ∧ l'.length ≤ l.length ∧ Bytes l' ∧ OwnB 5 wr base (some ⟨g, 0, none⟩) c l' ∧ W.grownBy wr (some g)) (fun i _ => m.length - (intOf i).toNat)
  case atStart => exact ⟨0, l, Nat.zero_le _, rfl, Nat.le_refl _, Nat.le_refl _, hl, hO, World.grownBy.refl _ _⟩
  case round =>
    obtain ⟨k, l', hk, rfl, hl1, hl2, hlb, hO2, hG⟩ := hrel
    by_cases hkm : k < m.length
    · have hkl : k < l'.length := by omega
      obtain ⟨ad, rfl, hcb⟩ := (HR.out.kept hG hd) (by omega)
      have hc1 := hcb k hkm
      clear hcb
      have hc2 := hO2.cell k hkl
      have hf2 := hO2.free k
      have hx := hlb l'[k] (List.getElem_mem _)
      have hy := Hm.out m[k] (List.getElem_mem _)
      obtain ⟨x, hxe⟩ : ∃ x, x = l'[k] := ⟨_, rfl⟩
      obtain ⟨y, hye⟩ : ∃ y, y = m[k] := ⟨_, rfl⟩
      rw [← hxe] at hc2 hx
      rw [← hye] at hc1 hy
      have hxor := u8_xor_nat2 x y hx hy
      have HO := Lib.hid (hO2.set k (x ^^^ y))
      have Hbx := Lib.hid (bytes_set hlb k (x ^^^ y) hxor.2)
      have HX := Lib.hid hxor.1
      have HG := Lib.hid hG
      clear hxor hxe hye hO2 hG
      go_wp2
      go_roundw
      case rel =>
        refine ⟨k + 1, l'.set k (x ^^^ y), by omega, by go_num, by rw [List.length_set]; exact hl1, by rw [List.length_set]; exact hl2, Hbx.out, ?_, ?_⟩
        · rw [HX.out]; exact HO.out
        · exact grown_setCell HG.out k _
      case measure => simp [intOf]; omega
    · go_wp2
      go_end0
      exact ⟨l', by omega, hlb, rfl, hO2, hG⟩
theorem field_below {w w' : World} {g B : Nat} (h : FieldAt w g) (hb : Below B w w') (hB : g < B) : FieldAt w' g :=
  ⟨Nat.lt_of_lt_of_le h.1 hb.size, fun i hi => (hb.cell hB).trans (h.2.1 i hi), fun a h1 h2 => (hb.cell hB).trans (h.2.2 a h1 h2)⟩
def RowsOk (w : World) (n : Nat) (xs : List Sl) : Prop := ∀ x ∈ xs, x.2.2.length = n ∧ SlOk w x
theorem coding_any (k n : Nat) (hk1 : 1 ≤ k) (hkn : k ≤ n) (hn7 : n ≤ 7) (W : World) :
    Calls Tryz.prog 213 #[.int .i64 (k : Int), .int .i64 (n : Int)] W fun e W' => ∃ (xs : List Sl) (B : Option Addr) (d : Nat), Hid (xs.length = n) ∧ e = .returned (.slice B xs.length d) ∧ Rd slv W' B xs ∧ RowsOk W' k xs ∧ Below W.heap.size W W' := by
  obtain ⟨i0, hi, hz0, hz1, hz2⟩ := info_parts Tryz.infoB
  obtain ⟨i1, hi1, hy0, hy1, hy2⟩ := info_parts Tryz.infoSl
  go_enter Tryz.func213, Tryz.ntmps213
  go_wp2_with fail
  refine (field_new _).mono ?_
  rintro e w1 ⟨gf, rfl, hF, hb1⟩
  have hs1 := hb1.size
  go_wp2
  go_loopw [6, 12] (fun o i wr => ∃ (p : Nat) (xs : List Sl) (B : Option Addr) (d : Nat), p ≤ n ∧ i = .int .i64 p ∧ o = .slice B xs.length d ∧ Hid (xs.length = p) ∧ xs.length ≤ p ∧ Own slv 67 wr w1.heap.size B d xs ∧ (∀ x ∈ xs, x.2.2.length = k ∧ SlOk wr x ∧ Apart wr B x.1) ∧ Below w1.heap.size w1 wr) (fun _ i _ => n - (intOf i).toNat)
  case atStart => exact ⟨0, [], none, 0, Nat.zero_le _, rfl, rfl, Lib.hid rfl, Nat.le_refl _, Own.nil _ _ _ _, fun x hx => (by cases hx), Below.refl _ _⟩
  case round =>
    obtain ⟨p, xs, B, d, hp, rfl, rfl, hxl, hxp, hO, hX, hB⟩ := hrel
    obtain ⟨wo, rfl⟩ : ∃ wo, wo = wr := ⟨_, rfl⟩
    have hsw := hB.size
    have hgf := hF.1
    by_cases hpn : p < n
    · go_wp2_with (at_make; refine wpList_make_list bv _ rfl _ _ _ rfl wo.heap.size 5 i0 0 Tryz.underlying67 hi hz0 hz1 rfl _ _ _ _ k rfl rfl rfl rfl (by rw [hz2]; omega) (by unfold maxLen; omega) (Nat.le_refl _) ?_; intro R AR cr w2 hR hOR hb2)
      have hRl : R.length = k := by rw [hR.out, List.length_replicate]
      have hRl2 : R.length ≤ k ∧ k ≤ R.length := by omega
      obtain ⟨g, rfl, hgb⟩ := hOR.form (by omega)
      have hRb : Bytes R := by rw [hR.out]; intro b hb; rw [(List.mem_replicate.1 hb).2]; decide
      have HOR : OwnB 5 w2 wo.heap.size (some ⟨g, 0, none⟩) cr R := hOR
      have hs2 := hb2.size
      have HXs := Lib.hid hX
      have HB := Lib.hid (below_next hB hb2)
      have HO0 := Lib.hid hO
      have Hb2 := Lib.hid hb2
      have HF := Lib.hid (field_below (field_below hF hB hgf) hb2 (by omega))
      clear hX hR hRl hOR hO hB
      go_wp2
      go_loopw [19] (fun j wq => ∃ (q : Nat) (l : List Nat), q ≤ k ∧ j = .int .i64 q ∧ l.length ≤ k ∧ k ≤ l.length ∧ Bytes l ∧ OwnB 5 wq wo.heap.size (some ⟨g, 0, none⟩) cr l ∧ Below wo.heap.size w2 wq) (fun j _ => k - (intOf j).toNat)
      case atStart => exact ⟨0, R, Nat.zero_le _, rfl, hRl2.1, hRl2.2, hRb, HOR, Below.refl _ _⟩
      case round =>
        obtain ⟨q, l, hq, rfl, hl1, hl2, hlb, hOl, hBq⟩ := hrel
        have hsq := hBq.size
        by_cases hqk : q < k
        · have hql : q < l.length := by omega
          have hcl := hOl.cell q hql
          have hfl := hOl.free q
          by_cases hpk : k ≤ p
          · have hd : decide ((k : Int) ≤ (p : Int)) = true := by simp; omega
            have HX := Lib.hid (i64_xor_nat p q (by omega) (by omega))
            have hx8 : p ^^^ q < 8 := Nat.xor_lt_two_pow (n := 3) (by omega) (by omega)
            have HF2 := Lib.hid (field_below HF.out hBq (by omega))
            have hconv : ((p ^^^ q : Nat) : Int) % 256 = ((p ^^^ q : Nat) : Int) := by omega
            have HI := Lib.hid (fun w h => inv_any gf (p ^^^ q) (by omega) w h)
            have hxx := HX.out
            go_wp2_with fail
            refine (HI.out wr HF2.out).mono ?_
            rintro e w4 ⟨rfl, nd, rfl⟩
            have HO4 := Lib.hid ((hOl.drewN nd).set q (invN (p ^^^ q)))
            have Hb4 := Lib.hid (bytes_set hlb q (invN (p ^^^ q)) (invN_lt _))
            clear hxx
            go_wp2
            go_roundw
            case rel => exact ⟨q + 1, l.set q (invN (p ^^^ q)), by omega, by go_num, by rw [List.length_set]; exact hl1, by rw [List.length_set]; exact hl2, Hb4.out, HO4.out, (below_drewN hBq).setCell (by simpa using hgb) _⟩
            case measure => simp [intOf]; omega
          · have hd : decide ((k : Int) ≤ (p : Int)) = false := by simp; omega
            by_cases hpq : p = q
            · have hd2 : ((p : Int) == (q : Int)) = true := by rw [beq_iff_eq]; omega
              have HO4 := Lib.hid (hOl.set q 1)
              have Hb4 := Lib.hid (bytes_set hlb q 1 (by decide))
              clear hpq
              go_wp2
              go_roundw
              case rel => exact ⟨q + 1, l.set q 1, by omega, by go_num, by rw [List.length_set]; exact hl1, by rw [List.length_set]; exact hl2, Hb4.out, HO4.out, hBq.setCell (by simpa using hgb) _⟩
              case measure => simp [intOf]; omega
            · have hd2 : ((p : Int) == (q : Int)) = false := by rw [beq_eq_false_iff_ne]; omega
              go_wp2
              go_roundw
              case rel => exact ⟨q + 1, l, by omega, by go_num, hl1, hl2, hlb, hOl, hBq⟩
              case measure => simp [intOf]; omega
        · have hRk : R.length ≤ q := by omega
          have hBo : Below w1.heap.size w1 wr := HB.out.trans (hBq.mono hsw)
          have hWR : Below wo.heap.size wo wr := Hb2.out.trans hBq
          have hO3 := HO0.out.below hWR (Nat.le_refl _)
          have hsq := hBq.size
          have hlR : l.length = R.length := by omega
          have hsl : slv (some ⟨g, 0, none⟩, cr, l) = .slice (some ⟨g, 0, none⟩) R.length cr := by unfold slv; rw [hlR]
          have Hsl := Lib.hid hsl
          clear hlR hsl
          go_wp2_with (at_builtin; refine wpList_append_one slv _ slv_one rfl (.tmp 43) (.tmp 45) _ rfl w1.heap.size 67 i1 _ 24 Tryz.underlying111 hi1 hy0 hy1 hy2 rfl _ _ xs rfl (hO3.alloc _) _ _ (some ⟨g, 0, none⟩, cr, l) rfl (by rw [Hsl.out]; exact cell_alloc_one _ _ _ _ rfl) (by unfold maxLen; omega) (by omega) (by simp; omega) ?_; intro X2 B4 d4 w4 hX2 ho4 hb4 hg4 ha4)
          have hal := (Below.refl wr.heap.size wr).alloc (Nat.le_refl _) (.cells #[.slice (some ⟨g, 0, none⟩) R.length cr] 67)
          have hsz : wr.heap.size ≤ (wr.alloc (.cells #[.slice (some ⟨g, 0, none⟩) R.length cr] 67)).heap.size := by simp
          have hgl := (hOl.lt g rfl)
          have hApg : Apart (wr.alloc (.cells #[.slice (some ⟨g, 0, none⟩) R.length cr] 67)) B (some ⟨g, 0, none⟩) := by
            refine ⟨.inr ?_, fun k hk => by cases hk; simp; omega⟩
            intro e
            have := (HO0.out.lt g e.symm).2
            omega
          have F1 := hApg.step hg4.size ha4
          have hok : SlOk w4 (some ⟨g, 0, none⟩, cr, l) := ⟨(hOl.rd.below hal (Nat.le_refl _)).kept hg4 hApg.1, hlb, hOl.cap, by have := hOl.capmax; unfold maxLen at this; exact this⟩
          have hxx2 := HXs.out
          have hl4 : X2.length ≤ p + 1 := by rw [hX2.out, List.length_append]; simp; omega
          have hl5 : X2.length = p + 1 := by rw [hX2.out, List.length_append, hxl.out]; rfl
          have HR2 := Lib.hid (show ∀ x ∈ X2, x.2.2.length = k ∧ SlOk w4 x ∧ Apart w4 B4 x.1 by
            intro x hx
            rw [hX2.out] at hx
            rcases List.mem_append.1 hx with hx | hx
            · have h := hxx2 x hx
              exact ⟨h.1, ⟨((h.2.1.1.below hWR (Nat.le_refl _)).below hal (Nat.le_refl _)).kept hg4 h.2.2.1, h.2.1.2⟩, ((h.2.2.wide hWR.size).wide hsz).step hg4.size ha4⟩
            · obtain rfl := List.mem_singleton.1 hx
              exact ⟨by show l.length = k; omega, hok, F1⟩)
          have HB4 := Lib.hid ((hBo.alloc (by omega) (.cells #[.slice (some ⟨g, 0, none⟩) R.length cr] 67)).trans hb4)
          have Hl5 := Lib.hid hl5
          clear hl5 hxx2 hok F1 hApg hgl
          go_roundw
          case rel => exact ⟨p + 1, X2, B4, d4, by omega, by go_num, rfl, Hl5, hl4, ho4, HR2.out, HB4.out⟩
          case measure => simp [intOf]; omega
    · obtain rfl : p = n := by omega
      go_wp2
      go_ret
      exact ⟨xs, B, d, hxl, rfl, hO.rd, fun x hx => ⟨(hX x hx).1, (hX x hx).2.1⟩, hb1.trans (hB.mono hs1)⟩
open Gf
theorem RowsOk.below {w w' : World} {n B : Nat} {xs : List Sl} (h : RowsOk w n xs) (hb : Below B w w') (hB : w.heap.size ≤ B) : RowsOk w' n xs := fun x hx => ⟨(h x hx).1, (h x hx).2.below hb hB⟩
theorem mmul_any (n k len : Nat) (hn1 : 1 ≤ n) (hn7 : n ≤ 7) (hk1 : 1 ≤ k) (hk7 : k ≤ 7) (hlen1 : 1 ≤ len) (hlen : len ≤ 100000) (us vs : List Sl) (ha : us.length = n) (hb : vs.length = k) (A0 B0 : Option Addr) (ca cb : Nat) (W : World) (hA : Rd slv W A0 us) (hAr : RowsOk W k us) (hB0 : Rd slv W B0 vs) (hBr : RowsOk W len vs) :
    Calls Tryz.prog 212 #[.slice A0 us.length ca, .slice B0 vs.length cb] W fun e W' => ∃ (xs : List Sl) (B : Option Addr) (d : Nat), Hid (xs.length = n) ∧ e = .returned (.slice B xs.length d) ∧ Own slv 67 W' W.heap.size B d xs ∧ RowsOk W' len xs ∧ Below W.heap.size W W' := by
  obtain ⟨i0, hi, hz0, hz1, hz2⟩ := info_parts Tryz.infoB
  obtain ⟨i1, hi1, hy0, hy1, hy2⟩ := info_parts Tryz.infoSl
  obtain ⟨aa, rfl, hca⟩ := hA (by omega)
  obtain ⟨ab, rfl, hcb⟩ := hB0 (by omega)
  have h00 := hca 0 (by omega)
  have h01 := hcb 0 (by omega)
  rw [show aa.add 0 = aa by simp [Addr.add]] at h00
  rw [show ab.add 0 = ab by simp [Addr.add]] at h01
  rcases has : us[0] with ⟨x1, x2, x3⟩
  have hx3 : x3.length = k := by have := (hAr _ (List.getElem_mem (show 0 < us.length by omega))).1; rw [has] at this; exact this
  rcases hbs : vs[0] with ⟨y1, y2, y3⟩
  have hy3 : y3.length = len := by have := (hBr _ (List.getElem_mem (show 0 < vs.length by omega))).1; rw [hbs] at this; exact this
  rw [has] at h00
  rw [hbs] at h01
  unfold slv at h00 h01
  simp only [hx3, hy3] at h00 h01
  have hlta := lt_of_cell h00
  have hltb := lt_of_cell h01
  have hab := add_block aa
  have hbb := add_block ab
  have Hca := Lib.hid (show ∀ j (h : j < us.length), W.cell? (aa.add j) = some (slv us[j]) from hca)
  have Hcb := Lib.hid (show ∀ j (h : j < vs.length), W.cell? (ab.add j) = some (slv vs[j]) from hcb)
  have HAr := Lib.hid hAr
  have HBr := Lib.hid hBr
  have ha2 : us.length ≤ n ∧ n ≤ us.length := by omega
  have hb2 : vs.length ≤ k ∧ k ≤ vs.length := by omega
  have Hab := Lib.hid hab
  have Hbb := Lib.hid hbb
  have hne : ((k : Int) != (vs.length : Int)) = false := by rw [bne_eq_false_iff_eq]; omega
  clear hca hcb hA hB0 hAr hBr ha hb hab hbb has hbs hx3 hy3
  go_enter Tryz.func212, Tryz.ntmps212
  go_wp2_with fail
  refine (field_new _).mono ?_
  rintro e w1 ⟨gf, rfl, hF, hb1⟩
  have hs1 := hb1.size
  go_wp2
  go_loopw [6, 22] (fun o i wr => ∃ (p : Nat) (xs : List Sl) (B : Option Addr) (d : Nat), p ≤ n ∧ i = .int .i64 p ∧ o = .slice B xs.length d ∧ Hid (xs.length = p) ∧ xs.length ≤ p ∧ Own slv 67 wr w1.heap.size B d xs ∧ (∀ x ∈ xs, x.2.2.length = len ∧ SlOk wr x ∧ Apart wr B x.1) ∧ Below w1.heap.size w1 wr) (fun _ i _ => n - (intOf i).toNat)
  case atStart => exact ⟨0, [], none, 0, Nat.zero_le _, rfl, rfl, Lib.hid rfl, Nat.le_refl _, Own.nil _ _ _ _, fun x hx => (by cases hx), Below.refl _ _⟩
  case round =>
    obtain ⟨p, xs, B, d, hp, rfl, rfl, hxl, hxp, hO, hX, hB⟩ := hrel
    obtain ⟨wo, rfl⟩ : ∃ wo, wo = wr := ⟨_, rfl⟩
    have hsw := hB.size
    have hgf := hF.1
    have HWo := Lib.hid (below_next hb1 hB)
    by_cases hpn : p < n
    · have hpa : p < us.length := by omega
      have hcp := (HWo.out.cell (p := aa.add p) (by rw [Hab.out]; exact hlta)).trans (Hca.out p hpa)
      rcases hae : us[p] with ⟨r1, r2, r3⟩
      have hrk := HAr.out _ (List.getElem_mem hpa)
      rw [hae] at hcp hrk
      unfold slv at hcp
      simp only at hcp hrk
      obtain ⟨hr3, hrd, hrb, _, _⟩ := hrk
      have hcb0 := (HWo.out.cell (p := ab) hltb).trans h01
      rw [hr3] at hcp
      go_wp2_with (at_make; refine wpList_make_list bv _ rfl _ _ _ rfl wo.heap.size 5 i0 0 Tryz.underlying67 hi hz0 hz1 rfl _ _ _ _ len rfl rfl rfl rfl (by rw [hz2]; omega) (by unfold maxLen; omega) (Nat.le_refl _) ?_; intro R AR cr w2 hR hOR hb2)
      have hRl2 : R.length ≤ len ∧ len ≤ R.length := by rw [hR.out, List.length_replicate]; exact ⟨Nat.le_refl _, Nat.le_refl _⟩
      obtain ⟨g, rfl, hgb⟩ := hOR.form (by omega)
      have hRb : Bytes R := by rw [hR.out]; intro b hb; rw [(List.mem_replicate.1 hb).2]; decide
      have HOR : OwnB 5 w2 wo.heap.size (some ⟨g, 0, none⟩) cr R := hOR
      have hs2 := hb2.size
      have HXs := Lib.hid hX
      have HB := Lib.hid (below_next hB hb2)
      have HO0 := Lib.hid hO
      have Hb2 := Lib.hid hb2
      have HF := Lib.hid (field_below (field_below hF hB hgf) hb2 (by omega))
      have hr3l : r3.length ≤ k ∧ k ≤ r3.length := by omega
      have hgl := (hOR.lt g rfl).2
      have Hrd := Lib.hid hrd
      have Hrb := Lib.hid hrb
      clear hX hR hOR hO hB hr3 hrd hrb
      go_loopw [33] (fun j wq => ∃ (q : Nat) (l : List Nat), q ≤ k ∧ j = .int .i64 q ∧ l.length ≤ len ∧ len ≤ l.length ∧ Bytes l ∧ OwnB 5 wq wo.heap.size (some ⟨g, 0, none⟩) cr l ∧ Below wo.heap.size w2 wq) (fun j _ => k - (intOf j).toNat)
      case atStart => exact ⟨0, R, Nat.zero_le _, rfl, hRl2.1, hRl2.2, hRb, HOR, Below.refl _ _⟩
      case round =>
        obtain ⟨q, l, hq, rfl, hl1, hl2, hlb, hOl, hBq⟩ := hrel
        have hsq := hBq.size
        have hWR := Lib.hid (show Below W.heap.size W wr from (HWo.out.trans ((Hb2.out.mono HWo.out.size))).trans (hBq.mono HWo.out.size))
        by_cases hqk : q < k
        · have hqr : q < r3.length := by omega
          have hqv : q < vs.length := by omega
          obtain ⟨ar, rfl, hcr⟩ := (Hrd.out.below hWR.out (Nat.le_refl _)) (by omega)
          have hcq := hcr q hqr
          obtain ⟨cq, hcqe⟩ : ∃ cq, cq = r3[q] := ⟨_, rfl⟩
          have hc256 : cq < 256 := by rw [hcqe]; exact Hrb.out _ (List.getElem_mem _)
          rw [← hcqe] at hcq
          have hvq := (hWR.out.cell (p := ab.add q) (by rw [Hbb.out]; exact hltb)).trans (Hcb.out q hqv)
          rcases hve : vs[q] with ⟨z1, z2, z3⟩
          have hvk := HBr.out _ (List.getElem_mem hqv)
          rw [hve] at hvq hvk
          unfold slv at hvq
          simp only at hvq hvk
          obtain ⟨hz3, hzd, hzb, hzc, hzm⟩ := hvk
          have hz3l : z3.length ≤ len ∧ len ≤ z3.length := by omega
          have HFr := Lib.hid (field_below HF.out hBq (by omega))
          have Hrow := Lib.hid (row_any gf cq hc256 z1 z3 z2 hzb (by omega) wr HFr.out (hzd.below hWR.out (Nat.le_refl _)))
          clear hcr hcqe hzd hzb hz3 hve
          go_wp2_with fail
          refine (Hrow.out).mono ?_
          rintro e w5 ⟨L5, A5, c5, hL5, rfl, hO5, hb5⟩
          have hl5 : L5.length = z3.length := by rw [hL5.out, List.length_map]
          have hl5' : L5.length ≤ len ∧ len ≤ L5.length := by omega
          have hL5b : Bytes L5 := by
            rw [hL5.out]; intro x hx
            obtain ⟨y, _, rfl⟩ := List.mem_map.1 hx
            exact mulN_lt _ _
          have hlR : l.length = R.length := by omega
          have hdist : Dist A5 (some ⟨g, 0, none⟩) := by
            rcases hbk : blk A5 with _ | j
            · exact .inl hbk
            · refine .inr ?_
              rw [hbk]
              intro e
              have h5 := (hO5.lt j hbk).1
              injection e with e
              have : j = g := e
              omega
          have hOl5 := hOl.below hb5 (Nat.le_refl _)
          have Hpl := Lib.hid (plus_any g cr l A5 L5 c5 wo.heap.size hlb hL5b (by omega) (by omega) w5 hOl5 hO5.rd hdist)
          rw [hlR] at Hpl
          have HBq := Lib.hid (hBq.trans (hb5.mono (by omega)))
          have hs5 := hb5.size
          clear hl5 hL5b hdist hOl5 hO5 hb5 hlR hOl
          go_wp2_with fail
          refine (Hpl.out).mono ?_
          rintro e w6 ⟨l6, hl6, hl6b, rfl, hO6, hg6⟩
          have hl6' : l6.length ≤ len ∧ len ≤ l6.length := by omega
          have HO6 := Lib.hid hO6
          have HB6 := Lib.hid (HBq.out.grown hg6 (by omega) (fun k hk => by cases hk; exact hgb))
          clear hl6 hO6 hg6
          go_wp2
          go_roundw
          case rel => exact ⟨q + 1, l6, by omega, by go_num, hl6'.1, hl6'.2, hl6b, HO6.out, HB6.out⟩
          case measure => simp [intOf]; omega
        · have hRk : R.length ≤ R.length := Nat.le_refl _
          have hBo : Below w1.heap.size w1 wr := HB.out.trans (hBq.mono hsw)
          have hWR : Below wo.heap.size wo wr := Hb2.out.trans hBq
          have hO3 := HO0.out.below hWR (Nat.le_refl _)
          have hlR : l.length = R.length := by omega
          have hsl : slv (some ⟨g, 0, none⟩, cr, l) = .slice (some ⟨g, 0, none⟩) R.length cr := by unfold slv; rw [hlR]
          have Hsl := Lib.hid hsl
          clear hlR hsl
          go_wp2_with (at_builtin; refine wpList_append_one slv _ slv_one rfl (.tmp 48) (.tmp 50) _ rfl w1.heap.size 67 i1 _ 24 Tryz.underlying111 hi1 hy0 hy1 hy2 rfl _ _ xs rfl (hO3.alloc _) _ _ (some ⟨g, 0, none⟩, cr, l) rfl (by rw [Hsl.out]; exact cell_alloc_one _ _ _ _ rfl) (by unfold maxLen; omega) (by omega) (by simp; omega) ?_; intro X2 B4 d4 w4 hX2 ho4 hb4 hg4 ha4)
          have hal := (Below.refl wr.heap.size wr).alloc (Nat.le_refl _) (.cells #[.slice (some ⟨g, 0, none⟩) R.length cr] 67)
          have hsz : wr.heap.size ≤ (wr.alloc (.cells #[.slice (some ⟨g, 0, none⟩) R.length cr] 67)).heap.size := by simp
          have hgl := (hOl.lt g rfl)
          have hApg : Apart (wr.alloc (.cells #[.slice (some ⟨g, 0, none⟩) R.length cr] 67)) B (some ⟨g, 0, none⟩) := by
            refine ⟨.inr ?_, fun k hk => by cases hk; simp; omega⟩
            intro e
            have := (HO0.out.lt g e.symm).2
            omega
          have F1 := hApg.step hg4.size ha4
          have hok : SlOk w4 (some ⟨g, 0, none⟩, cr, l) := ⟨(hOl.rd.below hal (Nat.le_refl _)).kept hg4 hApg.1, hlb, hOl.cap, by have := hOl.capmax; unfold maxLen at this; exact this⟩
          have hxx2 := HXs.out
          have hl4 : X2.length ≤ p + 1 := by rw [hX2.out, List.length_append]; simp; omega
          have hl5 : X2.length = p + 1 := by rw [hX2.out, List.length_append, hxl.out]; rfl
          have HR2 := Lib.hid (show ∀ x ∈ X2, x.2.2.length = len ∧ SlOk w4 x ∧ Apart w4 B4 x.1 by
            intro x hx
            rw [hX2.out] at hx
            rcases List.mem_append.1 hx with hx | hx
            · have h := hxx2 x hx
              exact ⟨h.1, ⟨((h.2.1.1.below hWR (Nat.le_refl _)).below hal (Nat.le_refl _)).kept hg4 h.2.2.1, h.2.1.2⟩, ((h.2.2.wide hWR.size).wide hsz).step hg4.size ha4⟩
            · obtain rfl := List.mem_singleton.1 hx
              exact ⟨by show l.length = len; omega, hok, F1⟩)
          have HB4 := Lib.hid ((hBo.alloc (by omega) (.cells #[.slice (some ⟨g, 0, none⟩) R.length cr] 67)).trans hb4)
          have Hl5 := Lib.hid hl5
          clear hl5 hxx2 hok F1 hApg hgl
          go_roundw
          case rel => exact ⟨p + 1, X2, B4, d4, by omega, by go_num, rfl, Hl5, hl4, ho4, HR2.out, HB4.out⟩
          case measure => simp [intOf]; omega
    · obtain rfl : p = n := by omega
      go_wp2
      go_ret
      exact ⟨xs, B, d, hxl, rfl, World.ownsRow_base hO hs1, fun x hx => ⟨(hX x hx).1, (hX x hx).2.1⟩, HWo.out⟩
end Go.Proofs.YtoigogjmhkpdlaaGreat
