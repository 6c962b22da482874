/- A part of the proof of WholeFew: the texts TableD. -/
import Derived.Test.YtoigogjmhkpdlaaGreatJ26
import Derived.BigRegion
import Derived.Deep.CutBlock
import Derived.Deep.DeepCutAuto
import Derived.Deep.RegionLaw
set_option maxHeartbeats 6400000
set_option maxRecDepth 100000
namespace Go.Proofs.YtoigogjmhkpdlaaGreat
open Go.RowKit
theorem step_append_stl {P : Program} {α : Type} (mk : α → List Value) (w : World) (h1 : ∀ x, ∀ u ∈ mk x, u.oneCell' = true) {ops : Array Oper} {o : Oper} {a : Act} {K : Act → World → Prop} {Q : Exit → Act → World → Prop} {E : Prop} (hgd : o.guard = none) (s x : Operand) (t : TypeId)
    (ho : o.op = .call { callee := .builtin .append, args := #[s, x], argTypes := #[t, t] })
    (base : Nat) (e : TypeId) (i : TypeInfo) (z : Value) (sz bsz : Nat) (hmk : ∀ x, (mk x).length = sz) (hs0 : 0 < sz) (ht : P.underlying t = some (.slice e)) (hi : P.info? e = some i) (hz : i.zero = some z)
    (hsize : i.size = sz) (hby : i.bytes = bsz) (hzs : z.cells.size = sz) (S : Option Addr) (d : Nat) (l : List α) (hs : a.eval s = .slice S l.length d) (hown : OwnT mk e sz w base S d l)
    (base2 : Nat) (A2 : Option Addr) (c2 : Nat) (l2 : List α) (hx : a.eval x = .slice A2 l2.length c2) (hown2 : OwnT mk e sz w base2 A2 c2 l2) (h63 : l.length + l2.length ≤ maxLen) (hb : (l.length + l2.length) * bsz ≤ 140737488355328) (hbase : base ≤ w.heap.size)
    (h : ∀ L A' c' w', Hid (L = l ++ l2) → OwnT mk e sz w' base A' c' L → Below base w w' → w.grownBy w' (blk S) → (blk A' = blk S ∨ blk A' = some w.heap.size) → K (a.put o.dst (.slice A' L.length c')) w') :
    if Region.wanted o (yielded ops a.tmps) = true then Oper.wp P o a w K Q else E := by
  have hw : Region.wanted o (yielded ops a.tmps) = true := by simp [Region.wanted, hgd]
  rw [if_pos hw]
  obtain ⟨A', c', w', hrun, h2, h3, h4, h5⟩ := run_append_stl (P := P) mk w h1 base t o.type e i z sz bsz hmk hs0 ht hi hz hsize hby hzs S d l hown base2 A2 c2 l2 hown2 h63 hb hbase
  unfold Oper.wp execOp
  simp only [ho, resolve, invoke, builtin, Sem.run_bind, Sem.run_pure, Result.andThen_ok, List.map_toArray, List.map_cons, List.map_nil, hs, hx, hrun]
  exact h _ A' c' w' (Lib.hid rfl) h2 h3 h4 h5
theorem bget_n (c : Cl) (hok : ClOk c) (A : Option Addr) (l : List Nat) (n cc : Nat) (hn : l.length = n) (hl : Hid (l = blkN c)) (hc : n ≤ cc) (hcm : cc ≤ 9223372036854775807) (W : World) (hr : RdB W A l) :
    Calls Tryz.prog 322 #[.slice A n cc] W fun e W' => ∃ (g cap : Nat) (A' : Option Addr) (c' : Nat), e = .returned (.tuple #[.slice (some ⟨g, 0, none⟩) 1 cap, .slice A' 0 c', .int .i64 0]) ∧ One W' W.heap.size g cap c ∧ Below W.heap.size W W' := by
  subst hn
  refine (bget_one c hok [] (fun x hx => by cases hx) (by simp) A l cc (Lib.hid (by rw [hl.out, List.append_nil])) hc hcm W hr).mono ?_
  rintro e w ⟨g, cap, L, A', c', HL, rfl, hO, _, _, _, hb⟩
  have hL : L = [] := HL.out
  subst hL
  exact ⟨g, cap, A', c', rfl, hO, hb⟩
def Tab1 (W : World) (base X : Nat) (c : Cl) : Prop :=
  ∃ (gl capl G Cap g cap : Nat) (AF : Option Addr) (F : List Nat) (cF : Nat), W.heap[X]? = some (.cells #[.slice (some ⟨gl, 0, none⟩) 1 capl, .slice (some ⟨G, 0, none⟩) 1 Cap, .slice AF F.length cF] 404) ∧ One W base gl capl c ∧ Bl1 W base G Cap (g, cap) ∧ One W base g cap c ∧ Hid (F = makeF [keyS c.row c.col]) ∧ Own bv 5 W base AF cF F ∧ base ≤ X
theorem open_fin {W w5 w6 : World} {X z3 b g cap G c5 gl c6 : Nat} {c : Cl} (hX5 : w5.heap[X]? = some (.cells #[.slice none 0 0, .slice none 0 0, .slice none 0 0] 404)) (hX3 : X < z3) (h35 : z3 ≤ w5.heap.size) (hWX : W.heap.size ≤ X) (hXb : X < b) (hO5 : One w5 b g cap c)
    (ho5 : OwnT bcells 41 1 w5 z3 (some ⟨G, 0, none⟩) c5 [(g, cap)]) (hb6 : Below w5.heap.size w5 w6) (ho6 : OwnT clcells 93 5 w6 w5.heap.size (some ⟨gl, 0, none⟩) c6 [c]) (hB5 : Below W.heap.size W w5) {wf : World} (hwf : wf = (w6.setCell ⟨X, 1, none⟩ (.slice (some ⟨G, 0, none⟩) 1 c5)).setCell ⟨X, 0, none⟩ (.slice (some ⟨gl, 0, none⟩) 1 c6)) :
    wf.heap[X]? = some (.cells #[.slice (some ⟨gl, 0, none⟩) 1 c6, .slice (some ⟨G, 0, none⟩) 1 c5, .slice none 0 0] 404) ∧ One wf W.heap.size gl c6 c ∧ Bl1 wf W.heap.size G c5 (g, cap) ∧ One wf W.heap.size g cap c ∧ Below W.heap.size W wf ∧ gl ≠ X ∧ G ≠ X ∧ g ≠ X := by
  subst hwf
  have hX6 := (hb6.block X (by omega)).trans hX5
  have hX7 := heap_setCell_same w6 X 1 _ _ (.slice (some ⟨G, 0, none⟩) 1 c5) hX6
  have hX8 := heap_setCell_same _ X 0 _ _ (.slice (some ⟨gl, 0, none⟩) 1 c6) hX7
  have hk : ∀ k, k ≠ X → ((w6.setCell ⟨X, 1, none⟩ (.slice (some ⟨G, 0, none⟩) 1 c5)).setCell ⟨X, 0, none⟩ (.slice (some ⟨gl, 0, none⟩) 1 c6)).heap[k]? = w6.heap[k]? := fun k hk => (heap_setCell_other _ _ _ _ hk).trans (heap_setCell_other _ _ _ _ hk)
  have hgl := OwnT.lt ho6 gl rfl
  have hG := OwnT.lt ho5 G rfl
  have hg := hO5.lt
  have hz := hB5.size
  refine ⟨hX8, ?_, ?_, ?_, ?_, by omega, by omega, by omega⟩
  · exact OwnT.low (b' := W.heap.size) (One.of_block ho6 (hk gl (by omega))) (by omega)
  · exact OwnT.low (b' := W.heap.size) (Bl1.of_block ho5 ((hk G (by omega)).trans (hb6.block G hG.2))) (by omega)
  · exact OwnT.low (b' := W.heap.size) (One.of_block hO5 ((hk g (by omega)).trans (hb6.block g hg.2))) (by omega)
  · exact ((hB5.trans (hb6.mono hz)).setCell (p := ⟨X, 1, none⟩) hWX _).setCell (p := ⟨X, 0, none⟩) hWX _
theorem topen_one (c : Cl) (hok : ClOk c) (F : List Nat) (hF : Hid (F = makeF [keyS c.row c.col])) (A : Option Addr) (l : List Nat) (bl fl cc : Nat) (hl : Hid (l = tabN c F)) (hbl : Hid ((blkN c).length = bl)) (hfl : Hid ((footN c F).length = fl)) (h16 : 16 ≤ bl) (hb1 : bl ≤ 417) (hf1 : fl ≤ 1425) (hc : bl + fl + 4 ≤ cc) (hcm : cc ≤ 9223372036854775807) (W : World) (hr : RdB W A l) :
    Calls Tryz.prog 301 #[.slice A (bl + fl + 4) cc] W fun e W' => ∃ X, e = .returned (.tuple #[.pointer (some ⟨X, 0, none⟩), .int .i64 0]) ∧ Tab1 W' W.heap.size X c ∧ Below W.heap.size W W' := by
  obtain ⟨i1, hi1, hy0, hy1, hy2⟩ := info_parts Tryz.infoCl
  obtain ⟨i2, hi2, hu0, hu1, hu2⟩ := info_parts Tryz.infoBs
  have hll : l.length = bl + fl + 4 := by
    rw [hl.out]; unfold tabN; rw [List.length_append, List.length_append, numN_length, hbl.out, hfl.out]
  obtain ⟨ad, rfl, _⟩ := hr (by omega)
  have hrT : RdB W (some (ad.add (bl + fl))) (l.drop (bl + fl)) := RdB.drop hr _
  have hdT : l.drop (bl + fl) = numN fl ++ [] := by
    rw [hl.out]; unfold tabN
    rw [List.append_nil, hfl.out, List.drop_left' (by rw [List.length_append, hbl.out, hfl.out])]
  have HNum := Lib.hid (fun (n : Nat) (hn : n = 4) => (by
    subst hn
    have h4 : (l.drop (bl + fl)).length = 4 := by rw [hdT]; rfl
    have := cnum_at fl (by omega) [] (some (ad.add (bl + fl))) (l.drop (bl + fl)) (cc - (bl + fl)) (Lib.hid hdT) (by rw [hdT]; intro x hx; rw [List.append_nil] at hx; exact numN_bytes _ x hx) (by omega) (by omega) (by omega) W hrT
    rw [h4] at this
    exact this : Calls Tryz.prog 160 #[.slice (some (ad.add (bl + fl))) n (cc - (bl + fl))] W fun e W' => LeftAt W W' [] (.int .i64 (fl : Int)) e))
  clear hrT hdT
  have hne : ¬ cc = bl + fl := by omega
  go_enter Tryz.func301, Tryz.ntmps301
  go_wp2_with fail
  refine (HNum.out 4 rfl).mono ?_
  rintro e w1 ⟨L1, A1, c1, H1, rfl, _, _, _, hv1⟩
  have hL1 : L1 = [] := H1.out
  subst hL1
  have hcb : ¬ cc = 0 := by omega
  have HFil := Lib.hid (fun g cap w h => tfilter_one g cap c hok w h)
  have HSo := Lib.hid (fun g cap w h => sorted_one g cap c hok w h)
  have HCut := Lib.hid (fun G Cap g cap w hG h => tcutable_one G Cap g cap c hok w hG h)
  have HBy := Lib.hid (fun G Cap g cap Af (F' : List Nat) (hF' : Hid (F' = F)) cf w hG h hf => tbytes_one G Cap g cap c hok Af F' cf (by rw [hF'.out, hF.out]; unfold makeF; rw [Bl.makeN_length]; unfold filt; simp) w hG h hf)
  have HEq := Lib.hid (fun (w : World) (hb : Below W.heap.size W w) (A2 : Option Addr) (L2 : List Nat) (c2 : Nat) (hl2 : L2.length ≤ 140737488355328) (hr2 : RdB w A2 L2) => equal_n A2 (some ad) L2 l L2.length (bl + fl + 4) c2 cc rfl hll hl2 (by omega) w hr2 (hr.below hb (Nat.le_refl _)))
  have HGet := Lib.hid (fun w (hb : Below W.heap.size W w) => bget_n c hok (some ad) (l.take bl) bl cc (by rw [List.length_take, hll]; omega) (Lib.hid (by rw [hl.out]; unfold tabN; rw [List.append_assoc, List.take_left' hbl.out])) (by omega) (by omega) w ((hr.take bl).below hb (Nat.le_refl _)))
  clear HNum hll
  go_wp2
  generalize hw2 : World.alloc w1 _ = w2
  have hX2 := named_new hw2.symm
  have hv2 := named_below hw2.symm
  have hz2 : w1.heap.size < w2.heap.size := by rw [named_size hw2.symm]; omega
  clear hw2
  have hB2 := below_next hv1 hv2
  refine wp_loop_rounds 2 ?_
  rw [rounds_succ]
  go_wp2_with fail
  refine (HGet.out w2 hB2).mono ?_
  rintro e w3 ⟨g, cap, A', c', rfl, hO3, hv3⟩
  have hB3 := below_next hB2 hv3
  have hX3 := (hv3.block w1.heap.size hz2).trans hX2
  have hz3 : w1.heap.size < w3.heap.size := Nat.lt_of_lt_of_le hz2 hv3.size
  have hzW := hv1.size
  go_upto_region 13 with (fail)
  have x0 : w3.cell? ⟨w1.heap.size, 0, none⟩ = some (.slice none 0 0) := cob hX3 0 rfl
  have x1 : w3.cell? ⟨w1.heap.size, 1, none⟩ = some (.slice none 0 0) := cob hX3 1 rfl
  have HX3 := Lib.hid hX3
  clear hX2 hX3 hv3
  go_region_law (first
    | (have _ := M5; go_must (refine step_append_stl clcells _ clcells_one (by rfl) _ _ _ (by rfl) w5.heap.size 93 i1 _ 5 64 clcells_len (by decide) Tryz.underlying41 hi1 hy0 hy1 hy2 (by rfl) _ _ [] (by rfl) (OwnT.nil _ _ _ _ _) w2.heap.size _ _ [c] (by rfl) HO5.out (by simp [maxLen]) (by simp) (Nat.le_refl _) ?_; intro L6 A6 c6 w6 H6 ho6 hb6 hg6 ha6; have hX6 := (hb6.block w1.heap.size hzX5).trans HX5.out; have y0 := cob hX6 0 (v := .slice none 0 0) rfl; have y1 := cob hX6 1 (v := .slice none 0 0) rfl; have hfr : ∀ j, w6.frozen? ⟨w1.heap.size, j, none⟩ = false := (fun j => by simp [World.frozen?, hX6]); clear hX6))
    | (go_must (refine step_append_st bcells _ bcells_one (by rfl) _ _ _ (by rfl) w3.heap.size 41 i2 _ 1 24 bcells_len (by decide) Tryz.underlying364 hi2 hu0 hu1 hu2 (by rfl) _ _ [] (by rfl) (OwnT.nil _ _ _ _ _) w3.heap.size _ (g, cap) (0, 0) _ (by rfl) (heap_alloc_new _ _) (by simp [maxLen]) (by simp) (by simp) ?_; intro L5 A5 c5 w5 H5 ho5 hb5' hg5 ha5; have M5 : True := trivial; have hb5 := ((Below.refl w3.heap.size w3).drew.alloc (Nat.le_refl _) (.cells #[.slice (some ⟨g, 0, none⟩) 1 cap] 41)).trans hb5'; have HX5 := Lib.hid ((hb5.block w1.heap.size hz3).trans HX3.out); have z0 := cob HX5.out 0 (v := .slice none 0 0) rfl; have hzX5 : w1.heap.size < w5.heap.size := (Nat.lt_of_lt_of_le hz3 hb5.size); have HO5 := Lib.hid (One.of_block hO3 (hb5.block g hO3.lt.2)))))
  all_goals
    have hL5 : L5 = [(g, cap)] := H5.out
    subst hL5
    have hL6 : L6 = [c] := H6.out
    subst hL6
    obtain ⟨G, rfl, hG⟩ := ho5.form (by simp)
    obtain ⟨gl, rfl, hgl⟩ := ho6.form (by simp)
    obtain ⟨wf, hwf⟩ : ∃ wf, wf = (w6.setCell ⟨w1.heap.size, 1, none⟩ (.slice (some ⟨G, 0, none⟩) [(g, cap)].length c5)).setCell ⟨w1.heap.size, 0, none⟩ (.slice (some ⟨gl, 0, none⟩) [c].length c6) := ⟨_, rfl⟩
    obtain ⟨hXf, hOl, hBf, hOg, hBw, nl, nG, ng⟩ := open_fin HX5.out hz3 hb5.size hzW hz2 HO5.out ho5 hb6 ho6 (below_next hB3 hb5) hwf
    rw [← hwf]
    clear hwf y0 y1 hfr ha6 hg6 hb6 ho6 ho5 hg5 hb5' hb5 ha5 x0 x1 z0 HX5 HX3 HO5 M5 hO3 hgl hG H5 H6
    go_wp2
    rw [rounds_succ]
    have f0 : wf.cell? ⟨w1.heap.size, 0, none⟩ = some (.slice (some ⟨gl, 0, none⟩) 1 c6) := cob hXf 0 rfl
    go_wp2_with fail
    refine (HFil.out gl c6 wf hOl.c5).mono ?_
    rintro e w9 ⟨LF, AF, cF, HLF, rfl, hoF, hbF⟩
    have hB9 := below_next hBw hbF
    have hX9 := (hbF.block w1.heap.size (lt_of_cell f0)).trans hXf
    have hOl9 := hOl.of_block (hbF.block gl hOl.lt.2)
    have hBf9 := hBf.of_block (hbF.block G hBf.lt.2)
    have hOg9 := hOg.of_block (hbF.block g hOg.lt.2)
    have t2 : w9.cell? ⟨w1.heap.size, 2, none⟩ = some (.slice none 0 0) := cob hX9 2 rfl
    have hfr : ∀ j, w9.frozen? ⟨w1.heap.size, j, none⟩ = false := fun j => by simp [World.frozen?, hX9]
    have HX9 := Lib.hid hX9
    have hFW : wf.heap.size ≤ w9.heap.size := hbF.size
    have hoF' : Own bv 5 w9 wf.heap.size AF cF LF := hoF
    have hXwf : w1.heap.size < wf.heap.size := lt_of_cell f0
    clear hX9 f0 hoF hXf hOl hBf hOg hbF
    go_upto_region 15 with (fail)
    have gx := heap_setCell_same w9 w1.heap.size 2 _ _ (.slice AF LF.length cF) HX9.out
    have hk : ∀ k, k ≠ w1.heap.size → (w9.setCell ⟨w1.heap.size, 2, none⟩ (.slice AF LF.length cF)).heap[k]? = w9.heap[k]? := fun k hk => heap_setCell_other _ _ _ _ hk
    have hBx := hB9.setCell (p := ⟨w1.heap.size, 2, none⟩) hzW (.slice AF LF.length cF)
    have hgl := hOl9.lt
    have hG9 := hBf9.lt
    have hg9 := hOg9.lt
    have hOlx := hOl9.of_block (hk gl nl)
    have hBfx := hBf9.of_block (hk G nG)
    have hOgx := hOg9.of_block (hk g ng)
    have hoFx : Own bv 5 (w9.setCell ⟨w1.heap.size, 2, none⟩ (.slice AF LF.length cF)) wf.heap.size AF cF LF := hoF'.far (p := ⟨w1.heap.size, 2, none⟩) hXwf _
    have hXz : w1.heap.size < (w9.setCell ⟨w1.heap.size, 2, none⟩ (.slice AF LF.length cF)).heap.size := by simp; omega
    obtain ⟨wx, hwx⟩ : ∃ wx, wx = w9.setCell ⟨w1.heap.size, 2, none⟩ (.slice AF LF.length cF) := ⟨_, rfl⟩
    rw [← hwx] at gx hBx hOlx hBfx hOgx hoFx hXz ⊢
    clear hwx hk t2 hfr hoF' hOl9 hBf9 hOg9 HX9 hB9
    have gx' : wx.heap[w1.heap.size]? = some (.cells #[.slice (some ⟨gl, 0, none⟩) 1 c6, .slice (some ⟨G, 0, none⟩) 1 c5, .slice AF LF.length cF] 404) := gx
    have f0 : wx.cell? ⟨w1.heap.size, 0, none⟩ = some (.slice (some ⟨gl, 0, none⟩) 1 c6) := cob gx' 0 rfl
    go_wp2_with fail
    refine (HSo.out gl c6 wx hOlx.c5).mono ?_
    rintro e w11 ⟨rfl, hb11⟩
    have hX11 := (hb11.block w1.heap.size hXz).trans gx'
    have hBf11 := hBfx.of_block (hb11.block G hBfx.lt.2)
    have hOg11 := hOgx.of_block (hb11.block g hOgx.lt.2)
    have hOl11 := hOlx.of_block (hb11.block gl hOlx.lt.2)
    have hoF11 := hoFx.below hb11 (Nat.le_refl _)
    have hB11 := below_next hBx hb11
    have hX11z : w1.heap.size < w11.heap.size := Nat.lt_of_lt_of_le hXz hb11.size
    have f1 : w11.cell? ⟨w1.heap.size, 1, none⟩ = some (.slice (some ⟨G, 0, none⟩) 1 c5) := cob hX11 1 rfl
    clear f0 gx gx' hOlx hBfx hOgx hoFx hb11 hBx
    go_wp2_with fail
    refine (HCut.out G c5 g cap w11 hBf11.cell hOg11.c5).mono ?_
    rintro e w12 ⟨rfl, hb12⟩
    have hX12 := (hb12.block w1.heap.size hX11z).trans hX11
    have hBf12 := hBf11.of_block (hb12.block G hBf11.lt.2)
    have hOg12 := hOg11.of_block (hb12.block g hOg11.lt.2)
    have hOl12 := hOl11.of_block (hb12.block gl hOl11.lt.2)
    have hoF12 := hoF11.below hb12 (Nat.le_refl _)
    have hB12 := below_next hB11 hb12
    have hX12z : w1.heap.size < w12.heap.size := Nat.lt_of_lt_of_le hX11z hb12.size
    have HFe := Lib.hid (show LF = F by rw [HLF.out, hF.out])
    have HS12 : w12.cell? ⟨w1.heap.size, 1, none⟩ = some (.slice (some ⟨G, 0, none⟩) 1 c5) ∧ w12.cell? ⟨w1.heap.size, 2, none⟩ = some (.slice AF LF.length cF) := ⟨cob hX12 1 rfl, cob hX12 2 rfl⟩
    have HS12d : w12.drew.cell? ⟨w1.heap.size, 1, none⟩ = some (.slice (some ⟨G, 0, none⟩) 1 c5) ∧ w12.drew.cell? ⟨w1.heap.size, 2, none⟩ = some (.slice AF LF.length cF) := HS12
    have HByx := Lib.hid (HBy.out G c5 g cap AF LF HFe cF w12.drew hBf12.cell hOg12.c5 (show RdB w12.drew AF LF from Own.rd hoF12.drew))
    clear f1 hX11 hBf11 hOg11 hOl11 hoF11 hb12 hB11
    go_wp2
    go_region_held3 (fun w' => w'.cell? ⟨w1.heap.size, 1, none⟩ = some (.slice (some ⟨G, 0, none⟩) 1 c5) ∧ w'.cell? ⟨w1.heap.size, 2, none⟩ = some (.slice AF LF.length cF))
      (first | with_reducible exact HS13 | with_reducible exact HS12 | with_reducible exact HS12d)
      (first | (go_at_call 320; (with_reducible refine HByx.out.mono ?_); rintro e w13 ⟨L13, A13, c13, H13, rfl, ho13, hc13, hb13'⟩; have hb13 := below_undrew hb13'; have HS13 : _ ∧ _ := ⟨(hb13.cell (p := ⟨w1.heap.size, 1, none⟩) hX12z).trans HS12.1, (hb13.cell (p := ⟨w1.heap.size, 2, none⟩) hX12z).trans HS12.2⟩))
    have hB13 := below_next hB12 hb13
    have hX13 := (hb13.block w1.heap.size hX12z).trans hX12
    have hBf13 := hBf12.of_block (hb13.block G hBf12.lt.2)
    have hOg13 := hOg12.of_block (hb13.block g hOg12.lt.2)
    have hOl13 := hOl12.of_block (hb13.block gl hOl12.lt.2)
    have hoF13 := hoF12.below hb13 (Nat.le_refl _)
    have hl13 : L13.length ≤ 140737488355328 := by have := ho13.cap; have := ho13.capmax; unfold maxLen at this; rw [H13.out]; have := tabN_len hok (F := LF) (by rw [HFe.out, hF.out]; unfold makeF; rw [Bl.makeN_length]; unfold filt; simp); omega
    have Hdec := Lib.hid (show decide (L13 = l) = true by rw [H13.out, HFe.out, hl.out]; simp)
    have HEqx := Lib.hid (HEq.out w13 hB13 A13 L13 c13 hl13 ho13.rd)
    clear HS12 HS12d HS13 hX12 hBf12 hOg12 hOl12 hoF12 hb13 hb13' ho13 hB12
    go_wp2_with fail
    refine HEqx.out.mono ?_
    rintro e w14 ⟨rfl, hb14⟩
    rw [Hdec.out]
    have hB14 := Lib.hid (below_next hB13 hb14)
    have hX13z : w1.heap.size < w13.heap.size := (Array.getElem?_eq_some_iff.1 hX13).1
    have HT := Lib.hid (show Tab1 w14 W.heap.size w1.heap.size c from ⟨gl, c6, G, c5, g, cap, AF, LF, cF, (hb14.block w1.heap.size hX13z).trans hX13, hOl13.of_block (hb14.block gl hOl13.lt.2), hBf13.of_block (hb14.block G hBf13.lt.2), hOg13.of_block (hb14.block g hOg13.lt.2), Lib.hid (by rw [HLF.out]), World.ownsRow_base (hoF13.below hb14 (Nat.le_refl _)) hBw.size, hzW⟩)
    clear hX13 hBf13 hOg13 hOl13 hoF13 hb14 hB13
    go_wp2
    go_ret2
    exact ⟨w1.heap.size, rfl, HT.out, hB14.out⟩
end Go.Proofs.YtoigogjmhkpdlaaGreat
