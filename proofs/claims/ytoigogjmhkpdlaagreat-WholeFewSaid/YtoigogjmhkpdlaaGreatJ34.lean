/- A part of the proof of WholeFew: the texts FlushB. -/
import Derived.Test.YtoigogjmhkpdlaaGreatJ27
import Derived.Test.YtoigogjmhkpdlaaGreatJ33
import Derived.BigQuiet
import Derived.Deep.DeepCutAuto
set_option maxHeartbeats 12800000
set_option maxRecDepth 100000
namespace Go.Proofs.YtoigogjmhkpdlaaGreat
open Go.RowKit
theorem tflush_t (T M g cap Lv lc Lt tc0 X0 : Nat) (c : Cl) (hok : ClOk c) (hlen : 200 ≤ (cellN c).length) (n : Int) (W : World) (hT : W.heap[T]? = some (.cells #[.int .i64 200, .int .i64 100, .int .i64 3, .pointer (some ⟨M, 0, none⟩), .slice (some ⟨Lv, 0, none⟩) 1 lc] 318)) (hM : W.heap[M]? = some (.cells #[.slice (some ⟨g, 0, none⟩) 1 cap, .int .i64 n] 355)) (h : One W 0 g cap c) (hv : Lv1 W Lv lc (Lt, tc0)) (ht : Tb1 W Lt tc0 X0) (hLT : Lv ≠ T) (_hLL : Lv ≠ Lt) :
    Calls Tryz.prog 239 #[.pointer (some ⟨T, 0, none⟩)] W fun e W' => e = .returned (.tuple #[]) ∧ Turned (fun k => k = T ∨ k = Lv ∨ k = Lt) W W' := by
  obtain ⟨i2, hi2, hu0, hu1, hu2⟩ := info_parts Tryz.infoTb
  have hTl := (Array.getElem?_eq_some_iff.1 hT).1
  have hMl := (Array.getElem?_eq_some_iff.1 hM).1
  have hgl := h.lt.2
  have hMT : M ≠ T := by intro e; subst e; rw [hM] at hT; injection hT with hT; injection hT with h1 h2; cases h1
  have hgT : g ≠ T := by
    rcases h.2 with ⟨h0, _⟩ | ⟨g', cp, cur, e1, _, hh, _⟩
    · cases h0
    · injection e1 with e1
      injection e1 with e1
      have : g = g' := by injection e1
      intro e; subst this; subst e; rw [hh] at hT; injection hT with hT; injection hT with h1 h2; cases h2
  have hLn := Lib.hid (mlen_any M (some ⟨g, 0, none⟩) 1 cap _ W hM)
  have HMd := Lib.hid (fun b g' cap' w (hw : w.cell? ⟨T, 1, none⟩ = some (.int .i64 100)) (ho : One w b g' cap' c) => tmade_one T b g' cap' c hok (by omega) w hw ho)
  have HNw := Lib.hid mnew_any
  have hLz : Lv < W.heap.size := hv.lt
  have hLtz : Lt < W.heap.size := ht.lt
  have l3 : W.cell? ⟨T, 3, none⟩ = some (.pointer (some ⟨M, 0, none⟩)) := cob hT 3 rfl
  have l4 : W.cell? ⟨T, 4, none⟩ = some (.slice (some ⟨Lv, 0, none⟩) 1 lc) := cob hT 4 rfl
  have lv0 : W.cell? ⟨Lv, 0, none⟩ = some (.slice (some ⟨Lt, 0, none⟩) 1 tc0) := hv.cell
  have HC3 := Lib.hid (mmcells_one 0 M g cap _ c W.drew hM h)
  have HTb := Lib.hid (fun (w : World) (hb : Below W.heap.size W w) => (hb.block T hTl).trans hT)
  have HLb := Lib.hid (fun (w : World) (hb : Below W.heap.size W w) => (hb.cell (p := ⟨Lv, 0, none⟩) hLz).trans lv0)
  have HLf := Lib.hid (fun (w : World) (hb : Below W.heap.size W w) (j : Nat) => OwnT.free (hv.of_block (hb.block Lv hLz)) j)
  have HLo := Lib.hid (fun (w : World) (hb : Below W.heap.size W w) => ht.of_block (hb.block Lt hLtz))
  have hGl : ∀ w : World, w.heap[T]? = W.heap[T]? → w.heap[T]? = some (.cells #[.int .i64 200, .int .i64 100, .int .i64 3, .pointer (some ⟨M, 0, none⟩), .slice (some ⟨Lv, 0, none⟩) 1 lc] 318) := fun w hw => hw.trans hT
  have HGl := Lib.hid hGl
  have Hv := Lib.hid hv
  clear hT hM h hok hv ht hGl
  go_enter Tryz.func239, Tryz.ntmps239
  go_wp2_with fail
  refine hLn.out.mono ?_
  rintro e w1 ⟨rfl, rfl⟩
  go_upto_region 3 with (fail)
  go_cut [14] (fun _ wx => ∃ A5 c5, wx.heap[T]? = some (.cells #[.int .i64 200, .int .i64 100, .int .i64 3, .pointer (some ⟨M, 0, none⟩), .slice (some ⟨Lv, 0, none⟩) 1 lc] 318) ∧ wx.cell? ⟨Lv, 0, none⟩ = some (.slice A5 2 c5) ∧ Turned (fun k => k = T ∨ k = Lv ∨ k = Lt) W wx)
  case first =>
    go_region_law (first
      | (have _ := M5; go_must (refine step_append_stl tcells _ tcells_one (by rfl) _ _ _ (by rfl) W.heap.size 373 i2 _ 1 8 tcells_len (by decide) Tryz.underlying370 hi2 hu0 hu1 hu2 (by rfl) _ _ [X] (by rfl) HO5.out 0 _ _ [X0] (by rfl) (HLo.out w5 hB5) (by simp [maxLen]) (by simp) hz35 ?_; intro L6 A6 c6 w6 H6 ho6 hb6 hg6 _; have hB6 := hB5.trans (hb6.mono (Nat.le_refl _)); have z4 := cob (HTb.out w6 hB6) 4 (v := .slice (some ⟨Lv, 0, none⟩) 1 lc) rfl; have zv := HLb.out w6 hB6; have zf := HLf.out w6 hB6))
      | (have _ := M4; (try go_simp); go_at_call 271; refine (HMd.out W.drew.heap.size g4 cap4 w4 (cob (HTb.out w4 hB4) 1 rfl) hO4).mono ?_; rintro e w5 ⟨gt, tc, X, rfl, ho5, hX5, hb5⟩; have M5 : True := trivial; have hB5 := below_next hB4 hb5; have hz35 := hB5.size; have HO5 := Lib.hid (OwnT.low (b' := W.heap.size) ho5 hB4.size); have z4 := cob (HTb.out w5 hB5) 4 (v := .slice (some ⟨Lv, 0, none⟩) 1 lc) rfl; have zv := HLb.out w5 hB5)
      | ((try go_simp); go_at_call 272; refine HC3.out.mono ?_; rintro e w4 ⟨g4, cap4, rfl, hO4, hb4'⟩; have M4 : True := trivial; have hB4 : Below W.heap.size W w4 := below_undrew hb4'; have z4 := cob (HTb.out w4 hB4) 4 (v := .slice (some ⟨Lv, 0, none⟩) 1 lc) rfl; have zv := HLb.out w4 hB4))
    all_goals
      have hL6 : L6 = [X, X0] := H6.out
      subst hL6
      have hT6 : Turned (fun k => k = T ∨ k = Lv ∨ k = Lt) W (w6.setCell ⟨Lv, 0, none⟩ (.slice A6 2 c6)) := (Turned.of_below (S := fun k => k = T ∨ k = Lv ∨ k = Lt) hB6).setCell (p := ⟨Lv, 0, none⟩) (.inl (.inr (.inl rfl))) _
      have hL7 := (Hv.out.of_block (hB6.block Lv hLz)).setAt lvcells_len 0 (by simp) (Lt, tc0)
      have hLb6 : w6.heap[Lv]? = W.heap[Lv]? := hB6.block Lv hLz
      have hvc : (w6.setCell ⟨Lv, 0, none⟩ (.slice A6 2 c6)).cell? ⟨Lv, 0, none⟩ = some (.slice A6 2 c6) := World.cell?_setCell_same _ _ _ zv
      go_wp2_with fail
      go_meet
      exact ⟨A6, c6, (heap_setCell_other _ _ _ _ (fun e => hLT e.symm)).trans (HTb.out w6 hB6), hvc, hT6⟩
  case rest =>
    obtain ⟨A5, c5, hT4, hLv4, hTu4⟩ := hcut
    have hTz4 : T < wc.heap.size := (Array.getElem?_eq_some_iff.1 hT4).1
    have hLz4 : Lv < wc.heap.size := lt_of_cell hLv4
    have hWc := hTu4.size
    clear l3 l4 lv0 HC3
    go_wp2_with fail
    refine (HNw.out wc).mono ?_
    rintro e w8 ⟨rfl, hM8, hb8, hz8⟩
    have hT8 := (hb8.block T hTz4).trans hT4
    have hLv8 := (hb8.cell (p := ⟨Lv, 0, none⟩) hLz4).trans hLv4
    have m3 : w8.cell? ⟨T, 3, none⟩ = some (.pointer (some ⟨M, 0, none⟩)) := cob hT8 3 rfl
    have hfr : ∀ j, w8.frozen? ⟨T, j, none⟩ = false := fun j => by simp [World.frozen?, hT8]
    have HT8 := Lib.hid hT8
    clear hT8 hM8 hz8
    go_upto_region 5 with (fail)
    have gT := heap_setCell_same w8 T 3 _ _ (.pointer (some ⟨wc.heap.size, 0, none⟩)) HT8.out
    have hTu9 : Turned (fun k => k = T ∨ k = Lv ∨ k = Lt) W (w8.setCell ⟨T, 3, none⟩ (.pointer (some ⟨wc.heap.size, 0, none⟩))) := (hTu4.below hb8 hTu4.size).setCell (p := ⟨T, 3, none⟩) (.inl (.inl rfl)) _
    have hLv9 : (w8.setCell ⟨T, 3, none⟩ (.pointer (some ⟨wc.heap.size, 0, none⟩))).cell? ⟨Lv, 0, none⟩ = some (.slice A5 2 c5) := (World.cell?_of_block (heap_setCell_other _ _ _ _ hLT)).trans hLv8
    obtain ⟨w9, hw9⟩ : ∃ w9, w9 = w8.setCell ⟨T, 3, none⟩ (.pointer (some ⟨wc.heap.size, 0, none⟩)) := ⟨_, rfl⟩
    rw [← hw9] at gT hTu9 hLv9 ⊢
    clear hw9 hT4 hLv4 hTu4 hb8 m3 hfr HT8 hLv8
    have gT' : w9.heap[T]? = some (.cells #[.int .i64 200, .int .i64 100, .int .i64 3, .pointer (some ⟨wc.heap.size, 0, none⟩), .slice (some ⟨Lv, 0, none⟩) 1 lc] 318) := gT
    have l4 : w9.cell? ⟨T, 4, none⟩ = some (.slice (some ⟨Lv, 0, none⟩) 1 lc) := cob gT' 4 rfl
    have l2 : w9.cell? ⟨T, 2, none⟩ = some (.int .i64 3) := cob gT' 2 rfl
    clear gT gT'
    go_wp2
    refine wp_loop_rounds 2 ?_
    rw [rounds_succ]
    go_wp2
    go_quiet (fail)
    have l4d : (w9.drewN nq).cell? ⟨T, 4, none⟩ = some (.slice (some ⟨Lv, 0, none⟩) 1 lc) := l4
    go_wp2
    rw [rounds_succ]
    go_wp2
    go_end0
    exact ⟨rfl, hTu9.drewN nq⟩
end Go.Proofs.YtoigogjmhkpdlaaGreat
