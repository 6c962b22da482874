/- A part of the proof of WholeFew: the texts FlushA. -/
import Derived.Test.YtoigogjmhkpdlaaGreatJ30
import Derived.BigQuiet
import Derived.Deep.DeepCutAuto
set_option maxHeartbeats 12800000
set_option maxRecDepth 100000
namespace Go.Proofs.YtoigogjmhkpdlaaGreat
open Go.RowKit
def lvg (p : Option Addr × Nat × Nat) : List Value := [.slice p.1 p.2.1 p.2.2]
theorem lvg_len (p : Option Addr × Nat × Nat) : (lvg p).length = 1 := rfl
theorem lvg_one (p : Option Addr × Nat × Nat) : ∀ u ∈ lvg p, u.oneCell' = true := by
  intro u hu
  simp only [lvg, List.mem_cons, List.not_mem_nil, or_false] at hu
  rw [hu]; rfl
theorem Tryz.infoLv : (Tryz.prog.info? 370).map (fun i => (i.zero, i.size, i.bytes)) = some (some (.slice none 0 0), 1, 24) := by kernel_rfl
theorem Tryz.infoTb : (Tryz.prog.info? 373).map (fun i => (i.zero, i.size, i.bytes)) = some (some (.pointer none), 1, 8) := by kernel_rfl
theorem step_append_nil {P : Program} {α : Type} (mk : α → List Value) (w : World) {ops : Array Oper} {o : Oper} {a : Act} {K : Act → World → Prop} {Q : Exit → Act → World → Prop} {E : Prop} (hgd : o.guard = none) (s x : Operand) (t : TypeId)
    (ho : o.op = .call { callee := .builtin .append, args := #[s, x], argTypes := #[t, t] })
    (base : Nat) (e : TypeId) (i : TypeInfo) (sz : Nat) (ht : P.underlying t = some (.slice e)) (hi : P.info? e = some i)
    (S : Option Addr) (d : Nat) (l : List α) (hs : a.eval s = .slice S l.length d) (hown : OwnT mk e sz w base S d l) (hx : a.eval x = .slice none 0 0)
    (h : K (a.put o.dst (.slice S l.length d)) w) :
    if Region.wanted o (yielded ops a.tmps) = true then Oper.wp P o a w K Q else E := by
  have hw : Region.wanted o (yielded ops a.tmps) = true := by simp [Region.wanted, hgd]
  rw [if_pos hw]
  have hrun := run_append_owned_none (P := P) (w := w) base t o.type e i sz ht hi _ _ _ hown
  unfold Oper.wp execOp
  simp only [ho, resolve, invoke, builtin, Sem.run_bind, Sem.run_pure, Result.andThen_ok, List.map_toArray, List.map_cons, List.map_nil, hs, hx, hrun]
  exact h
theorem tflush_e (T M g cap : Nat) (c : Cl) (hok : ClOk c) (hlen : 200 ≤ (cellN c).length) (n : Int) (W : World) (hT : W.heap[T]? = some (.cells #[.int .i64 200, .int .i64 100, .int .i64 3, .pointer (some ⟨M, 0, none⟩), .slice none 0 0] 318)) (hM : W.heap[M]? = some (.cells #[.slice (some ⟨g, 0, none⟩) 1 cap, .int .i64 n] 355)) (h : One W 0 g cap c) :
    Calls Tryz.prog 239 #[.pointer (some ⟨T, 0, none⟩)] W fun e W' => e = .returned (.tuple #[]) ∧ TreeT c W' (fun k => k = T ∨ (W.heap.size ≤ k ∧ k < W'.heap.size)) T ∧ Turned (fun k => k = T) W W' := by
  obtain ⟨i1, hi1, hy0, hy1, hy2⟩ := info_parts Tryz.infoLv
  obtain ⟨i2, hi2, hu0, hu1, hu2⟩ := info_parts Tryz.infoTb
  have hTl := (Array.getElem?_eq_some_iff.1 hT).1
  have hMl := (Array.getElem?_eq_some_iff.1 hM).1
  have hgl := h.lt.2
  have hMT : M ≠ T := by intro e; subst e; rw [hM] at hT; injection hT with hT; injection hT with h1 h2; cases h1
  have hgT : g ≠ T := by
    rcases h.2 with ⟨h0, _⟩ | ⟨g', cp, cur, e1, _, hh, _⟩
    · cases h0
    · injection e1 with e1
      injection e1 with e1
      have : g = g' := by injection e1
      intro e; subst this; subst e; rw [hh] at hT; injection hT with hT; injection hT with h1 h2; cases h2
  have hLn := Lib.hid (mlen_any M (some ⟨g, 0, none⟩) 1 cap _ W hM)
  have HCe := Lib.hid (fun w (hm : w.heap[M]? = W.heap[M]?) (hg : w.heap[g]? = W.heap[g]?) => mmcells_one 0 M g cap _ c w (hm.trans hM) (h.of_block hg))
  have HMd := Lib.hid (fun b g' cap' w (hw : w.cell? ⟨T, 1, none⟩ = some (.int .i64 100)) (ho : One w b g' cap' c) => tmade_one T b g' cap' c hok (by omega) w hw ho)
  have HNw := Lib.hid mnew_any
  have HT := Lib.hid hT
  have t3 : W.cell? ⟨T, 3, none⟩ = some (.pointer (some ⟨M, 0, none⟩)) := cob hT 3 rfl
  have t4 : W.cell? ⟨T, 4, none⟩ = some (.slice none 0 0) := cob hT 4 rfl
  clear hT hM h hok
  go_enter Tryz.func239, Tryz.ntmps239
  go_wp2_with fail
  refine hLn.out.mono ?_
  rintro e w1 ⟨rfl, rfl⟩
  go_upto_region 3 with (at_builtin; refine wpList_append_st lvg _ lvg_one rfl _ _ _ rfl W.heap.size 370 i1 _ 1 24 lvg_len (by decide) Tryz.underlying316 hi1 hy0 hy1 hy2 rfl _ _ [] rfl (OwnT.nil _ _ _ _ _) W.heap.size _ (none, 0, 0) (0, 0) _ rfl (heap_alloc_new _ _) (by simp [maxLen]) (by simp) (by simp) ?_; intro X2 A2 c2 w2 H2 ho2 hb2 _ _; have hB2 := ((Below.refl W.heap.size W).alloc (Nat.le_refl _) (.cells #[.slice none 0 0] 370)).trans hb2; have hT2 := (hB2.block T hTl).trans HT.out; have s4 := cob hT2 4 (v := .slice none 0 0) rfl; have hfr : ∀ j, w2.frozen? ⟨T, j, none⟩ = false := (fun j => by simp [World.frozen?, hT2]); have HT2 := Lib.hid hT2; clear hT2)
  have hX2 : X2 = [(none, 0, 0)] := H2.out
  subst hX2
  obtain ⟨Lv, rfl, hLv⟩ := ho2.form (by simp)
  have gT := heap_setCell_same w2 T 4 _ _ (.slice (some ⟨Lv, 0, none⟩) 1 c2) HT2.out
  have hLT : Lv ≠ T := by omega
  have ho3 := ho2.of_block (w' := w2.setCell ⟨T, 4, none⟩ (.slice (some ⟨Lv, 0, none⟩) 1 c2)) (fun k hk => heap_setCell_other _ _ _ _ (fun e => hLT ((show Lv = k by simpa [blk] using hk).trans e)))
  have hT3 : Turned (fun k => k = T) W (w2.setCell ⟨T, 4, none⟩ (.slice (some ⟨Lv, 0, none⟩) 1 c2)) := (Turned.of_below (S := fun k => k = T) hB2).setCell (p := ⟨T, 4, none⟩) (.inl rfl) _
  obtain ⟨w3, hw3⟩ : ∃ w3, w3 = w2.setCell ⟨T, 4, none⟩ (.slice (some ⟨Lv, 0, none⟩) [((none, 0, 0) : Option Addr × Nat × Nat)].length c2) := ⟨_, rfl⟩
  rw [← hw3]
  have gT' : w3.heap[T]? = some (.cells #[.int .i64 200, .int .i64 100, .int .i64 3, .pointer (some ⟨M, 0, none⟩), .slice (some ⟨Lv, 0, none⟩) 1 c2] 318) := by rw [hw3]; exact gT
  have ho3' : OwnT lvg 370 1 w3 W.heap.size (some ⟨Lv, 0, none⟩) c2 [(none, 0, 0)] := by rw [hw3]; exact ho3
  have hT3' : Turned (fun k => k = T) W w3 := by rw [hw3]; exact hT3
  clear hw3 gT ho3 hT3 s4 hfr ho2 hb2 hB2 HT2 t3 t4 H2
  have hTz : T < w3.heap.size := (Array.getElem?_eq_some_iff.1 gT').1
  have hLz : Lv < w3.heap.size := (ho3'.lt Lv rfl).2
  have l3 : w3.cell? ⟨T, 3, none⟩ = some (.pointer (some ⟨M, 0, none⟩)) := cob gT' 3 rfl
  have l4 : w3.cell? ⟨T, 4, none⟩ = some (.slice (some ⟨Lv, 0, none⟩) 1 c2) := cob gT' 4 rfl
  have lv0 : w3.cell? ⟨Lv, 0, none⟩ = some (.slice none 0 0) := OwnT.cell ho3' lvg_len 0 0 (by simp) _ rfl
  have HC3 := Lib.hid (HCe.out w3.drew (hT3'.block M hMl hMT) (hT3'.block g hgl hgT))
  have HTb := Lib.hid (fun (w : World) (hb : Below w3.heap.size w3 w) => (hb.block T hTz).trans gT')
  have HLb := Lib.hid (fun (w : World) (hb : Below w3.heap.size w3 w) => (hb.cell (p := ⟨Lv, 0, none⟩) hLz).trans lv0)
  have HLf := Lib.hid (fun (w : World) (hb : Below w3.heap.size w3 w) (j : Nat) => OwnT.free (ho3'.of_block (w' := w) (fun k hk => hb.block k (ho3'.lt k hk).2)) j)
  clear gT'
  go_cut [14] (fun _ wx => ∃ gt tc X, wx.heap[T]? = some (.cells #[.int .i64 200, .int .i64 100, .int .i64 3, .pointer (some ⟨M, 0, none⟩), .slice (some ⟨Lv, 0, none⟩) 1 c2] 318) ∧ Lv1 wx Lv c2 (gt, tc) ∧ Tb1 wx gt tc X ∧ Tab1 wx W.heap.size X c ∧ W.heap.size ≤ gt ∧ Turned (fun k => k = T) W wx)
  case first =>
    go_region_law (first
      | (have _ := M5; go_must (refine step_append_nil tcells _ (by rfl) _ _ _ (by rfl) w3.heap.size 373 i2 1 Tryz.underlying370 hi2 _ _ [X] (by rfl) HO5.out (by rfl) ?_; have zf := HLf.out w5 hB5))
      | (have _ := M4; (try go_simp); go_loud (go_at_call 271; (refine (HMd.out w3.drew.heap.size g4 cap4 w4 (cob (HTb.out w4 hB4) 1 rfl) hO4).mono ?_); rintro e w5 ⟨gt, tc, X, rfl, ho5, hX5, hb5⟩; have M5 : True := trivial; have hB5 := below_next hB4 hb5; have hz35 := hB5.size; have HO5 := Lib.hid (OwnT.low (b' := w3.heap.size) ho5 hB4.size); have HX5 := Lib.hid hX5; have z4 := cob (HTb.out w5 hB5) 4 (v := .slice (some ⟨Lv, 0, none⟩) 1 c2) rfl; have zv := HLb.out w5 hB5))
      | ((try go_simp); go_at_call 272; refine HC3.out.mono ?_; rintro e w4 ⟨g4, cap4, rfl, hO4, hb4'⟩; have M4 : True := trivial; have hB4 : Below w3.heap.size w3 w4 := below_undrew hb4'; have z4 := cob (HTb.out w4 hB4) 4 (v := .slice (some ⟨Lv, 0, none⟩) 1 c2) rfl; have zv := HLb.out w4 hB4))
    all_goals
      have hgt := OwnT.lt HO5.out gt rfl
      have hkl : ∀ k, k ≠ Lv → (w5.setCell ⟨Lv, 0, none⟩ (.slice (some ⟨gt, 0, none⟩) 1 tc)).heap[k]? = w5.heap[k]? := fun k hk => heap_setCell_other _ _ _ _ hk
      have hT5 : Turned (fun k => k = T) W (w5.setCell ⟨Lv, 0, none⟩ (.slice (some ⟨gt, 0, none⟩) 1 tc)) := (hT3'.below hB5 hT3'.size).setCell (p := ⟨Lv, 0, none⟩) (.inr hLv.1) _
      have hL5 := (ho3'.of_block (w' := w5) (fun k hk => hB5.block k (ho3'.lt k hk).2)).setAt lvg_len 0 (by simp) (some ⟨gt, 0, none⟩, 1, tc)
      have hz43 := hB4.size
      have hX6 : Tab1 (w5.setCell ⟨Lv, 0, none⟩ (.slice (some ⟨gt, 0, none⟩) 1 tc)) W.heap.size X c := by
        obtain ⟨gl, capl, G, Cap, g', cap', AF, F, cF, hX, hl, hG, hg', hF, hO, hX0⟩ := HX5.out.frame (W' := w5.setCell ⟨Lv, 0, none⟩ (.slice (some ⟨gt, 0, none⟩) 1 tc)) (fun k hk _ => hkl k (by omega))
        have hzz : W.heap.size ≤ w4.heap.size := by have := hT3'.size; omega
        exact ⟨gl, capl, G, Cap, g', cap', AF, F, cF, hX, OwnT.low hl hzz, OwnT.low hG hzz, OwnT.low hg' hzz, hF, World.ownsRow_base hO hzz, by omega⟩
      go_wp2_with fail
      go_meet
      refine ⟨gt, tc, X, (hkl T (fun e => hLT e.symm)).trans (HTb.out w5 hB5), ?_, ?_, hX6, by have := hT3'.size; omega, hT5⟩
      · simp only [Nat.zero_mul, World.setCells, lvg] at hL5
        exact OwnT.low (b' := 0) hL5 (Nat.zero_le _)
      · exact OwnT.low (b' := 0) (OwnT.of_block HO5.out (fun k hk => hkl k (by have hgk : gt = k := (by simpa [blk] using hk); omega))) (Nat.zero_le _)
  case rest =>
    obtain ⟨gt, tc, X, hT4, hLv4, hTb4, hX4, hgt4, hTu4⟩ := hcut
    have hTz4 : T < wc.heap.size := (Array.getElem?_eq_some_iff.1 hT4).1
    have hWc := hTu4.size
    clear l3 l4 lv0 HC3
    go_wp2_with fail
    refine (HNw.out wc).mono ?_
    rintro e w8 ⟨rfl, hM8, hb8, hz8⟩
    have hT8 := (hb8.block T hTz4).trans hT4
    have m3 : w8.cell? ⟨T, 3, none⟩ = some (.pointer (some ⟨M, 0, none⟩)) := cob hT8 3 rfl
    have hfr : ∀ j, w8.frozen? ⟨T, j, none⟩ = false := fun j => by simp [World.frozen?, hT8]
    have HT8 := Lib.hid hT8
    clear hT8
    go_upto_region 5 with (fail)
    have gT := heap_setCell_same w8 T 3 _ _ (.pointer (some ⟨wc.heap.size, 0, none⟩)) HT8.out
    have hk9 : ∀ k, k ≠ T → (w8.setCell ⟨T, 3, none⟩ (.pointer (some ⟨wc.heap.size, 0, none⟩))).heap[k]? = w8.heap[k]? := fun k hk => heap_setCell_other _ _ _ _ hk
    have hTu9 : Turned (fun k => k = T) W (w8.setCell ⟨T, 3, none⟩ (.pointer (some ⟨wc.heap.size, 0, none⟩))) := (hTu4.below hb8 hTu4.size).setCell (p := ⟨T, 3, none⟩) (.inl rfl) _
    have hM9 := (hk9 wc.heap.size (by omega)).trans hM8
    have hLv9 := hLv4.of_block ((hk9 Lv hLT).trans (hb8.block Lv hLv4.lt))
    have hTb9 := hTb4.of_block ((hk9 gt (by omega)).trans (hb8.block gt hTb4.lt))
    have hX9 : Tab1 (w8.setCell ⟨T, 3, none⟩ (.pointer (some ⟨wc.heap.size, 0, none⟩))) W.heap.size X c := hX4.frame fun k hk1 hk2 => (hk9 k (by omega)).trans (hb8.block k hk2)
    obtain ⟨w9, hw9⟩ : ∃ w9, w9 = w8.setCell ⟨T, 3, none⟩ (.pointer (some ⟨wc.heap.size, 0, none⟩)) := ⟨_, rfl⟩
    have hz9 : wc.heap.size < w9.heap.size := by rw [hw9]; simp; omega
    rw [← hw9] at gT hTu9 hM9 hLv9 hTb9 hX9 ⊢
    clear hw9 hk9 hT4 hLv4 hTb4 hX4 hTu4 hM8 hb8 hz8 m3 hfr HT8
    have gT' : w9.heap[T]? = some (.cells #[.int .i64 200, .int .i64 100, .int .i64 3, .pointer (some ⟨wc.heap.size, 0, none⟩), .slice (some ⟨Lv, 0, none⟩) 1 c2] 318) := gT
    have l4 : w9.cell? ⟨T, 4, none⟩ = some (.slice (some ⟨Lv, 0, none⟩) 1 c2) := cob gT' 4 rfl
    have l2 : w9.cell? ⟨T, 2, none⟩ = some (.int .i64 3) := cob gT' 2 rfl
    have lv0 := hLv9.cell
    dsimp only at lv0
    have HG := Lib.hid gT'
    clear gT gT'
    go_wp2
    refine wp_loop_rounds 2 ?_
    rw [rounds_succ]
    go_wp2
    go_quiet (fail)
    have l4d : (w9.drewN nq).cell? ⟨T, 4, none⟩ = some (.slice (some ⟨Lv, 0, none⟩) 1 c2) := l4
    go_wp2
    rw [rounds_succ]
    go_wp2
    go_end0
    have hW9 : W.heap.size ≤ w9.heap.size := hTu9.size
    refine ⟨rfl, ⟨wc.heap.size, Lv, c2, gt, tc, X, HG.out, hM9, hLv9, hTb9, ?_, hlen, .inl rfl, .inr ⟨by omega, hz9⟩, .inr ⟨by omega, hLv9.lt⟩, .inr ⟨by omega, hTb9.lt⟩⟩, hTu9.drewN nq⟩
    exact ((TabS.of hX9).frame (W' := w9.drewN nq) (fun k _ => rfl)).mono (fun k hk _ => Or.inr hk)
end Go.Proofs.YtoigogjmhkpdlaaGreat
