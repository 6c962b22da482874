/- A part of the proof of WholeFew: the texts TableE, TableF, TreeA, TreeB. -/
import Derived.Test.YtoigogjmhkpdlaaGreatJ22
import Derived.Test.YtoigogjmhkpdlaaGreatJ27
set_option maxHeartbeats 3200000
set_option maxRecDepth 100000
namespace Go.Proofs.YtoigogjmhkpdlaaGreat
open Go.RowKit
open Crc Bl
theorem has_one (s : ByteArray) : hasN (makeF [s]) s = true := by
  have hGl : (makeF [s]).length = filt [s] := by unfold makeF; exact makeN_length _ _ _
  refine hasN_yes (L := keyBits (filt [s]) s) (by rw [hGl]; rfl) fun j hj => ?_
  exact (makeN_bit _ _ _ _ (fun k _ p hp => bitsN_lt _ _ (by unfold filt; omega) p hp)).2 ⟨s, List.mem_singleton.2 rfl, List.getElem_mem _⟩
theorem makeF_small (l : List ByteArray) : Small (makeF l) := by unfold makeF; exact makeN_small _ _ _
theorem c5_of {w : World} {g : Nat} {c : Cl} (h : C5 w g c) : (∀ x : Of (Below w.heap.size w), x.w.cell? ⟨g, 0, none⟩ = some (.string c.row)) ∧ (∀ x : Of (Below w.heap.size w), x.w.cell? ⟨g, 1, none⟩ = some (.string c.col)) ∧ (∀ x : Of (Below w.heap.size w), x.w.cell? ⟨g, 2, none⟩ = some (.int .i64 c.at_)) ∧ (∀ x : Of (Below w.heap.size w), x.w.cell? ⟨g, 3, none⟩ = some (.string c.value)) ∧ (∀ x : Of (Below w.heap.size w), x.w.cell? ⟨g, 4, none⟩ = some (.bool c.gone)) :=
  ⟨fun x => (h.below x.h h.lt).1, fun x => (h.below x.h h.lt).2.1, fun x => (h.below x.h h.lt).2.2.1, fun x => (h.below x.h h.lt).2.2.2.1, fun x => (h.below x.h h.lt).2.2.2.2⟩
theorem of_ne (w : World) : Nonempty (Of (Below w.heap.size w)) := ⟨⟨_, Below.refl _ _⟩⟩
theorem get1_same (g cap : Nat) (c x : Cl) (hk : SameKey c x) (W : World) (h : C5 W g c) : Calls Tryz.prog 305 #[.slice (some ⟨g, 0, none⟩) 1 cap, clv x] W fun e W' => e = .returned (.int .i64 0) ∧ Below W.heap.size W W' := by
  have HCm := Lib.hid (fun w => compare_same c x hk w)
  have hgl := h.lt
  have HC := Lib.hid (fun w (hb : Below W.heap.size W w) => h.below hb hgl)
  clear h hk
  obtain ⟨cr, cc, ct, cv, cg⟩ := c
  obtain ⟨r, k, t, v, d⟩ := x
  unfold clv clcells at HCm ⊢
  simp only [] at HCm ⊢
  go_enter Tryz.func305, Tryz.ntmps305
  go_wp2
  generalize hw1 : World.alloc W _ = w1
  have hB := named_new hw1.symm
  have hb1 := named_below hw1.symm
  clear hw1
  obtain ⟨e0, e1, e2, e3, e4⟩ := c5_of (c5_block (c := ⟨r, k, t, v, d⟩) hB)
  obtain ⟨q0, q1, q2, q3, q4⟩ := c5_of (HC.out w1 hb1)
  simp only [] at e0 e1 e2 e3 e4 q0 q1 q2 q3 q4
  clear hB
  haveI := of_ne w1
  refine wp_region_of (Below w1.heap.size w1) (by kernel_rfl) (by kernel_rfl) (Below.refl _ _).drew ?_
  repeat (go_big_quiet_step ((rename_i x; go_at_call 267; refine quiet_of ((HCm.out x.w).mono fun e w' h => ⟨h.1, x.h.trans (h.2.mono x.h.size)⟩))))
  refine wpQuiet_nil ?_
  rintro _ ⟨x, rfl⟩
  obtain ⟨w2, hb2⟩ := x
  go_wp2
  go_ret
  exact ⟨rfl, below_next hb1 hb2⟩
def cmpB : Value := .func (.func 305) #[] #[]
theorem bsb_one (G Cap g cap : Nat) (c x : Cl) (hk : SameKey c x) (W : World) (hG : W.cell? ⟨G, 0, none⟩ = some (.slice (some ⟨g, 0, none⟩) 1 cap)) (h : C5 W g c) : Calls Tryz.prog 304 #[.slice (some ⟨G, 0, none⟩) 1 Cap, clv x, cmpB] W fun e W' => e = .returned (.tuple #[.int .i64 0, .bool true]) ∧ Below W.heap.size W W' := by
  have hgl := h.lt
  have hGl := lt_of_cell hG
  have HCm := Lib.hid (fun w (hb : Below W.heap.size W w) => get1_same g cap c x hk w (h.below hb hgl))
  have HG := Lib.hid (fun w (hb : Below W.heap.size W w) => (hb.cell (p := ⟨G, 0, none⟩) hGl).trans hG)
  clear h hk hG
  obtain ⟨r, k, t, v, d⟩ := x
  unfold clv clcells at HCm ⊢
  unfold cmpB
  simp only [] at HCm ⊢
  go_enter Tryz.func304, Tryz.ntmps304
  go_wp2
  generalize hw1 : World.alloc W _ = w1
  have hB := named_new hw1.symm
  have hb1 := named_below hw1.symm
  clear hw1
  refine wp_loop_rounds 2 ?_
  rw [rounds_succ]
  go_wp2
  obtain ⟨e0, e1, e2, e3, e4⟩ := c5_of (c5_block (c := ⟨r, k, t, v, d⟩) hB)
  have q0 : ∀ x : Of (Below w1.heap.size w1), x.w.cell? ⟨G, 0, none⟩ = some (.slice (some ⟨g, 0, none⟩) 1 cap) := fun x => HG.out x.w (below_next hb1 x.h)
  simp only [] at e0 e1 e2 e3 e4
  have HC1 := Lib.hid (fun x : Of (Below w1.heap.size w1) => HCm.out x.w (below_next hb1 x.h))
  haveI := of_ne w1
  refine wp_region_of (Below w1.heap.size w1) (by kernel_rfl) (by kernel_rfl) (Below.refl _ _).drew ?_
  repeat (go_big_quiet_step ((rename_i x; go_at_call 305; refine quiet_of ((HC1.out x).mono fun e w' h => ⟨h.1, x.h.trans (h.2.mono x.h.size)⟩))))
  refine wpQuiet_nil ?_
  rintro _ ⟨x, rfl⟩
  obtain ⟨w2, hb2⟩ := x
  go_wp2
  rw [rounds_succ]
  go_wp2
  have hB2 := below_next hb1 hb2
  have hN2 := (hb2.block W.heap.size (Array.getElem?_eq_some_iff.1 hB).1).trans hB
  clear e0 e1 e2 e3 e4 q0 HC1 this
  obtain ⟨e0, e1, e2, e3, e4⟩ := c5_of (c5_block (c := ⟨r, k, t, v, d⟩) hN2)
  have q0 : ∀ x : Of (Below w2.heap.size w2), x.w.cell? ⟨G, 0, none⟩ = some (.slice (some ⟨g, 0, none⟩) 1 cap) := fun x => HG.out x.w (below_next hB2 x.h)
  simp only [] at e0 e1 e2 e3 e4
  have HC1 := Lib.hid (fun x : Of (Below w2.heap.size w2) => HCm.out x.w (below_next hB2 x.h))
  haveI := of_ne w2
  refine wp_region_of (Below w2.heap.size w2) (by kernel_rfl) (by kernel_rfl) (Below.refl _ _).drew ?_
  repeat (go_big_quiet_step ((rename_i x; go_at_call 305; refine quiet_of ((HC1.out x).mono fun e w' h => ⟨h.1, x.h.trans (h.2.mono x.h.size)⟩))))
  refine wpQuiet_nil ?_
  rintro _ ⟨x, rfl⟩
  obtain ⟨w3, hb3⟩ := x
  go_wp2
  go_ret2
  exact ⟨rfl, below_next hB2 hb3⟩
theorem Tab1.lt {W : World} {base X : Nat} {c : Cl} (h : Tab1 W base X c) : base ≤ X ∧ X < W.heap.size := by
  obtain ⟨_, _, _, _, _, _, _, _, _, hX, _, _, _, _, _, hb⟩ := h
  exact ⟨hb, (Array.getElem?_eq_some_iff.1 hX).1⟩
theorem Own.of_block {α : Type} {mk : α → Value} {e : TypeId} {w w' : World} {base : Nat} {A : Option Addr} {c : Nat} {l : List α} (h : Own mk e w base A c l) (hb : ∀ k, blk A = some k → w'.heap[k]? = w.heap[k]?) : Own mk e w' base A c l := by
  refine ⟨h.1, ?_⟩
  rcases h.2 with h0 | ⟨g, cap, cur, hv, hg, hh, hr⟩
  · exact .inl h0
  · have hA : A = some ⟨g, 0, none⟩ := by injection hv
    exact .inr ⟨g, cap, cur, hv, hg, (hb g (by rw [hA]; rfl)).trans hh, hr⟩
theorem Tab1.frame {W W' : World} {base X : Nat} {c : Cl} (h : Tab1 W base X c) (hb : ∀ k, base ≤ k → k < W.heap.size → W'.heap[k]? = W.heap[k]?) : Tab1 W' base X c := by
  obtain ⟨gl, capl, G, Cap, g, cap, AF, F, cF, hX, hl, hG, hg, hF, hO, hX0⟩ := h
  exact ⟨gl, capl, G, Cap, g, cap, AF, F, cF, (hb X hX0 (Array.getElem?_eq_some_iff.1 hX).1).trans hX, hl.of_block (hb gl hl.lt.1 hl.lt.2), hG.of_block (hb G hG.lt.1 hG.lt.2), hg.of_block (hb g hg.lt.1 hg.lt.2), hF, hO.of_block (fun k hk => hb k (hO.lt k hk).1 (hO.lt k hk).2), hX0⟩
theorem tmay_same (base X : Nat) (c : Cl) (hok : ClOk c) (W : World) (h : Tab1 W base X c) : Calls Tryz.prog 303 #[.pointer (some ⟨X, 0, none⟩), .string c.row, .string c.col] W fun e W' => e = .returned (.bool true) ∧ Below W.heap.size W W' := by
  obtain ⟨gl, capl, G, Cap, g, cap, AF, F, cF, hX, _, _, _, hF, hO, _⟩ := h
  have hXl := (Array.getElem?_eq_some_iff.1 hX).1
  have hFl : F.length ≤ 1000 := by rw [hF.out]; unfold makeF; rw [makeN_length]; unfold filt; simp
  have HT := Lib.hid (fun w => ttext_any c.row c.col hok.r2 hok.c2 w)
  have HH := Lib.hid (fun w (hb : Below W.heap.size W w) => has_any AF F cF (keyS c.row c.col) (by rw [hF.out]; exact makeF_small _) hFl (Nat.le_trans (keyS_size hok.r2 hok.c2) (by decide)) w ((hO.below hb (Nat.le_refl _)).rd))
  have HY := Lib.hid (show hasN F (keyS c.row c.col) = true by rw [hF.out]; exact has_one _)
  have q0 : ∀ x : Of (Below W.heap.size W), x.w.cell? ⟨X, 2, none⟩ = some (.slice AF F.length cF) := fun x => cob ((x.h.block X hXl).trans hX) 2 rfl
  rw [HY.out] at HH
  obtain ⟨y, hy⟩ : ∃ y, y = keyS c.row c.col := ⟨_, rfl⟩
  rw [← hy] at HT HH
  clear hy hX hF hO hFl
  haveI := of_ne W
  go_enter Tryz.func303, Tryz.ntmps303
  go_wp2
  refine wp_region_of (Below W.heap.size W) (by kernel_rfl) (by kernel_rfl) (Below.refl _ _).drew ?_
  repeat (go_big_quiet_step ((first
    | (rename_i x; go_at_call 326; refine quiet_of ((HT.out x.w).mono fun e w' h => ⟨h.1, x.h.trans (h.2.mono x.h.size)⟩))
    | (rename_i x; go_at_call 325; refine quiet_of ((HH.out x.w x.h).mono fun e w' h => ⟨h.1, x.h.trans (h.2.mono x.h.size)⟩)))))
  refine wpQuiet_nil ?_
  rintro _ ⟨x, rfl⟩
  obtain ⟨w2, hb2⟩ := x
  go_wp2
  go_ret
  exact ⟨rfl, hb2⟩
theorem tget_same (base X : Nat) (c : Cl) (hok : ClOk c) (W : World) (h : Tab1 W base X c) : Calls Tryz.prog 275 #[.pointer (some ⟨X, 0, none⟩), .string c.row, .string c.col, .int .i64 c.at_] W fun e W' => e = .returned (.tuple #[clv c, .bool true]) ∧ Below W.heap.size W W' := by
  have HM := Lib.hid (fun w (hb : Below W.heap.size W w) => tmay_same base X c hok w (h.frame fun k _ hk => hb.block k hk))
  have hXl := h.lt.2
  obtain ⟨gl, capl, G, Cap, g, cap, AF, F, cF, hX, _, hG, hg, _, _, _⟩ := h
  have HX := Lib.hid (fun w (hb : Below W.heap.size W w) => cob ((hb.block X hXl).trans hX) 1 (v := .slice (some ⟨G, 0, none⟩) 1 Cap) rfl)
  have HBs := Lib.hid (fun w (hb : Below W.heap.size W w) => bsb_one G Cap g cap c ⟨c.row, c.col, c.at_, { data := #[] }, false⟩ ⟨rfl, rfl, rfl⟩ w ((hb.cell (p := ⟨G, 0, none⟩) hG.lt.2).trans hG.cell) (hg.c5.below hb hg.lt.2))
  have HG := Lib.hid (fun w (hb : Below W.heap.size W w) => (hb.cell (p := ⟨G, 0, none⟩) hG.lt.2).trans hG.cell)
  have HNw := Lib.hid (fun w (hb : Below W.heap.size W w) => newest_one g cap c w (hg.c5.below hb hg.lt.2))
  clear hX hG hg hok
  obtain ⟨r, k, t, v, d⟩ := c
  unfold clv clcells cmpB at HBs
  unfold clv clcells at HNw ⊢
  simp only [] at HM HBs HNw ⊢
  go_enter Tryz.func275, Tryz.ntmps275
  go_wp2_with fail
  generalize hw1 : World.alloc W _ = w1
  have hR1 := named_new hw1.symm
  have hb1 := named_below hw1.symm
  have hz1 : W.heap.size < w1.heap.size := by rw [named_size hw1.symm]; omega
  clear hw1
  refine (HM.out w1 hb1).mono ?_
  rintro e w2 ⟨rfl, hb2⟩
  have hB2 := below_next hb1 hb2
  have hR2 := (hb2.block W.heap.size hz1).trans hR1
  have hz2 : W.heap.size < w2.heap.size := Nat.lt_of_lt_of_le hz1 hb2.size
  clear hR1 hb1 hb2
  go_wp2
  generalize hw3 : World.alloc w2 _ = w3
  have hK3 := named_new hw3.symm
  have hb3 := named_below hw3.symm
  clear hw3
  have hB3 := below_next hB2 hb3
  have hR3 := (hb3.block W.heap.size hz2).trans hR2
  have hz3 : W.heap.size < w3.heap.size := Nat.lt_of_lt_of_le hz2 hb3.size
  obtain ⟨e0, e1, e2, e3, e4⟩ := c5_of (c5_block (c := ⟨r, k, t, { data := #[] }, false⟩) hK3)
  simp only [] at e0 e1 e2 e3 e4
  have q0 : ∀ x : Of (Below w3.heap.size w3), x.w.cell? ⟨X, 1, none⟩ = some (.slice (some ⟨G, 0, none⟩) 1 Cap) := fun x => HX.out x.w (below_next hB3 x.h)
  have HB1 := Lib.hid (fun x : Of (Below w3.heap.size w3) => HBs.out x.w (below_next hB3 x.h))
  have HR3 := Lib.hid hR3
  clear hR2 hR3 hK3 hb3 hB2
  haveI := of_ne w3
  refine wp_region_of (Below w3.heap.size w3) (by kernel_rfl) (by kernel_rfl) (Below.refl _ _).drew ?_
  repeat (go_big_quiet_step ((rename_i x; go_at_call 304; refine quiet_of ((HB1.out x).mono fun e w' h => ⟨h.1, x.h.trans (h.2.mono x.h.size)⟩))))
  refine wpQuiet_nil ?_
  rintro _ ⟨x, rfl⟩
  obtain ⟨w4, hb4⟩ := x
  dsimp only
  have hB4 := below_next hB3 hb4
  have hR4 := (hb4.block W.heap.size hz3).trans HR3.out
  have hz4 : W.heap.size < w4.heap.size := Nat.lt_of_lt_of_le hz3 hb4.size
  clear e0 e1 e2 e3 e4 q0 HB1 this HR3 hb4
  have q1 : w4.cell? ⟨X, 1, none⟩ = some (.slice (some ⟨G, 0, none⟩) 1 Cap) := HX.out w4 hB4
  have q2 := HG.out w4 hB4
  go_wp2_with fail
  refine (HNw.out w4 hB4).mono ?_
  rintro e w5 ⟨rfl, hb5⟩
  have hB5 := below_next hB4 hb5
  have hR5 := (hb5.block W.heap.size hz4).trans hR4
  have hfr : ∀ j, w5.frozen? ⟨W.heap.size, j, none⟩ = false := fun j => by simp [World.frozen?, hR5]
  have d0 : w5.cell? ⟨W.heap.size, 0, none⟩ = some (.string { data := #[] }) := cob hR5 0 rfl
  have d1 : w5.cell? ⟨W.heap.size, 1, none⟩ = some (.string { data := #[] }) := cob hR5 1 rfl
  have d2 : w5.cell? ⟨W.heap.size, 2, none⟩ = some (.int .i64 0) := cob hR5 2 rfl
  have d3 : w5.cell? ⟨W.heap.size, 3, none⟩ = some (.string { data := #[] }) := cob hR5 3 rfl
  have d4 : w5.cell? ⟨W.heap.size, 4, none⟩ = some (.bool false) := cob hR5 4 rfl
  have HR5 := Lib.hid hR5
  clear hR5 hR4 q1 q2
  go_wp2
  obtain ⟨hf9, hgr, hz9⟩ := cl_store w5 W.heap.size _ HR5.out rfl (r) (k) (t) (v) (d)
  generalize World.setCell _ ⟨W.heap.size, 4, none⟩ _ = w9 at hf9 hgr hz9 ⊢
  refine bodyPost_ret (results_ct rfl _ _ W.heap.size _ _ (0, 0) _ rfl hf9 Tryz.underlying93 rfl Tryz.sizeCl) rfl ⟨rfl, ?_⟩
  exact hB5.grown hgr (by have := hB5.size; omega) (fun q hq => by injection hq with hq; omega)
def TabS (W : World) (S : Nat → Prop) (X : Nat) (c : Cl) : Prop :=
  ∃ (gl capl G Cap g cap : Nat) (AF : Option Addr) (F : List Nat) (cF : Nat), W.heap[X]? = some (.cells #[.slice (some ⟨gl, 0, none⟩) 1 capl, .slice (some ⟨G, 0, none⟩) 1 Cap, .slice AF F.length cF] 404) ∧ One W 0 gl capl c ∧ Bl1 W 0 G Cap (g, cap) ∧ One W 0 g cap c ∧ Hid (F = makeF [keyS c.row c.col]) ∧ Own bv 5 W 0 AF cF F ∧ S X ∧ S gl ∧ S G ∧ S g ∧ ∀ k, blk AF = some k → S k
theorem TabS.of {W : World} {base X : Nat} {c : Cl} (h : Tab1 W base X c) : TabS W (fun k => base ≤ k ∧ k < W.heap.size) X c := by
  obtain ⟨gl, capl, G, Cap, g, cap, AF, F, cF, hX, hl, hG, hg, hF, hO, hX0⟩ := h
  exact ⟨gl, capl, G, Cap, g, cap, AF, F, cF, hX, OwnT.low hl (Nat.zero_le _), OwnT.low hG (Nat.zero_le _), OwnT.low hg (Nat.zero_le _), hF, World.ownsRow_base hO (Nat.zero_le _), ⟨hX0, (Array.getElem?_eq_some_iff.1 hX).1⟩, hl.lt, hG.lt, hg.lt, fun k hk => hO.lt k hk⟩
theorem TabS.tab {W : World} {S : Nat → Prop} {X : Nat} {c : Cl} (h : TabS W S X c) : Tab1 W 0 X c := by
  obtain ⟨gl, capl, G, Cap, g, cap, AF, F, cF, hX, hl, hG, hg, hF, hO, _⟩ := h
  exact ⟨gl, capl, G, Cap, g, cap, AF, F, cF, hX, hl, hG, hg, hF, hO, Nat.zero_le _⟩
theorem TabS.mono {W : World} {S S2 : Nat → Prop} {X : Nat} {c : Cl} (h : TabS W S X c) (hs : ∀ k, S k → k < W.heap.size → S2 k) : TabS W S2 X c := by
  obtain ⟨gl, capl, G, Cap, g, cap, AF, F, cF, hX, hl, hG, hg, hF, hO, s0, s1, s2, s3, s4⟩ := h
  exact ⟨gl, capl, G, Cap, g, cap, AF, F, cF, hX, hl, hG, hg, hF, hO, hs _ s0 (Array.getElem?_eq_some_iff.1 hX).1, hs _ s1 hl.lt.2, hs _ s2 hG.lt.2, hs _ s3 hg.lt.2, fun k hk => hs k (s4 k hk) (hO.lt k hk).2⟩
theorem TabS.frame {W W' : World} {S : Nat → Prop} {X : Nat} {c : Cl} (h : TabS W S X c) (hb : ∀ k, S k → W'.heap[k]? = W.heap[k]?) : TabS W' S X c := by
  obtain ⟨gl, capl, G, Cap, g, cap, AF, F, cF, hX, hl, hG, hg, hF, hO, s0, s1, s2, s3, s4⟩ := h
  exact ⟨gl, capl, G, Cap, g, cap, AF, F, cF, (hb X s0).trans hX, hl.of_block (hb _ s1), hG.of_block (hb _ s2), hg.of_block (hb _ s3), hF, hO.of_block (fun k hk => hb k (s4 k hk)), s0, s1, s2, s3, s4⟩
def tcells (X : Nat) : List Value := [.pointer (some ⟨X, 0, none⟩)]
theorem tcells_len (X : Nat) : (tcells X).length = 1 := rfl
theorem tcells_one (X : Nat) : ∀ u ∈ tcells X, u.oneCell' = true := by
  intro u hu
  simp only [tcells, List.mem_cons, List.not_mem_nil, or_false] at hu
  rw [hu]; rfl
def lvcells (p : Nat × Nat) : List Value := [.slice (some ⟨p.1, 0, none⟩) 1 p.2]
theorem lvcells_len (p : Nat × Nat) : (lvcells p).length = 1 := rfl
def Tb1 (W : World) (g cap X : Nat) : Prop := OwnT tcells 373 1 W 0 (some ⟨g, 0, none⟩) cap [X]
def Lv1 (W : World) (g cap : Nat) (p : Nat × Nat) : Prop := OwnT lvcells 370 1 W 0 (some ⟨g, 0, none⟩) cap [p]
theorem Tb1.cell {W : World} {g cap X : Nat} (h : Tb1 W g cap X) : W.cell? ⟨g, 0, none⟩ = some (.pointer (some ⟨X, 0, none⟩)) := OwnT.cell h tcells_len 0 0 (by simp) _ rfl
theorem Lv1.cell {W : World} {g cap : Nat} {p : Nat × Nat} (h : Lv1 W g cap p) : W.cell? ⟨g, 0, none⟩ = some (.slice (some ⟨p.1, 0, none⟩) 1 p.2) := OwnT.cell h lvcells_len 0 0 (by simp) _ rfl
theorem Tb1.lt {W : World} {g cap X : Nat} (h : Tb1 W g cap X) : g < W.heap.size := (OwnT.lt h g rfl).2
theorem Lv1.lt {W : World} {g cap : Nat} {p : Nat × Nat} (h : Lv1 W g cap p) : g < W.heap.size := (OwnT.lt h g rfl).2
theorem Tb1.of_block {W W' : World} {g cap X : Nat} (h : Tb1 W g cap X) (hb : W'.heap[g]? = W.heap[g]?) : Tb1 W' g cap X := OwnT.of_block h fun k hk => by
  have : g = k := by simpa [blk] using hk
  rw [← this]; exact hb
theorem Lv1.of_block {W W' : World} {g cap : Nat} {p : Nat × Nat} (h : Lv1 W g cap p) (hb : W'.heap[g]? = W.heap[g]?) : Lv1 W' g cap p := OwnT.of_block h fun k hk => by
  have : g = k := by simpa [blk] using hk
  rw [← this]; exact hb
def TreeM (c : Cl) (W : World) (S : Nat → Prop) (T : Nat) : Prop :=
  ∃ M g cap, W.heap[T]? = some (.cells #[.int .i64 200, .int .i64 100, .int .i64 3, .pointer (some ⟨M, 0, none⟩), .slice none 0 0] 318) ∧ W.heap[M]? = some (.cells #[.slice (some ⟨g, 0, none⟩) 1 cap, .int .i64 ((cellN c).length : Nat)] 355) ∧ One W 0 g cap c ∧ (cellN c).length < 200 ∧ S T ∧ S M ∧ S g
def TreeT (c : Cl) (W : World) (S : Nat → Prop) (T : Nat) : Prop :=
  ∃ M Lv lc Lt tc X, W.heap[T]? = some (.cells #[.int .i64 200, .int .i64 100, .int .i64 3, .pointer (some ⟨M, 0, none⟩), .slice (some ⟨Lv, 0, none⟩) 1 lc] 318) ∧ W.heap[M]? = some (.cells #[.slice none 0 0, .int .i64 0] 355) ∧ Lv1 W Lv lc (Lt, tc) ∧ Tb1 W Lt tc X ∧ TabS W S X c ∧ 200 ≤ (cellN c).length ∧ S T ∧ S M ∧ S Lv ∧ S Lt
theorem TreeM.framed (c : Cl) : Framed (TreeM c) := by
  refine ⟨fun h hs => ?_, fun h hb => ?_⟩
  · obtain ⟨M, g, cap, hT, hM, hg, hl, sT, sM, sg⟩ := h
    exact ⟨M, g, cap, hT, hM, hg, hl, hs _ sT (Array.getElem?_eq_some_iff.1 hT).1, hs _ sM (Array.getElem?_eq_some_iff.1 hM).1, hs _ sg hg.lt.2⟩
  · obtain ⟨M, g, cap, hT, hM, hg, hl, sT, sM, sg⟩ := h
    exact ⟨M, g, cap, (hb _ sT).trans hT, (hb _ sM).trans hM, hg.of_block (hb _ sg), hl, sT, sM, sg⟩
theorem TreeT.framed (c : Cl) : Framed (TreeT c) := by
  refine ⟨fun h hs => ?_, fun h hb => ?_⟩
  · obtain ⟨M, Lv, lc, Lt, tc, X, hT, hM, hv, ht, hX, hl, sT, sM, sv, st⟩ := h
    exact ⟨M, Lv, lc, Lt, tc, X, hT, hM, hv, ht, hX.mono hs, hl, hs _ sT (Array.getElem?_eq_some_iff.1 hT).1, hs _ sM (Array.getElem?_eq_some_iff.1 hM).1, hs _ sv hv.lt, hs _ st ht.lt⟩
  · obtain ⟨M, Lv, lc, Lt, tc, X, hT, hM, hv, ht, hX, hl, sT, sM, sv, st⟩ := h
    exact ⟨M, Lv, lc, Lt, tc, X, (hb _ sT).trans hT, (hb _ sM).trans hM, hv.of_block (hb _ sv), ht.of_block (hb _ st), hX.frame hb, hl, sT, sM, sv, st⟩
def TreeS (c : Cl) (W : World) (S : Nat → Prop) (T : Nat) : Prop := TreeE W S T ∨ TreeM c W S T ∨ TreeT c W S T
theorem TreeS.framed (c : Cl) : Framed (TreeS c) := by
  refine ⟨fun h hs => ?_, fun h hb => ?_⟩
  · rcases h with h | h | h
    · exact .inl (TreeE.framed.mono h hs)
    · exact .inr (.inl ((TreeM.framed c).mono h hs))
    · exact .inr (.inr ((TreeT.framed c).mono h hs))
  · rcases h with h | h | h
    · exact .inl (TreeE.framed.frame h hb)
    · exact .inr (.inl ((TreeM.framed c).frame h hb))
    · exact .inr (.inr ((TreeT.framed c).frame h hb))
theorem has1_m_no (F K I : Nat) (c : Cl) (b0 : Bool) (W : World) (hK : C5 W K c) (hI : W.heap[I]? = some (.cells #[.bool b0] 4)) (HG : ∀ w, Below W.heap.size W w → Calls Tryz.prog 274 #[.pointer (some ⟨F, 0, none⟩), .string c.row, .string c.col, .int .i64 c.at_] w fun e w' => e = .returned (.tuple #[clv cl0, .bool false]) ∧ Below w.heap.size w w') :
    Calls Tryz.prog 263 #[.func (.func 274) #[.pointer (some ⟨F, 0, none⟩)] #[], .pointer (some ⟨K, 0, none⟩), .pointer (some ⟨I, 0, none⟩)] W fun e W' => e = .returned (.bool false) ∧ ∃ w1, Below W.heap.size W w1 ∧ W' = w1.setCell ⟨I, 0, none⟩ (.bool false) := by
  have hKl := hK.lt
  have hIl := (Array.getElem?_eq_some_iff.1 hI).1
  have HK := Lib.hid (fun w (hb : Below W.heap.size W w) => hK.below hb hKl)
  have HI := Lib.hid (fun w (hb : Below W.heap.size W w) => (hb.block I hIl).trans hI)
  have HGx := Lib.hid (HG W (Below.refl _ _))
  obtain ⟨q0, q1, q2, q3, q4⟩ := hK
  clear hI HG
  obtain ⟨r, k, t, v, d⟩ := c
  unfold C5 at HK
  unfold clv clcells cl0 at HGx
  simp only [] at q0 q1 q2 q3 q4 HK HGx
  go_enter Tryz.func263, Tryz.ntmps263
  go_wp2_with fail
  refine HGx.out.mono ?_
  rintro e w1 ⟨rfl, hb1⟩
  clear q0 q1 q2 q3 q4
  go_upto_region 2 with (fail)
  generalize hw2 : World.alloc w1 _ = w2
  have hN := named_new hw2.symm
  have hb2 := named_below hw2.symm
  clear hw2
  have hB2 := below_next hb1 hb2
  have hI2 := HI.out w2 hB2
  have i0 : w2.cell? ⟨I, 0, none⟩ = some (.bool b0) := cob hI2 0 rfl
  have hfr : ∀ j, w2.frozen? ⟨I, j, none⟩ = false := fun j => by simp [World.frozen?, hI2]
  clear hN hI2
  go_wp2
  go_ret
  exact ⟨rfl, w2, hB2, rfl⟩
theorem has1_m_yes (F K I : Nat) (c : Cl) (y : Cl) (hy : y.at_ = c.at_) (b0 : Bool) (W : World) (hK : C5 W K c) (hI : W.heap[I]? = some (.cells #[.bool b0] 4)) (HG : ∀ w, Below W.heap.size W w → Calls Tryz.prog 274 #[.pointer (some ⟨F, 0, none⟩), .string c.row, .string c.col, .int .i64 c.at_] w fun e w' => e = .returned (.tuple #[clv y, .bool true]) ∧ Below w.heap.size w w') :
    Calls Tryz.prog 263 #[.func (.func 274) #[.pointer (some ⟨F, 0, none⟩)] #[], .pointer (some ⟨K, 0, none⟩), .pointer (some ⟨I, 0, none⟩)] W fun e W' => e = .returned (.bool true) ∧ ∃ w1, Below W.heap.size W w1 ∧ W' = w1.setCell ⟨I, 0, none⟩ (.bool true) := by
  have hKl := hK.lt
  have hIl := (Array.getElem?_eq_some_iff.1 hI).1
  have HK := Lib.hid (fun w (hb : Below W.heap.size W w) => hK.below hb hKl)
  have HI := Lib.hid (fun w (hb : Below W.heap.size W w) => (hb.block I hIl).trans hI)
  have HGx := Lib.hid (HG W (Below.refl _ _))
  obtain ⟨q0, q1, q2, q3, q4⟩ := hK
  clear hI HG
  obtain ⟨r, k, t, v, d⟩ := c
  obtain ⟨yr, yk, yt, yv, yd⟩ := y
  simp only at hy
  subst hy
  unfold C5 at HK
  unfold clv clcells at HGx
  simp only [] at q0 q1 q2 q3 q4 HK HGx
  go_enter Tryz.func263, Tryz.ntmps263
  go_wp2_with fail
  refine HGx.out.mono ?_
  rintro e w1 ⟨rfl, hb1⟩
  clear q0 q1 q2 q3 q4
  go_upto_region 2 with (fail)
  generalize hw2 : World.alloc w1 _ = w2
  have hN := named_new hw2.symm
  have hb2 := named_below hw2.symm
  clear hw2
  have hB2 := below_next hb1 hb2
  have hI2 := HI.out w2 hB2
  have i0 : w2.cell? ⟨I, 0, none⟩ = some (.bool b0) := cob hI2 0 rfl
  have hfr : ∀ j, w2.frozen? ⟨I, j, none⟩ = false := fun j => by simp [World.frozen?, hI2]
  have n2 : w2.cell? ⟨w1.heap.size, 2, none⟩ = some (.int .i64 yt) := cob hN 2 rfl
  obtain ⟨_, _, q2, _, _⟩ := HK.out w2 hB2
  have htt : (yt == yt) = true := by simp
  clear hN hI2
  go_wp2
  go_ret
  exact ⟨rfl, w2, hB2, rfl⟩
theorem has1_t_yes (F K I : Nat) (c : Cl) (y : Cl) (hy : y.at_ = c.at_) (b0 : Bool) (W : World) (hK : C5 W K c) (hI : W.heap[I]? = some (.cells #[.bool b0] 4)) (HG : ∀ w, Below W.heap.size W w → Calls Tryz.prog 275 #[.pointer (some ⟨F, 0, none⟩), .string c.row, .string c.col, .int .i64 c.at_] w fun e w' => e = .returned (.tuple #[clv y, .bool true]) ∧ Below w.heap.size w w') :
    Calls Tryz.prog 263 #[.func (.func 275) #[.pointer (some ⟨F, 0, none⟩)] #[], .pointer (some ⟨K, 0, none⟩), .pointer (some ⟨I, 0, none⟩)] W fun e W' => e = .returned (.bool true) ∧ ∃ w1, Below W.heap.size W w1 ∧ W' = w1.setCell ⟨I, 0, none⟩ (.bool true) := by
  have hKl := hK.lt
  have hIl := (Array.getElem?_eq_some_iff.1 hI).1
  have HK := Lib.hid (fun w (hb : Below W.heap.size W w) => hK.below hb hKl)
  have HI := Lib.hid (fun w (hb : Below W.heap.size W w) => (hb.block I hIl).trans hI)
  have HGx := Lib.hid (HG W (Below.refl _ _))
  obtain ⟨q0, q1, q2, q3, q4⟩ := hK
  clear hI HG
  obtain ⟨r, k, t, v, d⟩ := c
  obtain ⟨yr, yk, yt, yv, yd⟩ := y
  simp only at hy
  subst hy
  unfold C5 at HK
  unfold clv clcells at HGx
  simp only [] at q0 q1 q2 q3 q4 HK HGx
  go_enter Tryz.func263, Tryz.ntmps263
  go_wp2_with fail
  refine HGx.out.mono ?_
  rintro e w1 ⟨rfl, hb1⟩
  clear q0 q1 q2 q3 q4
  go_upto_region 2 with (fail)
  generalize hw2 : World.alloc w1 _ = w2
  have hN := named_new hw2.symm
  have hb2 := named_below hw2.symm
  clear hw2
  have hB2 := below_next hb1 hb2
  have hI2 := HI.out w2 hB2
  have i0 : w2.cell? ⟨I, 0, none⟩ = some (.bool b0) := cob hI2 0 rfl
  have hfr : ∀ j, w2.frozen? ⟨I, j, none⟩ = false := fun j => by simp [World.frozen?, hI2]
  have n2 : w2.cell? ⟨w1.heap.size, 2, none⟩ = some (.int .i64 yt) := cob hN 2 rfl
  obtain ⟨_, _, q2, _, _⟩ := HK.out w2 hB2
  have htt : (yt == yt) = true := by simp
  clear hN hI2
  go_wp2
  go_ret
  exact ⟨rfl, w2, hB2, rfl⟩
theorem get1_m_no (F R C A B : Nat) (r k : ByteArray) (t : Int) (h0 : 0 ≤ t) (W : World) (hR : W.cell? ⟨R, 0, none⟩ = some (.string r)) (hC : W.cell? ⟨C, 0, none⟩ = some (.string k)) (hA : W.cell? ⟨A, 0, none⟩ = some (.int .i64 t)) (hB : W.cell? ⟨B, 2, none⟩ = some (.int .i64 (-1))) (HG : ∀ w, Below W.heap.size W w → Calls Tryz.prog 274 #[.pointer (some ⟨F, 0, none⟩), .string r, .string k, .int .i64 t] w fun e w' => e = .returned (.tuple #[clv cl0, .bool false]) ∧ Below w.heap.size w w') :
    Calls Tryz.prog 241 #[.func (.func 274) #[.pointer (some ⟨F, 0, none⟩)] #[], .pointer (some ⟨R, 0, none⟩), .pointer (some ⟨C, 0, none⟩), .pointer (some ⟨A, 0, none⟩), .pointer (some ⟨B, 0, none⟩)] W fun e W' => e = .returned (.bool false) ∧ Below W.heap.size W W' := by
  have hAl := lt_of_cell hA
  have hBl := lt_of_cell hB
  have HA := Lib.hid (fun w (hb : Below W.heap.size W w) => (hb.cell (p := ⟨A, 0, none⟩) hAl).trans hA)
  have HB := Lib.hid (fun w (hb : Below W.heap.size W w) => (hb.cell (p := ⟨B, 2, none⟩) hBl).trans hB)
  have HGx := Lib.hid (HG W (Below.refl _ _))
  clear HG hB
  unfold clv clcells cl0 at HGx
  simp only [] at HGx
  have hm : ((-1 : Int) == min t 4294967295) = false := by rw [beq_eq_false_iff_ne]; omega
  have hm2 : ((-1 : Int) == min 4294967295 t) = false := by rw [beq_eq_false_iff_ne]; omega
  go_enter Tryz.func241, Tryz.ntmps241
  go_wp2_with fail
  refine HGx.out.mono ?_
  rintro e w1 ⟨rfl, hb1⟩
  clear hR hC hA
  go_upto_region 2 with (fail)
  generalize hw2 : World.alloc w1 _ = w2
  have hb2 := named_below hw2.symm
  clear hw2
  have hB2 := below_next hb1 hb2
  have a0 := HA.out w2 hB2
  have b0 := HB.out w2 hB2
  go_wp2
  go_ret
  first | exact ⟨rfl, hB2⟩ | exact ⟨by simp; omega, hB2⟩
end Go.Proofs.YtoigogjmhkpdlaaGreat
