/- A part of the proof of WholeFew: the texts TreeC, TreeD, MemA. -/
import Derived.Test.YtoigogjmhkpdlaaGreatJ22
import Derived.Test.YtoigogjmhkpdlaaGreatJ28
set_option maxHeartbeats 6400000
set_option maxRecDepth 100000
namespace Go.Proofs.YtoigogjmhkpdlaaGreat
open Go.RowKit
def best0 : List Value := [.string { data := #[] }, .string { data := #[] }, .int .i64 (-1), .string { data := #[] }, .bool true]
theorem get1_m_yes (F R C A B : Nat) (y : Cl) (h0 : 0 ≤ y.at_) (h1 : y.at_ ≤ 4294967295) (W : World) (hR : W.cell? ⟨R, 0, none⟩ = some (.string y.row)) (hC : W.cell? ⟨C, 0, none⟩ = some (.string y.col)) (hA : W.cell? ⟨A, 0, none⟩ = some (.int .i64 y.at_)) (hAB : A ≠ B) (hB : W.heap[B]? = some (.cells best0.toArray 93)) (HG : ∀ w, Below W.heap.size W w → Calls Tryz.prog 274 #[.pointer (some ⟨F, 0, none⟩), .string y.row, .string y.col, .int .i64 y.at_] w fun e w' => e = .returned (.tuple #[clv y, .bool true]) ∧ Below w.heap.size w w') :
    Calls Tryz.prog 241 #[.func (.func 274) #[.pointer (some ⟨F, 0, none⟩)] #[], .pointer (some ⟨R, 0, none⟩), .pointer (some ⟨C, 0, none⟩), .pointer (some ⟨A, 0, none⟩), .pointer (some ⟨B, 0, none⟩)] W fun e W' => e = .returned (.bool true) ∧ W'.heap[B]? = some (.cells (clcells y).toArray 93) ∧ Turned (fun k => k = B) W W' := by
  have hAl := lt_of_cell hA
  have hBl := (Array.getElem?_eq_some_iff.1 hB).1
  have HA := Lib.hid (fun w (hb : Below W.heap.size W w) => (hb.cell (p := ⟨A, 0, none⟩) hAl).trans hA)
  have HB := Lib.hid (fun w (hb : Below W.heap.size W w) => (hb.block B hBl).trans hB)
  have HGx := Lib.hid (HG W (Below.refl _ _))
  clear HG hB
  obtain ⟨r, k, t, v, d⟩ := y
  unfold clv clcells at HGx
  unfold clcells
  unfold best0 at HB
  simp only [] at HGx HB hR hC hA h0 h1 HA ⊢
  have hm : (t == min t 4294967295) = true := by rw [beq_iff_eq]; omega
  have hm2 : (t == min 4294967295 t) = true := by rw [beq_iff_eq]; omega
  have hd : decide ((-1 : Int) < t) = true := by simp; omega
  go_enter Tryz.func241, Tryz.ntmps241
  go_wp2_with fail
  refine HGx.out.mono ?_
  rintro e w1 ⟨rfl, hb1⟩
  clear hR hC hA
  go_upto_region 2 with (fail)
  generalize hw2 : World.alloc w1 _ = w2
  have hN := named_new hw2.symm
  have hb2 := named_below hw2.symm
  clear hw2
  have hB2 := below_next hb1 hb2
  have hBB := HB.out w2 hB2
  have d0 : w2.cell? ⟨B, 0, none⟩ = some (.string { data := #[] }) := cob hBB 0 rfl
  have d1 : w2.cell? ⟨B, 1, none⟩ = some (.string { data := #[] }) := cob hBB 1 rfl
  have d2 : w2.cell? ⟨B, 2, none⟩ = some (.int .i64 (-1)) := cob hBB 2 rfl
  have d3 : w2.cell? ⟨B, 3, none⟩ = some (.string { data := #[] }) := cob hBB 3 rfl
  have d4 : w2.cell? ⟨B, 4, none⟩ = some (.bool true) := cob hBB 4 rfl
  have e0 : w2.cell? ⟨w1.heap.size, 0, none⟩ = some (.string r) := cob hN 0 rfl
  have e1 : w2.cell? ⟨w1.heap.size, 1, none⟩ = some (.string k) := cob hN 1 rfl
  have e2 : w2.cell? ⟨w1.heap.size, 2, none⟩ = some (.int .i64 t) := cob hN 2 rfl
  have e3 : w2.cell? ⟨w1.heap.size, 3, none⟩ = some (.string v) := cob hN 3 rfl
  have e4 : w2.cell? ⟨w1.heap.size, 4, none⟩ = some (.bool d) := cob hN 4 rfl
  have hfr : ∀ j, w2.frozen? ⟨B, j, none⟩ = false := fun j => by simp [World.frozen?, hBB]
  have HBB := Lib.hid hBB
  clear hN hBB
  go_upto_region 4 with (fail)
  obtain ⟨hf9, hgr, hz9⟩ := cl_store w2 B _ HBB.out rfl (r) (k) (t) (v) (d)
  generalize World.setCell _ ⟨B, 4, none⟩ _ = w9 at hf9 hgr hz9 ⊢
  have b2 : w9.cell? ⟨B, 2, none⟩ = some (.int .i64 t) := cob hf9 2 rfl
  have a0 : w9.cell? ⟨A, 0, none⟩ = some (.int .i64 t) := (World.cell?_of_block (hgr.block A (by have := hB2.size; show A < _; omega) (fun e => hAB (Option.some.inj e)))).trans (HA.out w2 hB2)
  have HF := Lib.hid hf9
  have HT := Lib.hid (show Turned (fun k => k = B) W w9 from (Turned.of_below hB2).grown hgr (fun k hk => .inl (by injection hk with hk; exact hk.symm)))
  clear d0 d1 d2 d3 d4 e0 e1 e2 e3 e4 hfr hf9 hgr hz9 hd
  go_wp2
  go_ret
  first | exact ⟨rfl, HF.out, HT.out⟩ | exact ⟨by simp; omega, HF.out, HT.out⟩
theorem get1_t_yes (F R C A B : Nat) (y : Cl) (h0 : 0 ≤ y.at_) (h1 : y.at_ ≤ 4294967295) (W : World) (hR : W.cell? ⟨R, 0, none⟩ = some (.string y.row)) (hC : W.cell? ⟨C, 0, none⟩ = some (.string y.col)) (hA : W.cell? ⟨A, 0, none⟩ = some (.int .i64 y.at_)) (hAB : A ≠ B) (hB : W.heap[B]? = some (.cells best0.toArray 93)) (HG : ∀ w, Below W.heap.size W w → Calls Tryz.prog 275 #[.pointer (some ⟨F, 0, none⟩), .string y.row, .string y.col, .int .i64 y.at_] w fun e w' => e = .returned (.tuple #[clv y, .bool true]) ∧ Below w.heap.size w w') :
    Calls Tryz.prog 241 #[.func (.func 275) #[.pointer (some ⟨F, 0, none⟩)] #[], .pointer (some ⟨R, 0, none⟩), .pointer (some ⟨C, 0, none⟩), .pointer (some ⟨A, 0, none⟩), .pointer (some ⟨B, 0, none⟩)] W fun e W' => e = .returned (.bool true) ∧ W'.heap[B]? = some (.cells (clcells y).toArray 93) ∧ Turned (fun k => k = B) W W' := by
  have hAl := lt_of_cell hA
  have hBl := (Array.getElem?_eq_some_iff.1 hB).1
  have HA := Lib.hid (fun w (hb : Below W.heap.size W w) => (hb.cell (p := ⟨A, 0, none⟩) hAl).trans hA)
  have HB := Lib.hid (fun w (hb : Below W.heap.size W w) => (hb.block B hBl).trans hB)
  have HGx := Lib.hid (HG W (Below.refl _ _))
  clear HG hB
  obtain ⟨r, k, t, v, d⟩ := y
  unfold clv clcells at HGx
  unfold clcells
  unfold best0 at HB
  simp only [] at HGx HB hR hC hA h0 h1 HA ⊢
  have hm : (t == min t 4294967295) = true := by rw [beq_iff_eq]; omega
  have hm2 : (t == min 4294967295 t) = true := by rw [beq_iff_eq]; omega
  have hd : decide ((-1 : Int) < t) = true := by simp; omega
  go_enter Tryz.func241, Tryz.ntmps241
  go_wp2_with fail
  refine HGx.out.mono ?_
  rintro e w1 ⟨rfl, hb1⟩
  clear hR hC hA
  go_upto_region 2 with (fail)
  generalize hw2 : World.alloc w1 _ = w2
  have hN := named_new hw2.symm
  have hb2 := named_below hw2.symm
  clear hw2
  have hB2 := below_next hb1 hb2
  have hBB := HB.out w2 hB2
  have d0 : w2.cell? ⟨B, 0, none⟩ = some (.string { data := #[] }) := cob hBB 0 rfl
  have d1 : w2.cell? ⟨B, 1, none⟩ = some (.string { data := #[] }) := cob hBB 1 rfl
  have d2 : w2.cell? ⟨B, 2, none⟩ = some (.int .i64 (-1)) := cob hBB 2 rfl
  have d3 : w2.cell? ⟨B, 3, none⟩ = some (.string { data := #[] }) := cob hBB 3 rfl
  have d4 : w2.cell? ⟨B, 4, none⟩ = some (.bool true) := cob hBB 4 rfl
  have e0 : w2.cell? ⟨w1.heap.size, 0, none⟩ = some (.string r) := cob hN 0 rfl
  have e1 : w2.cell? ⟨w1.heap.size, 1, none⟩ = some (.string k) := cob hN 1 rfl
  have e2 : w2.cell? ⟨w1.heap.size, 2, none⟩ = some (.int .i64 t) := cob hN 2 rfl
  have e3 : w2.cell? ⟨w1.heap.size, 3, none⟩ = some (.string v) := cob hN 3 rfl
  have e4 : w2.cell? ⟨w1.heap.size, 4, none⟩ = some (.bool d) := cob hN 4 rfl
  have hfr : ∀ j, w2.frozen? ⟨B, j, none⟩ = false := fun j => by simp [World.frozen?, hBB]
  have HBB := Lib.hid hBB
  clear hN hBB
  go_upto_region 4 with (fail)
  obtain ⟨hf9, hgr, hz9⟩ := cl_store w2 B _ HBB.out rfl (r) (k) (t) (v) (d)
  generalize World.setCell _ ⟨B, 4, none⟩ _ = w9 at hf9 hgr hz9 ⊢
  have b2 : w9.cell? ⟨B, 2, none⟩ = some (.int .i64 t) := cob hf9 2 rfl
  have a0 : w9.cell? ⟨A, 0, none⟩ = some (.int .i64 t) := (World.cell?_of_block (hgr.block A (by have := hB2.size; show A < _; omega) (fun e => hAB (Option.some.inj e)))).trans (HA.out w2 hB2)
  have HF := Lib.hid hf9
  have HT := Lib.hid (show Turned (fun k => k = B) W w9 from (Turned.of_below hB2).grown hgr (fun k hk => .inl (by injection hk with hk; exact hk.symm)))
  clear d0 d1 d2 d3 d4 e0 e1 e2 e3 e4 hfr hf9 hgr hz9 hd
  go_wp2
  go_ret
  first | exact ⟨rfl, HF.out, HT.out⟩ | exact ⟨by simp; omega, HF.out, HT.out⟩
theorem find_has_e (T K I : Nat) (c : Cl) (b0 : Bool) (S : Nat → Prop) (W : World) (h : TreeE W S T) (hS : ∀ k, S k → k < K) (hKI : K < I) (hK : C5 W K c) (hI : W.heap[I]? = some (.cells #[.bool b0] 4)) :
    Calls Tryz.prog 240 #[.pointer (some ⟨T, 0, none⟩), .func (.func 263) #[] #[.pointer (some ⟨K, 0, none⟩), .pointer (some ⟨I, 0, none⟩)]] W fun e W' => e = .returned (.tuple #[]) ∧ W'.heap[I]? = some (.cells #[.bool false] 4) ∧ Turned (fun k => k = I) W W' := by
  have hmf : ∀ (fn : Fn) (first cap : Array Value) (w : World), (Instr.makeFunc fn first cap).run Tryz.prog w = .ok (.func fn first cap) w := fun _ _ _ _ => rfl
  obtain ⟨M, hT, hM, sT, sM⟩ := h
  have hMl := (Array.getElem?_eq_some_iff.1 hM).1
  have hTl := (Array.getElem?_eq_some_iff.1 hT).1
  have hTK := hS T sT
  have HM := Lib.hid (show ∀ w, Below W.heap.size W w → Calls Tryz.prog 274 #[.pointer (some ⟨M, 0, none⟩), .string c.row, .string c.col, .int .i64 c.at_] w fun e w' => e = .returned (.tuple #[clv cl0, .bool false]) ∧ Below w.heap.size w w' from fun w hb => mget_none M _ c.row c.col c.at_ w ((hb.block M hMl).trans hM))
  have HT4 := Lib.hid (fun (w : World) (hw : w.heap[T]? = W.heap[T]?) => cob (hw.trans hT) 4 (v := .slice none 0 0) rfl)
  have t3 : W.cell? ⟨T, 3, none⟩ = some (.pointer (some ⟨M, 0, none⟩)) := cob hT 3 rfl
  have HA1 := Lib.hid (has1_m_no M K I c b0 W hK hI HM.out)
  have HS := Lib.hid hS
  have HK := Lib.hid hK
  have HI := Lib.hid hI
  have hIl := (Array.getElem?_eq_some_iff.1 hI).1
  clear hK hI hT hM hS
  go_enter Tryz.func240, Tryz.ntmps240
  go_wp2_with fail
  refine HA1.out.mono ?_
  rintro e w1 ⟨rfl, w0, hb0, rfl⟩
  have hI0 := heap_setCell_same w0 I 0 _ _ (.bool false) ((hb0.block I hIl).trans HI.out)
  have hT0 : Turned (fun k => k = I) W (w0.setCell ⟨I, 0, none⟩ (.bool false)) := (Turned.of_below (S := fun k => k = I) hb0).setCell (p := ⟨I, 0, none⟩) (.inl rfl) _
  generalize World.setCell w0 ⟨I, 0, none⟩ _ = w1 at hI0 hT0 ⊢
  have hs1 : ∀ k, S k → w1.heap[k]? = W.heap[k]? := fun k hk => hT0.block k (by have := HS.out k hk; omega) (by have := HS.out k hk; omega)
  have t4 := HT4.out w1 (hs1 T sT)
  clear t3
  go_wp2
  refine wp_loop_rounds 1 ?_
  rw [rounds_succ]
  go_wp2
  go_end0
  exact ⟨rfl, hI0, hT0⟩
theorem find_has_m (T K I : Nat) (c : Cl) (c2 : Cl) (hk : SameKey c2 c) (b0 : Bool) (S : Nat → Prop) (W : World) (h : TreeM c2 W S T) (hS : ∀ k, S k → k < K) (hK : C5 W K c) (hI : W.heap[I]? = some (.cells #[.bool b0] 4)) :
    Calls Tryz.prog 240 #[.pointer (some ⟨T, 0, none⟩), .func (.func 263) #[] #[.pointer (some ⟨K, 0, none⟩), .pointer (some ⟨I, 0, none⟩)]] W fun e W' => e = .returned (.tuple #[]) ∧ W'.heap[I]? = some (.cells #[.bool true] 4) ∧ Turned (fun k => k = I) W W' := by
  have hmf : ∀ (fn : Fn) (first cap : Array Value) (w : World), (Instr.makeFunc fn first cap).run Tryz.prog w = .ok (.func fn first cap) w := fun _ _ _ _ => rfl
  obtain ⟨M, g, cap, hT, hM, hg, _, sT, sM, sg⟩ := h
  obtain ⟨hk1, hk2, hk3⟩ := hk
  have hMl := (Array.getElem?_eq_some_iff.1 hM).1
  have hTl := (Array.getElem?_eq_some_iff.1 hT).1
  have hTK := hS T sT
  have HM := Lib.hid (show ∀ w, Below W.heap.size W w → Calls Tryz.prog 274 #[.pointer (some ⟨M, 0, none⟩), .string c.row, .string c.col, .int .i64 c.at_] w fun e w' => e = .returned (.tuple #[clv c2, .bool true]) ∧ Below w.heap.size w w' from fun w hb => by rw [← hk1, ← hk2, ← hk3]; exact mget_one M g cap _ c2 w ((hb.block M hMl).trans hM) (hg.c5.below hb hg.lt.2))
  have HT4 := Lib.hid (fun (w : World) (hw : w.heap[T]? = W.heap[T]?) => cob (hw.trans hT) 4 (v := .slice none 0 0) rfl)
  have t3 : W.cell? ⟨T, 3, none⟩ = some (.pointer (some ⟨M, 0, none⟩)) := cob hT 3 rfl
  have HA1 := Lib.hid (has1_m_yes M K I c c2 hk3 b0 W hK hI HM.out)
  have HS := Lib.hid hS
  have HK := Lib.hid hK
  have HI := Lib.hid hI
  have hIl := (Array.getElem?_eq_some_iff.1 hI).1
  clear hK hI hT hM hS
  go_enter Tryz.func240, Tryz.ntmps240
  go_wp2_with fail
  refine HA1.out.mono ?_
  rintro e w1 ⟨rfl, w0, hb0, rfl⟩
  have hI0 := heap_setCell_same w0 I 0 _ _ (.bool true) ((hb0.block I hIl).trans HI.out)
  have hT0 : Turned (fun k => k = I) W (w0.setCell ⟨I, 0, none⟩ (.bool true)) := (Turned.of_below (S := fun k => k = I) hb0).setCell (p := ⟨I, 0, none⟩) (.inl rfl) _
  generalize World.setCell w0 ⟨I, 0, none⟩ _ = w1 at hI0 hT0 ⊢
  clear t3
  go_wp2
  refine bodyPost_ret (results_none rfl _ _ _) rfl ?_
  exact ⟨rfl, hI0, hT0⟩
theorem find_has_t (T K I : Nat) (c : Cl) (c2 : Cl) (hok : ClOk c2) (hk : SameKey c2 c) (b0 : Bool) (S : Nat → Prop) (W : World) (h : TreeT c2 W S T) (hS : ∀ k, S k → k < K) (hKI : K < I) (hK : C5 W K c) (hI : W.heap[I]? = some (.cells #[.bool b0] 4)) :
    Calls Tryz.prog 240 #[.pointer (some ⟨T, 0, none⟩), .func (.func 263) #[] #[.pointer (some ⟨K, 0, none⟩), .pointer (some ⟨I, 0, none⟩)]] W fun e W' => e = .returned (.tuple #[]) ∧ W'.heap[I]? = some (.cells #[.bool true] 4) ∧ Turned (fun k => k = I) W W' := by
  have hmf : ∀ (fn : Fn) (first cap : Array Value) (w : World), (Instr.makeFunc fn first cap).run Tryz.prog w = .ok (.func fn first cap) w := fun _ _ _ _ => rfl
  obtain ⟨M, Lv, lc, Lt, tc, X, hT, hM, hv, ht, hX, _, sT, sM, sv, st⟩ := h
  obtain ⟨hk1, hk2, hk3⟩ := hk
  have hMl := (Array.getElem?_eq_some_iff.1 hM).1
  have hTl := (Array.getElem?_eq_some_iff.1 hT).1
  have hTK := hS T sT
  have HM := Lib.hid (show ∀ w, Below W.heap.size W w → Calls Tryz.prog 274 #[.pointer (some ⟨M, 0, none⟩), .string c.row, .string c.col, .int .i64 c.at_] w fun e w' => e = .returned (.tuple #[clv cl0, .bool false]) ∧ Below w.heap.size w w' from fun w hb => mget_none M _ c.row c.col c.at_ w ((hb.block M hMl).trans hM))
  have HX := Lib.hid (show ∀ w, (∀ k, S k → w.heap[k]? = W.heap[k]?) → Calls Tryz.prog 275 #[.pointer (some ⟨X, 0, none⟩), .string c.row, .string c.col, .int .i64 c.at_] w fun e w' => e = .returned (.tuple #[clv c2, .bool true]) ∧ Below w.heap.size w w' from fun w hw => by rw [← hk1, ← hk2, ← hk3]; exact tget_same 0 X c2 hok w (hX.frame hw).tab)
  have HV := Lib.hid (fun (w : World) (hw : ∀ k, S k → w.heap[k]? = W.heap[k]?) => (hv.of_block (hw Lv sv)).cell)
  have HTb := Lib.hid (fun (w : World) (hw : ∀ k, S k → w.heap[k]? = W.heap[k]?) => (ht.of_block (hw Lt st)).cell)
  have HT4 := Lib.hid (fun (w : World) (hw : w.heap[T]? = W.heap[T]?) => cob (hw.trans hT) 4 (v := .slice (some ⟨Lv, 0, none⟩) 1 lc) rfl)
  have t3 : W.cell? ⟨T, 3, none⟩ = some (.pointer (some ⟨M, 0, none⟩)) := cob hT 3 rfl
  have HA1 := Lib.hid (has1_m_no M K I c b0 W hK hI HM.out)
  have HA2 := Lib.hid (fun (w : World) (hw : ∀ k, S k → w.heap[k]? = W.heap[k]?) (hKw : C5 w K c) (hIw : w.heap[I]? = some (.cells #[.bool false] 4)) (hl : ∀ k, S k → k < w.heap.size) => has1_t_yes X K I c c2 hk3 false w hKw hIw (fun w' hb => HX.out w' (fun k hk => (hb.block k (hl k hk)).trans (hw k hk))))
  have HS := Lib.hid hS
  have HK := Lib.hid hK
  have HI := Lib.hid hI
  have hIl := (Array.getElem?_eq_some_iff.1 hI).1
  clear hK hI hT hM hS
  clear hX hv ht
  go_enter Tryz.func240, Tryz.ntmps240
  go_wp2_with fail
  refine HA1.out.mono ?_
  rintro e w1 ⟨rfl, w0, hb0, rfl⟩
  have hI0 := heap_setCell_same w0 I 0 _ _ (.bool false) ((hb0.block I hIl).trans HI.out)
  have hT0 : Turned (fun k => k = I) W (w0.setCell ⟨I, 0, none⟩ (.bool false)) := (Turned.of_below (S := fun k => k = I) hb0).setCell (p := ⟨I, 0, none⟩) (.inl rfl) _
  generalize World.setCell w0 ⟨I, 0, none⟩ _ = w1 at hI0 hT0 ⊢
  have hs1 : ∀ k, S k → w1.heap[k]? = W.heap[k]? := fun k hk => hT0.block k (by have := HS.out k hk; omega) (by have := HS.out k hk; omega)
  have t4 := HT4.out w1 (hs1 T sT)
  have v0 := HV.out w1 hs1
  have x0 := HTb.out w1 hs1
  have hK1 : C5 w1 K c := HK.out.of_block (hT0.block K HK.out.lt (by omega))
  have HA2x := Lib.hid (HA2.out w1 hs1 hK1 hI0 (fun k hk => by have := HS.out k hk; have := hT0.size; omega))
  have HI0 := Lib.hid hI0
  have hI1l := (Array.getElem?_eq_some_iff.1 hI0).1
  clear t3 hs1 hK1 hI0
  go_wp2
  refine wp_loop_rounds 1 ?_
  rw [rounds_succ]
  go_wp2
  refine wp_loop_rounds 1 ?_
  rw [rounds_succ]
  go_wp2_with fail
  refine HA2x.out.mono ?_
  rintro e w3 ⟨rfl, w2, hb2, rfl⟩
  have hI3 := heap_setCell_same w2 I 0 _ _ (.bool true) ((hb2.block I hI1l).trans HI0.out)
  have hT3 : Turned (fun k => k = I) W (w2.setCell ⟨I, 0, none⟩ (.bool true)) := (hT0.below hb2 hT0.size).setCell (p := ⟨I, 0, none⟩) (.inl rfl) _
  generalize World.setCell w2 ⟨I, 0, none⟩ _ = w4 at hI3 hT3 ⊢
  clear t4 v0 x0
  go_wp2
  refine bodyPost_ret (results_none rfl _ _ _) rfl ?_
  exact ⟨rfl, hI3, hT3⟩
theorem find_get_e (T R C A B : Nat) (c : Cl) (h0 : 0 ≤ c.at_) (S : Nat → Prop) (W : World) (h : TreeE W S T) (hS : ∀ k, S k → k < A) (hR : W.cell? ⟨R, 0, none⟩ = some (.string c.row)) (hC : W.cell? ⟨C, 0, none⟩ = some (.string c.col)) (hA : W.cell? ⟨A, 0, none⟩ = some (.int .i64 c.at_)) (hB : W.heap[B]? = some (.cells best0.toArray 93)) :
    Calls Tryz.prog 240 #[.pointer (some ⟨T, 0, none⟩), .func (.func 241) #[] #[.pointer (some ⟨R, 0, none⟩), .pointer (some ⟨C, 0, none⟩), .pointer (some ⟨A, 0, none⟩), .pointer (some ⟨B, 0, none⟩)]] W fun e W' => e = .returned (.tuple #[]) ∧ W'.heap[B]? = some (.cells best0.toArray 93) ∧ Turned (fun k => k = B) W W' := by
  have hmf : ∀ (fn : Fn) (first cap : Array Value) (w : World), (Instr.makeFunc fn first cap).run Tryz.prog w = .ok (.func fn first cap) w := fun _ _ _ _ => rfl
  obtain ⟨M, hT, hM, sT, sM⟩ := h
  have hMl := (Array.getElem?_eq_some_iff.1 hM).1
  have hTl := (Array.getElem?_eq_some_iff.1 hT).1
  have hTK := hS T sT
  have HM := Lib.hid (show ∀ w, Below W.heap.size W w → Calls Tryz.prog 274 #[.pointer (some ⟨M, 0, none⟩), .string c.row, .string c.col, .int .i64 c.at_] w fun e w' => e = .returned (.tuple #[clv cl0, .bool false]) ∧ Below w.heap.size w w' from fun w hb => mget_none M _ c.row c.col c.at_ w ((hb.block M hMl).trans hM))
  have HT4 := Lib.hid (fun (w : World) (hw : w.heap[T]? = W.heap[T]?) => cob (hw.trans hT) 4 (v := .slice none 0 0) rfl)
  have t3 : W.cell? ⟨T, 3, none⟩ = some (.pointer (some ⟨M, 0, none⟩)) := cob hT 3 rfl
  have HA1 := Lib.hid (get1_m_no M R C A B c.row c.col c.at_ h0 W hR hC hA (cob hB 2 rfl) HM.out)
  have HS := Lib.hid hS
  have HB := Lib.hid hB
  clear hR hC hA hB hT hM hS
  go_enter Tryz.func240, Tryz.ntmps240
  go_wp2_with fail
  refine HA1.out.mono ?_
  rintro e w1 ⟨rfl, hb1⟩
  have t4 := HT4.out w1 (hb1.block T hTl)
  have hBl := (Array.getElem?_eq_some_iff.1 HB.out).1
  clear t3
  go_wp2
  refine wp_loop_rounds 1 ?_
  rw [rounds_succ]
  go_wp2
  go_end0
  exact ⟨rfl, (hb1.block B hBl).trans HB.out, Turned.of_below hb1⟩
theorem find_get_m (T R C A B : Nat) (c : Cl) (h0 : 0 ≤ c.at_) (h1 : c.at_ ≤ 4294967295) (c2 : Cl) (hk : SameKey c2 c) (S : Nat → Prop) (W : World) (h : TreeM c2 W S T) (hS : ∀ k, S k → k < A) (hAB : A < B) (hR : W.cell? ⟨R, 0, none⟩ = some (.string c.row)) (hC : W.cell? ⟨C, 0, none⟩ = some (.string c.col)) (hA : W.cell? ⟨A, 0, none⟩ = some (.int .i64 c.at_)) (hB : W.heap[B]? = some (.cells best0.toArray 93)) :
    Calls Tryz.prog 240 #[.pointer (some ⟨T, 0, none⟩), .func (.func 241) #[] #[.pointer (some ⟨R, 0, none⟩), .pointer (some ⟨C, 0, none⟩), .pointer (some ⟨A, 0, none⟩), .pointer (some ⟨B, 0, none⟩)]] W fun e W' => e = .returned (.tuple #[]) ∧ (∃ y : Cl, W'.heap[B]? = some (.cells (clcells y).toArray 93)) ∧ Turned (fun k => k = B) W W' := by
  have hmf : ∀ (fn : Fn) (first cap : Array Value) (w : World), (Instr.makeFunc fn first cap).run Tryz.prog w = .ok (.func fn first cap) w := fun _ _ _ _ => rfl
  obtain ⟨M, g, cap, hT, hM, hg, _, sT, sM, sg⟩ := h
  obtain ⟨hk1, hk2, hk3⟩ := hk
  have hMl := (Array.getElem?_eq_some_iff.1 hM).1
  have hTl := (Array.getElem?_eq_some_iff.1 hT).1
  have hTK := hS T sT
  have HM := Lib.hid (show ∀ w, Below W.heap.size W w → Calls Tryz.prog 274 #[.pointer (some ⟨M, 0, none⟩), .string c.row, .string c.col, .int .i64 c.at_] w fun e w' => e = .returned (.tuple #[clv c2, .bool true]) ∧ Below w.heap.size w w' from fun w hb => by rw [← hk1, ← hk2, ← hk3]; exact mget_one M g cap _ c2 w ((hb.block M hMl).trans hM) (hg.c5.below hb hg.lt.2))
  have HT4 := Lib.hid (fun (w : World) (hw : w.heap[T]? = W.heap[T]?) => cob (hw.trans hT) 4 (v := .slice none 0 0) rfl)
  have t3 : W.cell? ⟨T, 3, none⟩ = some (.pointer (some ⟨M, 0, none⟩)) := cob hT 3 rfl
  have HA1 := Lib.hid (show Calls Tryz.prog 241 #[.func (.func 274) #[.pointer (some ⟨M, 0, none⟩)] #[], .pointer (some ⟨R, 0, none⟩), .pointer (some ⟨C, 0, none⟩), .pointer (some ⟨A, 0, none⟩), .pointer (some ⟨B, 0, none⟩)] W fun e W' => e = .returned (.bool true) ∧ W'.heap[B]? = some (.cells (clcells c2).toArray 93) ∧ Turned (fun k => k = B) W W' from get1_m_yes M R C A B c2 (by rw [hk3]; exact h0) (by rw [hk3]; exact h1) W (by rw [hk1]; exact hR) (by rw [hk2]; exact hC) (by rw [hk3]; exact hA) (by omega) hB (fun w hb => by rw [hk1, hk2, hk3]; exact HM.out w hb))
  have HS := Lib.hid hS
  have HB := Lib.hid hB
  clear hR hC hA hB hT hM hS
  go_enter Tryz.func240, Tryz.ntmps240
  go_wp2_with fail
  refine HA1.out.mono ?_
  rintro e w1 ⟨rfl, hB1, hT1⟩
  clear t3
  go_wp2
  refine bodyPost_ret (results_none rfl _ _ _) rfl ?_
  exact ⟨rfl, ⟨c2, hB1⟩, hT1⟩
theorem find_get_t (T R C A B : Nat) (c : Cl) (h0 : 0 ≤ c.at_) (h1 : c.at_ ≤ 4294967295) (c2 : Cl) (hok : ClOk c2) (hk : SameKey c2 c) (S : Nat → Prop) (W : World) (h : TreeT c2 W S T) (hS : ∀ k, S k → k < A) (hAB : A < B) (hR : W.cell? ⟨R, 0, none⟩ = some (.string c.row)) (hC : W.cell? ⟨C, 0, none⟩ = some (.string c.col)) (hA : W.cell? ⟨A, 0, none⟩ = some (.int .i64 c.at_)) (hB : W.heap[B]? = some (.cells best0.toArray 93)) :
    Calls Tryz.prog 240 #[.pointer (some ⟨T, 0, none⟩), .func (.func 241) #[] #[.pointer (some ⟨R, 0, none⟩), .pointer (some ⟨C, 0, none⟩), .pointer (some ⟨A, 0, none⟩), .pointer (some ⟨B, 0, none⟩)]] W fun e W' => e = .returned (.tuple #[]) ∧ (∃ y : Cl, W'.heap[B]? = some (.cells (clcells y).toArray 93)) ∧ Turned (fun k => k = B) W W' := by
  have hmf : ∀ (fn : Fn) (first cap : Array Value) (w : World), (Instr.makeFunc fn first cap).run Tryz.prog w = .ok (.func fn first cap) w := fun _ _ _ _ => rfl
  obtain ⟨M, Lv, lc, Lt, tc, X, hT, hM, hv, ht, hX, _, sT, sM, sv, st⟩ := h
  obtain ⟨hk1, hk2, hk3⟩ := hk
  have hMl := (Array.getElem?_eq_some_iff.1 hM).1
  have hTl := (Array.getElem?_eq_some_iff.1 hT).1
  have hTK := hS T sT
  have HM := Lib.hid (show ∀ w, Below W.heap.size W w → Calls Tryz.prog 274 #[.pointer (some ⟨M, 0, none⟩), .string c.row, .string c.col, .int .i64 c.at_] w fun e w' => e = .returned (.tuple #[clv cl0, .bool false]) ∧ Below w.heap.size w w' from fun w hb => mget_none M _ c.row c.col c.at_ w ((hb.block M hMl).trans hM))
  have HX := Lib.hid (show ∀ w, (∀ k, S k → w.heap[k]? = W.heap[k]?) → Calls Tryz.prog 275 #[.pointer (some ⟨X, 0, none⟩), .string c.row, .string c.col, .int .i64 c.at_] w fun e w' => e = .returned (.tuple #[clv c2, .bool true]) ∧ Below w.heap.size w w' from fun w hw => by rw [← hk1, ← hk2, ← hk3]; exact tget_same 0 X c2 hok w (hX.frame hw).tab)
  have HV := Lib.hid (fun (w : World) (hw : ∀ k, S k → w.heap[k]? = W.heap[k]?) => (hv.of_block (hw Lv sv)).cell)
  have HTb := Lib.hid (fun (w : World) (hw : ∀ k, S k → w.heap[k]? = W.heap[k]?) => (ht.of_block (hw Lt st)).cell)
  have HT4 := Lib.hid (fun (w : World) (hw : w.heap[T]? = W.heap[T]?) => cob (hw.trans hT) 4 (v := .slice (some ⟨Lv, 0, none⟩) 1 lc) rfl)
  have t3 : W.cell? ⟨T, 3, none⟩ = some (.pointer (some ⟨M, 0, none⟩)) := cob hT 3 rfl
  have HA1 := Lib.hid (get1_m_no M R C A B c.row c.col c.at_ h0 W hR hC hA (cob hB 2 rfl) HM.out)
  have HRl := lt_of_cell hR
  have HCl := lt_of_cell hC
  have HAl := lt_of_cell hA
  have HBl := (Array.getElem?_eq_some_iff.1 hB).1
  have HA2 := Lib.hid (fun (w : World) (hbw : Below W.heap.size W w) => get1_t_yes X R C A B c2 (by rw [hk3]; exact h0) (by rw [hk3]; exact h1) w ((hbw.cell (p := ⟨R, 0, none⟩) HRl).trans (by rw [hk1]; exact hR)) ((hbw.cell (p := ⟨C, 0, none⟩) HCl).trans (by rw [hk2]; exact hC)) ((hbw.cell (p := ⟨A, 0, none⟩) HAl).trans (by rw [hk3]; exact hA)) (by omega) ((hbw.block B HBl).trans hB) (fun w' hb => by rw [hk1, hk2, hk3]; exact HX.out w' (fun k hk => (hb.block k (by have := hS k hk; have := hbw.size; omega)).trans (hbw.block k (by have := hS k hk; omega)))))
  have HS := Lib.hid hS
  have HB := Lib.hid hB
  clear hR hC hA hB hT hM hS
  clear hX hv ht
  go_enter Tryz.func240, Tryz.ntmps240
  go_wp2_with fail
  refine HA1.out.mono ?_
  rintro e w1 ⟨rfl, hb1⟩
  have t4 := HT4.out w1 (hb1.block T hTl)
  have hs1 : ∀ k, S k → w1.heap[k]? = W.heap[k]? := fun k hk => hb1.block k (by have := HS.out k hk; omega)
  have v0 := HV.out w1 hs1
  have x0 := HTb.out w1 hs1
  have HA2x := Lib.hid (HA2.out w1 hb1)
  clear t3 hs1
  go_wp2
  refine wp_loop_rounds 1 ?_
  rw [rounds_succ]
  go_wp2
  refine wp_loop_rounds 1 ?_
  rw [rounds_succ]
  go_wp2_with fail
  refine HA2x.out.mono ?_
  rintro e w3 ⟨rfl, hB3, hT3⟩
  clear t4 v0 x0
  go_wp2
  refine bodyPost_ret (results_none rfl _ _ _) rfl ?_
  exact ⟨rfl, ⟨c2, hB3⟩, (Turned.of_below hb1).trans hT3⟩
theorem four_new (W : World) (o1 o2 o3 o4 : Obj) {w0 : World} (h : (((W.alloc o1).alloc o2).alloc o3).alloc o4 = w0) : w0.heap[W.heap.size]? = some o1 ∧ w0.heap[W.heap.size + 1]? = some o2 ∧ w0.heap[W.heap.size + 2]? = some o3 ∧ w0.heap[W.heap.size + 3]? = some o4 ∧ Below W.heap.size W w0 ∧ w0.heap.size = W.heap.size + 4 := by
  subst h
  obtain ⟨h1, h2, h3, hb, hs⟩ := three_new W o1 o2 o3 rfl
  refine ⟨(heap_alloc_old _ _ (by omega)).trans h1, (heap_alloc_old _ _ (by omega)).trans h2, (heap_alloc_old _ _ (by omega)).trans h3, new_at _ _ _ (by omega), hb.alloc (by omega) _, by simp⟩
theorem turned_new {W w1 w2 : World} {I : Nat} (hb : Below W.heap.size W w1) (hI : W.heap.size ≤ I) (ht : Turned (fun k => k = I) w1 w2) : Below W.heap.size W w2 :=
  ⟨ht.os.trans hb.os, ht.tape.trans hb.tape, ht.output.trans hb.output, Nat.le_trans hb.size ht.size, fun k hk => (ht.block k (by have := hb.size; omega) (by omega)).trans (hb.block k hk)⟩
theorem thas_of (b : Bool) (T : Nat) (c : Cl) (W : World) (HF : ∀ w, Below W.heap.size W w → C5 w W.heap.size c → w.heap[W.heap.size + 1]? = some (.cells #[.bool false] 4) → Calls Tryz.prog 240 #[.pointer (some ⟨T, 0, none⟩), .func (.func 263) #[] #[.pointer (some ⟨W.heap.size, 0, none⟩), .pointer (some ⟨W.heap.size + 1, 0, none⟩)]] w fun e w' => e = .returned (.tuple #[]) ∧ w'.heap[W.heap.size + 1]? = some (.cells #[.bool b] 4) ∧ Turned (fun k => k = W.heap.size + 1) w w') :
    Calls Tryz.prog 235 #[.pointer (some ⟨T, 0, none⟩), clv c] W fun e W' => e = .returned (.bool b) ∧ Below W.heap.size W W' := by
  have HFx := Lib.hid HF
  clear HF
  have hmf : ∀ (fn : Fn) (first cap : Array Value) (w : World), (Instr.makeFunc fn first cap).run Tryz.prog w = .ok (.func fn first cap) w := fun _ _ _ _ => rfl
  obtain ⟨r, k, t, v, d⟩ := c
  unfold clv clcells
  simp only []
  go_enter Tryz.func235, Tryz.ntmps235
  go_wp2_with fail
  generalize hw1 : World.alloc (World.alloc W _) _ = w1
  obtain ⟨hA, hB, hb1, hz1⟩ := two_new _ _ _ hw1.symm
  clear hw1
  have HC := Lib.hid (HFx.out w1 hb1 (c5_block (c := ⟨r, k, t, v, d⟩) hA) hB)
  clear hA hB hz1
  refine HC.out.mono ?_
  rintro e w2 ⟨rfl, hI, hT⟩
  have i0 : w2.cell? ⟨W.heap.size + 1, 0, none⟩ = some (.bool b) := cob hI 0 rfl
  have HB := Lib.hid (turned_new hb1 (by omega) hT)
  clear hI hT
  go_wp2
  go_ret
  exact ⟨rfl, HB.out⟩
theorem thas_e (T : Nat) (c : Cl) (S : Nat → Prop) (W : World) (h : TreeE W S T) (hS : Lt S W) : Calls Tryz.prog 235 #[.pointer (some ⟨T, 0, none⟩), clv c] W fun e W' => e = .returned (.bool false) ∧ Below W.heap.size W W' :=
  thas_of false T c W fun w hb hK hI => find_has_e T W.heap.size (W.heap.size + 1) c false S w (TreeE.framed.frame h fun k hk => hb.block k (hS k hk)) hS (by omega) hK hI
theorem thas_one (T : Nat) (c2 c : Cl) (hok : ClOk c2) (hk : SameKey c2 c) (S : Nat → Prop) (W : World) (h : TreeM c2 W S T ∨ TreeT c2 W S T) (hS : Lt S W) : Calls Tryz.prog 235 #[.pointer (some ⟨T, 0, none⟩), clv c] W fun e W' => e = .returned (.bool true) ∧ Below W.heap.size W W' := by
  rcases h with h | h
  · exact thas_of true T c W fun w hb hK hI => find_has_m T W.heap.size (W.heap.size + 1) c c2 hk false S w ((TreeM.framed c2).frame h fun k hk => hb.block k (hS k hk)) hS hK hI
  · exact thas_of true T c W fun w hb hK hI => find_has_t T W.heap.size (W.heap.size + 1) c c2 hok hk false S w ((TreeT.framed c2).frame h fun k hk => hb.block k (hS k hk)) hS (by omega) hK hI
theorem tget_of (T : Nat) (c : Cl) (W : World) (HF : ∀ w, Below W.heap.size W w → w.cell? ⟨W.heap.size, 0, none⟩ = some (.string c.row) → w.cell? ⟨W.heap.size + 1, 0, none⟩ = some (.string c.col) → w.cell? ⟨W.heap.size + 2, 0, none⟩ = some (.int .i64 c.at_) → w.heap[W.heap.size + 3]? = some (.cells best0.toArray 93) → Calls Tryz.prog 240 #[.pointer (some ⟨T, 0, none⟩), .func (.func 241) #[] #[.pointer (some ⟨W.heap.size, 0, none⟩), .pointer (some ⟨W.heap.size + 1, 0, none⟩), .pointer (some ⟨W.heap.size + 2, 0, none⟩), .pointer (some ⟨W.heap.size + 3, 0, none⟩)]] w fun e w' => e = .returned (.tuple #[]) ∧ (∃ y : Cl, w'.heap[W.heap.size + 3]? = some (.cells (clcells y).toArray 93)) ∧ Turned (fun k => k = W.heap.size + 3) w w') :
    Calls Tryz.prog 210 #[.pointer (some ⟨T, 0, none⟩), .string c.row, .string c.col, .int .i64 c.at_] W fun e W' => ∃ v b, e = .returned (.tuple #[.string v, .bool b]) ∧ Below W.heap.size W W' := by
  have HFx := Lib.hid HF
  clear HF
  have hmf : ∀ (fn : Fn) (first cap : Array Value) (w : World), (Instr.makeFunc fn first cap).run Tryz.prog w = .ok (.func fn first cap) w := fun _ _ _ _ => rfl
  go_enter Tryz.func210, Tryz.ntmps210
  go_wp2_with fail
  generalize hw1 : World.alloc (World.alloc (World.alloc (World.alloc W _) _) _) _ = w1
  obtain ⟨hR, hC, hA, hB, hb1, hz1⟩ := four_new _ _ _ _ _ hw1
  clear hw1
  simp only [Nat.add_assoc, Nat.reduceAdd]
  have HC := Lib.hid (HFx.out w1 hb1 (cob hR 0 rfl) (cob hC 0 rfl) (cob hA 0 rfl) hB)
  clear hR hC hA hB hz1
  refine HC.out.mono ?_
  rintro e w2 ⟨rfl, ⟨⟨yr, yk, yt, yv, yd⟩, hI⟩, hT⟩
  unfold clcells at hI
  simp only [] at hI
  have i3 : w2.cell? ⟨W.heap.size + 3, 3, none⟩ = some (.string yv) := cob hI 3 rfl
  have i4 : w2.cell? ⟨W.heap.size + 3, 4, none⟩ = some (.bool yd) := cob hI 4 rfl
  have HB := Lib.hid (turned_new hb1 (by omega) hT)
  clear hI hT
  go_wp2
  go_quiet (fail)
  go_wp2
  go_ret2
  exact ⟨yv, !yd, rfl, below_drewN HB.out⟩
theorem tget_e (T : Nat) (c : Cl) (h0 : 0 ≤ c.at_) (S : Nat → Prop) (W : World) (h : TreeE W S T) (hS : Lt S W) : Calls Tryz.prog 210 #[.pointer (some ⟨T, 0, none⟩), .string c.row, .string c.col, .int .i64 c.at_] W fun e W' => ∃ v b, e = .returned (.tuple #[.string v, .bool b]) ∧ Below W.heap.size W W' :=
  tget_of T c W fun w hb hR hC hA hB => (find_get_e T W.heap.size (W.heap.size + 1) (W.heap.size + 2) (W.heap.size + 3) c h0 S w (TreeE.framed.frame h fun k hk => hb.block k (hS k hk)) (fun k hk => Nat.lt_of_lt_of_le (hS k hk) (by omega)) hR hC hA hB).mono fun e w' h => ⟨h.1, ⟨⟨{ data := #[] }, { data := #[] }, -1, { data := #[] }, true⟩, h.2.1⟩, h.2.2⟩
theorem tget_one (T : Nat) (c2 c : Cl) (hok : ClOk c2) (hk : SameKey c2 c) (S : Nat → Prop) (W : World) (h : TreeM c2 W S T ∨ TreeT c2 W S T) (hS : Lt S W) : Calls Tryz.prog 210 #[.pointer (some ⟨T, 0, none⟩), .string c.row, .string c.col, .int .i64 c.at_] W fun e W' => ∃ v b, e = .returned (.tuple #[.string v, .bool b]) ∧ Below W.heap.size W W' := by
  have h0 : 0 ≤ c.at_ := by rw [← hk.2.2]; exact hok.a1
  have h1 : c.at_ ≤ 4294967295 := by rw [← hk.2.2]; exact hok.a2
  rcases h with h | h
  · exact tget_of T c W fun w hb hR hC hA hB => find_get_m T W.heap.size (W.heap.size + 1) (W.heap.size + 2) (W.heap.size + 3) c h0 h1 c2 hk S w ((TreeM.framed c2).frame h fun k hk => hb.block k (hS k hk)) (fun k hk => Nat.lt_of_lt_of_le (hS k hk) (by omega)) (by omega) hR hC hA hB
  · exact tget_of T c W fun w hb hR hC hA hB => find_get_t T W.heap.size (W.heap.size + 1) (W.heap.size + 2) (W.heap.size + 3) c h0 h1 c2 hok hk S w ((TreeT.framed c2).frame h fun k hk => hb.block k (hS k hk)) (fun k hk => Nat.lt_of_lt_of_le (hS k hk) (by omega)) (by omega) hR hC hA hB
theorem weigh_any (c : Cl) (hok : ClOk c) (W : World) : Calls Tryz.prog 268 #[clv c] W fun e W' => e = .returned (.int .i64 ((cellN c).length : Nat)) ∧ Below W.heap.size W W' := by
  have HPut := Lib.hid (fun w => cput_any c hok w)
  obtain ⟨kN, hkN⟩ : ∃ kN, kN = cellN c := ⟨_, rfl⟩
  rw [← hkN] at HPut ⊢
  clear hkN hok
  obtain ⟨r, k, t, v, d⟩ := c
  unfold clv clcells at HPut ⊢
  simp only [] at HPut ⊢
  go_enter Tryz.func268, Tryz.ntmps268
  go_wp2_with fail
  generalize hw1 : World.alloc W _ = w1
  have hb1 := named_below hw1.symm
  clear hw1
  refine (HPut.out w1).mono ?_
  rintro e w2 ⟨L, A, c2, H2, rfl, _, _, hb2⟩
  go_wp2
  go_ret
  have hL : L = kN := H2.out
  exact ⟨by rw [← hL]; rfl, below_next hb1 hb2⟩
theorem insert_new (b G cap : Nat) (c : Cl) (W : World) (h : One W b G cap c) : Calls Tryz.prog 269 #[.slice none 0 0, .int .i64 0, .slice (some ⟨G, 0, none⟩) 1 cap] W fun e W' => ∃ g cap', e = .returned (.slice (some ⟨g, 0, none⟩) 1 cap') ∧ One W' W.heap.size g cap' c ∧ Below W.heap.size W W' := by
  obtain ⟨i1, hi1, hy0, hy1, hy2⟩ := info_parts Tryz.infoCl
  have HO := Lib.hid h
  clear h
  go_enter Tryz.func269, Tryz.ntmps269
  go_wp2_with (at_builtin; refine wpList_append_stl clcells _ clcells_one rfl _ _ _ rfl W.heap.size 93 i1 _ 5 64 clcells_len (by decide) Tryz.underlying41 hi1 hy0 hy1 hy2 rfl _ _ [] rfl (OwnT.nil _ _ _ _ _) b _ _ [c] rfl HO.out (by simp [maxLen]) (by simp) (Nat.le_refl _) ?_; intro L A2 c2 w2 HL ho2 hb2 _ _)
  have hL : L = [c] := HL.out
  subst hL
  obtain ⟨g, rfl, _⟩ := ho2.form (by simp)
  go_ret
  exact ⟨g, c2, rfl, ho2, hb2⟩
theorem msize_any (M : Nat) (v0 : Value) (n : Int) (W : World) (hM : W.heap[M]? = some (.cells #[v0, .int .i64 n] 355)) : Calls Tryz.prog 238 #[.pointer (some ⟨M, 0, none⟩)] W fun e W' => e = .returned (.int .i64 n) ∧ W = W' := by
  have m1 : W.cell? ⟨M, 1, none⟩ = some (.int .i64 n) := cob hM 1 rfl
  clear hM
  go_enter Tryz.func238, Tryz.ntmps238
  go_wp2
  go_ret
  exact ⟨rfl, rfl⟩
theorem mlen_any (M : Nat) (A : Option Addr) (n c : Nat) (v1 : Value) (W : World) (hM : W.heap[M]? = some (.cells #[.slice A n c, v1] 355)) : Calls Tryz.prog 270 #[.pointer (some ⟨M, 0, none⟩)] W fun e W' => e = .returned (.int .i64 (n : Nat)) ∧ W = W' := by
  have m1 : W.cell? ⟨M, 0, none⟩ = some (.slice A n c) := cob hM 0 rfl
  clear hM
  go_enter Tryz.func270, Tryz.ntmps270
  go_wp2
  go_ret
  exact ⟨rfl, rfl⟩
theorem mcells_none (M : Nat) (v1 : Value) (W : World) (hM : W.heap[M]? = some (.cells #[.slice none 0 0, v1] 355)) : Calls Tryz.prog 272 #[.pointer (some ⟨M, 0, none⟩)] W fun e W' => e = .returned (.slice none 0 0) ∧ W = W' := by
  have m1 : W.cell? ⟨M, 0, none⟩ = some (.slice none 0 0) := cob hM 0 rfl
  have HC := Lib.hid clonec_nil
  clear hM
  go_enter Tryz.func272, Tryz.ntmps272
  go_wp2_with (first | (go_at_call 42; refine (HC.out _).mono ?_; rintro e w1 ⟨rfl, rfl⟩))
  go_ret
  exact ⟨rfl, rfl⟩
theorem mmcells_one (b M g cap : Nat) (v1 : Value) (c : Cl) (W : World) (hM : W.heap[M]? = some (.cells #[.slice (some ⟨g, 0, none⟩) 1 cap, v1] 355)) (h : One W b g cap c) : Calls Tryz.prog 272 #[.pointer (some ⟨M, 0, none⟩)] W fun e W' => ∃ g' cap', e = .returned (.slice (some ⟨g', 0, none⟩) 1 cap') ∧ One W' W.heap.size g' cap' c ∧ Below W.heap.size W W' := by
  have m1 : W.cell? ⟨M, 0, none⟩ = some (.slice (some ⟨g, 0, none⟩) 1 cap) := cob hM 0 rfl
  have HC := Lib.hid (clonec_one b g cap c W h)
  clear hM h
  go_enter Tryz.func272, Tryz.ntmps272
  go_wp2_with (first | (go_at_call 42; refine HC.out.mono ?_; rintro e w1 ⟨g', cap', rfl, hO, hb⟩))
  have HO := Lib.hid hO
  go_ret
  exact ⟨g', cap', rfl, HO.out, hb⟩
theorem mput_new (M : Nat) (c : Cl) (hok : ClOk c) (W : World) (hM : W.heap[M]? = some (.cells #[.slice none 0 0, .int .i64 0] 355)) :
    Calls Tryz.prog 237 #[.pointer (some ⟨M, 0, none⟩), clv c] W fun e W' => e = .returned (.bool true) ∧ ∃ g cap, W'.heap[M]? = some (.cells #[.slice (some ⟨g, 0, none⟩) 1 cap, .int .i64 ((cellN c).length : Nat)] 355) ∧ One W' W.heap.size g cap c ∧ Turned (fun k => k = M) W W' := by
  have hMl := (Array.getElem?_eq_some_iff.1 hM).1
  have HR := Lib.hid (fun w => cellright_any c w)
  rw [right_ok hok] at HR
  have HW := Lib.hid (fun w => weigh_any c hok w)
  have HWl := Lib.hid (cellN_le hok)
  have HBs := Lib.hid (fun w => bsc_none c w)
  have HIn := Lib.hid (fun b G cap w h => insert_new b G cap c w h)
  have HM := Lib.hid (fun w (hb : Below W.heap.size W w) => (hb.block M hMl).trans hM)
  clear hM
  obtain ⟨nN, hnN⟩ : ∃ nN, nN = (cellN c).length := ⟨_, rfl⟩
  rw [← hnN] at HW HWl ⊢
  clear hnN hok
  obtain ⟨x, hx⟩ : ∃ x, x = c := ⟨_, rfl⟩
  rw [← hx]
  have HX := Lib.hid hx
  rw [← hx] at HIn
  clear hx
  obtain ⟨r, k, t, v, d⟩ := c
  unfold clv clcells cmpF at HBs
  unfold clv clcells at HR HW
  simp only [] at HR HBs HW
  rw [HX.out]
  unfold clv clcells
  simp only []
  rw [HX.out] at HIn
  go_enter Tryz.func237, Tryz.ntmps237
  go_wp2_with fail
  generalize hw1 : World.alloc W _ = w1
  have hK1 := named_new hw1.symm
  have hb1 := named_below hw1.symm
  have hz1 : W.heap.size < w1.heap.size := by rw [named_size hw1.symm]; omega
  clear hw1
  refine (HR.out w1).mono ?_
  rintro e w2 ⟨rfl, hb2⟩
  have hB2 := below_next hb1 hb2
  have hK2 := (hb2.block W.heap.size hz1).trans hK1
  have hz2 : W.heap.size < w2.heap.size := Nat.lt_of_lt_of_le hz1 hb2.size
  clear hK1 hb1 hb2
  go_wp2
  obtain ⟨e0, e1, e2, e3, e4⟩ := c5_of (c5_block (c := ⟨r, k, t, v, d⟩) hK2)
  simp only [] at e0 e1 e2 e3 e4
  have q0 : ∀ x : Of (Below w2.heap.size w2), x.w.cell? ⟨M, 0, none⟩ = some (.slice none 0 0) := fun x => cob (HM.out x.w (below_next hB2 x.h)) 0 rfl
  have HK2 := Lib.hid hK2
  clear hK2
  haveI := of_ne w2
  refine wp_region_of (Below w2.heap.size w2) (by kernel_rfl) (by kernel_rfl) (Below.refl _ _).drew ?_
  repeat (go_big_quiet_step ((rename_i x; go_at_call 266; refine quiet_of ((HBs.out x.w).mono fun e w' h => ⟨h.1, x.h.trans (h.2.mono x.h.size)⟩))))
  refine wpQuiet_nil ?_
  rintro _ ⟨x, rfl⟩
  obtain ⟨w3, hb3⟩ := x
  dsimp only
  clear e0 e1 e2 e3 e4 q0 this
  have hB3 := below_next hB2 hb3
  have hK3 := (hb3.block W.heap.size hz2).trans HK2.out
  have hz3 : W.heap.size < w3.heap.size := Nat.lt_of_lt_of_le hz2 hb3.size
  have hM3 := HM.out w3 hB3
  have hMz3 : M < w3.heap.size := by have := hB3.size; omega
  have m0 : w3.cell? ⟨M, 0, none⟩ = some (.slice none 0 0) := cob hM3 0 rfl
  have e0 : w3.cell? ⟨W.heap.size, 0, none⟩ = some (.string r) := cob hK3 0 rfl
  have e1 : w3.cell? ⟨W.heap.size, 1, none⟩ = some (.string k) := cob hK3 1 rfl
  have e2 : w3.cell? ⟨W.heap.size, 2, none⟩ = some (.int .i64 t) := cob hK3 2 rfl
  have e3 : w3.cell? ⟨W.heap.size, 3, none⟩ = some (.string v) := cob hK3 3 rfl
  have e4 : w3.cell? ⟨W.heap.size, 4, none⟩ = some (.bool d) := cob hK3 4 rfl
  have HM3 := Lib.hid hM3
  have HK3 := Lib.hid hK3
  clear hM3 hK3 hb3
  go_wp2
  go_region_law (first
    | (go_simp; go_at_call 269; refine (HIn.out w3.heap.size w3.heap.size 1 _ (OwnT.lit clcells 93 5 w3.drew w3.heap.size _ [⟨r, k, t, v, d⟩] clcells_len (Nat.le_refl _) (by simp [maxLen]) rfl)).mono ?_; rintro e w4 ⟨g, cap, rfl, hO4, hb4'⟩; have hb4 := (((Below.refl w3.heap.size w3).drew.alloc (Nat.le_refl _) (.cells #[.string r, .string k, .int .i64 t, .string v, .bool d] 93)).trans (hb4'.mono (by simp))); have hM4 := (hb4.block M hMz3).trans HM3.out; have y0 := cob hM4 0 (v := .slice none 0 0) rfl; have hfr : ∀ j, w4.frozen? ⟨M, j, none⟩ = false := (fun j => by simp [World.frozen?, hM4]); have HM4 := Lib.hid hM4; clear hM4))
  all_goals
    have hOl := hO4.lt
    have hzz : M < w3.heap.size + 1 := by omega
    have hMg : g ≠ M := by have := hOl.1; simp at this; omega
    have hMK : W.heap.size ≠ M := by omega
    have gM := heap_setCell_same w4 M 0 _ _ (.slice (some ⟨g, 0, none⟩) 1 cap) HM4.out
    have hk : ∀ k, k ≠ M → (w4.setCell ⟨M, 0, none⟩ (.slice (some ⟨g, 0, none⟩) 1 cap)).heap[k]? = w4.heap[k]? := fun k hk => heap_setCell_other _ _ _ _ hk
    have hT5 : Turned (fun k => k = M) W (w4.setCell ⟨M, 0, none⟩ (.slice (some ⟨g, 0, none⟩) 1 cap)) := (Turned.of_below (S := fun k => k = M) (below_next hB3 hb4)).setCell (p := ⟨M, 0, none⟩) (.inl rfl) _
    have hK5 := (hk W.heap.size hMK).trans ((hb4.block W.heap.size hz3).trans HK3.out)
    have hO5 := hO4.of_block (hk g hMg)
    obtain ⟨w5, hw5⟩ : ∃ w5, w5 = w4.setCell ⟨M, 0, none⟩ (.slice (some ⟨g, 0, none⟩) 1 cap) := ⟨_, rfl⟩
    rw [← hw5] at gM hT5 hK5 hO5
    have gM' : w5.heap[M]? = some (.cells #[.slice (some ⟨g, 0, none⟩) 1 cap, .int .i64 0] 355) := gM
    have hz5 : w5.heap.size = w4.heap.size := by rw [hw5]; simp
    have hM5z : M < w5.heap.size := (Array.getElem?_eq_some_iff.1 gM').1
    have hK5z : W.heap.size < w5.heap.size := (Array.getElem?_eq_some_iff.1 hK5).1
    have hWw3 : W.heap.size ≤ w3.heap.size := by omega
    first | rw [← hw5] | skip
    clear hw5 hk gM y0 hfr m0 e0 e1 e2 e3 e4 hO4 hb4 hb4' HM4 hz5
    have m1 : w5.cell? ⟨M, 1, none⟩ = some (.int .i64 0) := cob gM' 1 rfl
    have e0 : w5.cell? ⟨W.heap.size, 0, none⟩ = some (.string r) := cob hK5 0 rfl
    have e1 : w5.cell? ⟨W.heap.size, 1, none⟩ = some (.string k) := cob hK5 1 rfl
    have e2 : w5.cell? ⟨W.heap.size, 2, none⟩ = some (.int .i64 t) := cob hK5 2 rfl
    have e3 : w5.cell? ⟨W.heap.size, 3, none⟩ = some (.string v) := cob hK5 3 rfl
    have e4 : w5.cell? ⟨W.heap.size, 4, none⟩ = some (.bool d) := cob hK5 4 rfl
    have HO5 := Lib.hid hO5
    have HGM := Lib.hid gM'
    clear gM' hK5 hO5
    go_wp2
    have hwr : IntKind.i64.wrap ((nN : Nat) : Int) = ((nN : Nat) : Int) := by have := HWl.out; rw [IntKind.wrap_i64]; omega
    go_region_law (first
      | (go_simp; go_at_call 268; refine (HW.out w5.drew).mono ?_; rintro e w6 ⟨rfl, hb6'⟩; have hb6 := below_undrew hb6'; have hM6 := (hb6.block M hM5z).trans HGM.out; have y1 := cob hM6 1 (v := .int .i64 0) rfl; have hfr : ∀ j, w6.frozen? ⟨M, j, none⟩ = false := (fun j => by simp [World.frozen?, hM6]); have HM6 := Lib.hid hM6; clear hM6))
    all_goals
      have gN := heap_setCell_same w6 M 1 _ _ (.int .i64 ((nN : Nat) : Int)) HM6.out
      have hkk : ∀ k, k ≠ M → (w6.setCell ⟨M, 1, none⟩ (.int .i64 ((nN : Nat) : Int))).heap[k]? = w6.heap[k]? := fun k hk => heap_setCell_other _ _ _ _ hk
      have hT7 : Turned (fun k => k = M) W (w6.setCell ⟨M, 1, none⟩ (.int .i64 ((nN : Nat) : Int))) := (hT5.below hb6 hT5.size).setCell (p := ⟨M, 1, none⟩) (.inl rfl) _
      have hO7 := HO5.out.of_block ((hkk g hMg).trans (hb6.block g HO5.out.lt.2))
      have hlow := HO5.out.lt.1
      clear m1 e0 e1 e2 e3 e4 y1 hfr hkk
      go_wp2
      go_ret
      refine ⟨rfl, g, cap, gN, OwnT.low (b' := W.heap.size) hO7 (by simp; omega), hT7⟩
end Go.Proofs.YtoigogjmhkpdlaaGreat
