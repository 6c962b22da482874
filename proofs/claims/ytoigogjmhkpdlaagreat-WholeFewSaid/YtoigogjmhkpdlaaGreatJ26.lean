/- A part of the proof of WholeFew: the texts TableA, TableB, TableC. -/
import Derived.Test.YtoigogjmhkpdlaaGreatJ06
import Derived.Test.YtoigogjmhkpdlaaGreatJ25
set_option maxHeartbeats 6400000
set_option maxRecDepth 100000
namespace Go.Proofs.YtoigogjmhkpdlaaGreat
open Go.RowKit
theorem Tryz.infoStr : (Tryz.prog.info? 9).map (fun i => (i.zero, i.size, i.bytes)) = some (some (.string ByteArray.empty), 1, 16) := by kernel_rfl
def keyS (r k : ByteArray) : ByteArray := strN (textN r) ++ strN (textN k)
theorem keyS_size {r k : ByteArray} (h1 : r.size ≤ 64) (h2 : k.size ≤ 64) : (keyS r k).size ≤ 136 := by
  unfold keyS; rw [ByteArray.size_append, strN_size, strN_size]
  simp only [textN, List.length_append, numN_length, keyN_length]; omega
theorem ttext_any (r k : ByteArray) (h1 : r.size ≤ 64) (h2 : k.size ≤ 64) (W : World) : Calls Tryz.prog 326 #[.string r, .string k] W fun e W' => e = .returned (.string (keyS r k)) ∧ Below W.heap.size W W' := by
  have HT1 := Lib.hid (fun w => text_any r (by omega) w)
  have HT2 := Lib.hid (fun w => text_any k (by omega) w)
  have HC := Lib.hid (fun (w : World) (A : Option Addr) (l : List Nat) (c : Nat) (h : RdB w A l) => run_conv_bytes (P := Tryz.prog) w 67 9 5 Tryz.underlying67 Tryz.underlying5 Tryz.underlying9 A l c h)
  unfold keyS
  have HZ := Lib.hid (show (textN r).length + (textN k).length ≤ 1000 by simp only [textN, List.length_append, numN_length, keyN_length]; omega)
  clear h1 h2
  go_enter Tryz.func326, Tryz.ntmps326
  go_wp2
  go_region_with
    (first
      | (have _ := HS1; go_at_call 56; refine (HT2.out w1).mono ?_; rintro e w2 ⟨L2, A2, c2, H2, rfl, ho2, hc2, hb2⟩; have v2 := HC.out w2 A2 L2 c2 ho2.rd; have v3 := HC.out w2 A1 L1 c1 (ho1.rd.below hb2 (Nat.le_refl _)); have hz : ¬ (9223372036854775807 < (strN L1).size + (strN L2).size) := (by rw [strN_size, strN_size]; have := HZ.out; rw [← H1.out, ← H2.out] at this; omega); have hz2 : (9223372036854775807 < (strN L1).size + (strN L2).size) = False := eq_false hz)
      | (go_at_call 56; refine (HT1.out W.drew).mono ?_; rintro e w1 ⟨L1, A1, c1, H1, rfl, ho1, hc1, hb1'⟩; have hb1 := below_undrew hb1'; have HS1 : True := trivial; have v1 := HC.out w1 A1 L1 c1 ho1.rd))
  all_goals
    go_wp2
    go_ret
    exact ⟨by show Ending.returned (.string (strN L1 ++ strN L2)) = _; rw [H1.out, H2.out], below_next hb1 hb2⟩
def keyC (c : Cl) : Cl := ⟨c.row, c.col, c.at_, { data := #[] }, false⟩
theorem keyC_ok {c : Cl} (h : ClOk c) : ClOk (keyC c) := ⟨h.r1, h.r2, h.c1, h.c2, h.a1, h.a2, by simp [keyC, ByteArray.size], fun hg => by cases hg⟩
theorem tkey_any (c : Cl) (W : World) : Calls Tryz.prog 341 #[clv c] W fun e W' => e = .returned (clv (keyC c)) ∧ Below W.heap.size W W' := by
  obtain ⟨r, k, t, v, d⟩ := c
  unfold clv clcells keyC
  simp only []
  go_enter Tryz.func341, Tryz.ntmps341
  go_upto_region 1 with (fail)
  generalize hw1 : World.alloc (World.alloc W _) _ = w1
  obtain ⟨hA, hB, hb1, hz1⟩ := two_new _ _ _ hw1.symm
  clear hw1
  have e0 : w1.cell? ⟨W.heap.size, 0, none⟩ = some (.string r) := cob hA 0 rfl
  have e1 : w1.cell? ⟨W.heap.size, 1, none⟩ = some (.string k) := cob hA 1 rfl
  have e2 : w1.cell? ⟨W.heap.size, 2, none⟩ = some (.int .i64 t) := cob hA 2 rfl
  have d0 : w1.cell? ⟨W.heap.size + 1, 0, none⟩ = some (.string { data := #[] }) := cob hB 0 rfl
  have d1 : w1.cell? ⟨W.heap.size + 1, 1, none⟩ = some (.string { data := #[] }) := cob hB 1 rfl
  have d2 : w1.cell? ⟨W.heap.size + 1, 2, none⟩ = some (.int .i64 0) := cob hB 2 rfl
  have d3 : w1.cell? ⟨W.heap.size + 1, 3, none⟩ = some (.string { data := #[] }) := cob hB 3 rfl
  have d4 : w1.cell? ⟨W.heap.size + 1, 4, none⟩ = some (.bool false) := cob hB 4 rfl
  have hfr : ∀ j, w1.frozen? ⟨W.heap.size + 1, j, none⟩ = false := fun j => by simp [World.frozen?, hB]
  have HR2 := Lib.hid hB
  have hz2 : W.heap.size + 2 ≤ w1.heap.size := by omega
  clear hA hB hz1
  go_wp2
  obtain ⟨hf9, hgr, hz9⟩ := cl_store w1 (W.heap.size + 1) _ HR2.out rfl (r) (k) (t) ({ data := #[] }) (false)
  generalize World.setCell _ ⟨W.heap.size + 1, 4, none⟩ _ = w9 at hf9 hgr hz9 ⊢
  refine bodyPost_ret (results_c rfl _ _ (W.heap.size + 1) _ _ (0, 0) _ rfl hf9 Tryz.underlying93 rfl Tryz.sizeCl) rfl ⟨rfl, ?_⟩
  exact hb1.grown hgr (by omega) (fun q hq => by injection hq with hq; omega)
theorem tfilter_one (g cap : Nat) (c : Cl) (hok : ClOk c) (W : World) (h : C5 W g c) : Calls Tryz.prog 321 #[.slice (some ⟨g, 0, none⟩) 1 cap] W fun e W' => NewBytes W (makeF [keyS c.row c.col]) W' e := by
  obtain ⟨i1, hi1, hy0, hy1, hy2⟩ := info_parts Tryz.infoStr
  have hs := keyS_size hok.r2 hok.c2
  have HT := Lib.hid (fun w => ttext_any c.row c.col hok.r2 hok.c2 w)
  have HM := Lib.hid (fun (A : Option Addr) (cc : Nat) (w : World) (h : RdS w A [keyS c.row c.col]) => make_any A [keyS c.row c.col] cc (by simp) (by intro s hs'; rw [List.mem_singleton] at hs'; rw [hs']; omega) w h)
  obtain ⟨q0, q1, q2, q3, q4⟩ := h
  obtain ⟨r, k, t, v, d⟩ := c
  simp only [] at q0 q1 q2 q3 q4 HT HM ⊢
  obtain ⟨y, hy⟩ : ∃ y, y = keyS r k := ⟨_, rfl⟩
  rw [← hy] at HT HM ⊢
  clear hy hs hok
  go_enter Tryz.func321, Tryz.ntmps321
  go_wp2
  refine wp_loop_rounds 2 ?_
  rw [rounds_succ]
  go_upto_region 5 with (fail)
  generalize hw1 : World.alloc W _ = w1
  have hB := named_new hw1.symm
  have hb1 := named_below hw1.symm
  clear hw1
  have e0 : w1.cell? ⟨W.heap.size, 0, none⟩ = some (.string r) := cob hB 0 rfl
  have e1 : w1.cell? ⟨W.heap.size, 1, none⟩ = some (.string k) := cob hB 1 rfl
  clear hB q0 q1 q2 q3 q4
  go_wp2_with fail
  refine (HT.out w1).mono ?_
  rintro e w2 ⟨rfl, hb2⟩
  have hB2 := below_next hb1 hb2
  have hs2 := hB2.size
  go_wp2_with (at_builtin; refine wpList_append_one Value.string _ (fun _ => rfl) rfl _ _ _ rfl W.heap.size 9 i1 _ 16 Tryz.underlying118 hi1 hy0 hy1 hy2 rfl _ _ [] rfl (Own.nil _ _ _ _) _ _ y rfl (cell_alloc_one _ _ _ _ rfl) (by simp [maxLen]) (by simp) (by simp; omega) ?_; intro X5 A5 c5 w5 H5 ho5 hb5 hg5 ha5)
  have hX5 : X5 = [y] := H5.out
  subst hX5
  have hB5 := (hB2.alloc hs2 _).trans hb5
  have Hrd := Lib.hid ho5.rd
  clear e0 e1 ho5 hb5 hg5 ha5 hb2
  rw [rounds_succ]
  go_wp2_with fail
  refine (HM.out A5 c5 w5 Hrd.out).mono ?_
  rintro e w6 ⟨L6, A6, c6, H6, rfl, ho6, hb6⟩
  have HB6 := Lib.hid (below_next hB5 hb6)
  have Ho6 := Lib.hid ho6
  have hz5 := hB5.size
  clear ho6
  go_wp2
  go_ret
  exact ⟨L6, A6, c6, H6, rfl, World.ownsRow_base Ho6.out hz5, HB6.out⟩
theorem all3s {α : Type} {P : α → Prop} {a b c : α} (ha : P a) (hb : P b) (hc : P c) : ∀ t ∈ [a, b, c], P t := by
  intro t ht
  simp only [List.mem_cons, List.not_mem_nil, or_false] at ht
  rcases ht with rfl | rfl | rfl <;> assumption
def footR (c : Cl) (F : List Nat) : List Nat := numN 1 ++ cellN (keyC c) ++ numN 0 ++ textN (strN F)
def footN (c : Cl) (F : List Nat) : List Nat := frameN (footR c F)
theorem textN_bytes (s : ByteArray) : Bytes (textN s) := fun x hx => by
  rcases List.mem_append.1 hx with h | h
  · exact numN_bytes _ x h
  · exact keyN_bytes _ x h
theorem footR_bytes (c : Cl) (F : List Nat) : Bytes (footR c F) := fun x hx => by
  rcases List.mem_append.1 hx with h | h
  · rcases List.mem_append.1 h with h | h
    · rcases List.mem_append.1 h with h | h
      · exact numN_bytes _ x h
      · exact cellN_bytes _ x h
    · exact numN_bytes _ x h
  · exact textN_bytes _ x h
theorem footR_len {c : Cl} (hok : ClOk c) {F : List Nat} (hF : F.length ≤ 1000) : (footR c F).length ≤ 1413 := by
  have := cellN_le (keyC_ok hok)
  unfold footR textN
  simp only [List.length_append, numN_length, keyN_length, strN_size]
  omega
def tabN (c : Cl) (F : List Nat) : List Nat := blkN c ++ footN c F ++ numN (footN c F).length
theorem tbuilt_one (G Cap g cap : Nat) (c : Cl) (hok : ClOk c) (Af : Option Addr) (F : List Nat) (cf : Nat) (hF : F.length ≤ 1000) (W : World) (hG : W.cell? ⟨G, 0, none⟩ = some (.slice (some ⟨g, 0, none⟩) 1 cap)) (h : C5 W g c) (hf : RdB W Af F) :
    Calls Tryz.prog 335 #[.slice (some ⟨G, 0, none⟩) 1 Cap, .slice Af F.length cf] W fun e W' => ∃ (L M : List Nat) (A B : Option Addr) (a b : Nat), Hid (L = blkN c) ∧ Hid (M = footN c F) ∧ e = .returned (.tuple #[.slice A L.length a, .slice B M.length b, .int .i64 0]) ∧ RdB W' A L ∧ RdB W' B M ∧ Below W.heap.size W W' := by
  obtain ⟨i0, hi, hz0, hz1, hz2⟩ := info_parts Tryz.infoB
  have hgl := h.lt
  have HPutB := Lib.hid (fun w (hb : Below W.heap.size W w) => bput_one g cap c hok w (h.below hb hgl))
  have HKey := Lib.hid (fun w => tkey_any c w)
  have HPut := Lib.hid (fun w => cput_any (keyC c) (keyC_ok hok) w)
  have HC5 := Lib.hid (fun w (hb : Below W.heap.size W w) => h.below hb hgl)
  have HGl := lt_of_cell hG
  have HG := Lib.hid (fun w (hb : Below W.heap.size W w) => (hb.cell (p := ⟨G, 0, none⟩) HGl).trans hG)
  have HFo := Lib.hid (show footN c F = frameN (numN 1 ++ cellN (keyC c) ++ numN 0 ++ textN (strN F)) from rfl)
  have HFb := Lib.hid (footR_bytes c F)
  have HFl := Lib.hid (footR_len hok hF)
  have HRe := Lib.hid (show footR c F = numN 1 ++ cellN (keyC c) ++ numN 0 ++ textN (strN F) from rfl)
  have HKl := Lib.hid (cellN_le (keyC_ok hok))
  have HBl := Lib.hid (blkN_len hok).2
  have Hf := Lib.hid (fun w (hb : Below W.heap.size W w) => hf.below hb (Nat.le_refl _))
  have HConv := Lib.hid (fun (w : World) (h : RdB w Af F) => run_conv_bytes (P := Tryz.prog) w 67 9 5 Tryz.underlying67 Tryz.underlying5 Tryz.underlying9 Af F cf h)
  have HTx := Lib.hid (fun w => text_any (strN F) (by rw [strN_size]; omega) w)
  have HSz := Lib.hid (show (textN (strN F)).length ≤ 1004 by simp only [textN, List.length_append, numN_length, keyN_length, strN_size]; omega)
  clear hG h hf
  obtain ⟨bN, hbN⟩ : ∃ bN, bN = blkN c := ⟨_, rfl⟩
  obtain ⟨fN, hfN⟩ : ∃ fN, fN = footN c F := ⟨_, rfl⟩
  obtain ⟨rN, hrN⟩ : ∃ rN, rN = footR c F := ⟨_, rfl⟩
  obtain ⟨kN, hkN⟩ : ∃ kN, kN = cellN (keyC c) := ⟨_, rfl⟩
  obtain ⟨sF, hsF⟩ : ∃ sF, sF = strN F := ⟨_, rfl⟩
  obtain ⟨tN, htN⟩ : ∃ tN, tN = textN sF := ⟨_, rfl⟩
  rw [← hfN, ← hkN, ← hsF, ← htN] at HFo
  rw [← hrN, ← hkN, ← hsF, ← htN] at HRe
  rw [← hrN] at HFb HFl
  rw [← hkN] at HPut HKl
  rw [← hbN] at HPutB HBl ⊢
  rw [← hsF] at HConv HTx HSz
  rw [← htN] at HTx HSz
  rw [← hfN]
  have hsz : sF.size ≤ 4294967295 := by rw [hsF, strN_size]; omega
  clear hbN hfN hrN hkN hsF htN hok
  obtain ⟨r, k, t, v, d⟩ := c
  unfold C5 at HC5
  unfold clv clcells keyC at HPut
  unfold clv clcells keyC at HKey
  simp only [] at HC5 HPut HKey
  go_enter Tryz.func335, Tryz.ntmps335
  go_wp2_with fail
  refine (num_i 1 1 rfl (by decide) W).mono ?_
  rintro e w1 ⟨L1, A1, c1, H1, rfl, ho1, hc1, hb1⟩
  have hl1 : L1.length ≤ 4 := by rw [H1.out]; exact Nat.le_refl _
  go_wp2
  refine wp_loop_rounds 2 ?_
  rw [rounds_succ]
  have g1 := HG.out w1 hb1
  go_wp2_with fail
  refine (HPutB.out w1 hb1).mono ?_
  rintro e w2 ⟨L2, A2, c2, H2, rfl, ho2, hc2, hb2⟩
  have hB2 := below_next hb1 hb2
  have ho1b := ho1.below hb2 (Nat.le_refl _)
  have hl2 : L2.length ≤ 417 := by rw [H2.out]; exact HBl.out
  obtain ⟨q0, q1, q2, q3, q4⟩ := HC5.out w2 hB2
  clear g1
  go_wp2_with fail
  refine (HKey.out w2).mono ?_
  rintro e w3 ⟨rfl, hb3⟩
  clear q0 q1 q2 q3 q4
  have hB3 := below_next hB2 hb3
  go_wp2_with fail
  refine (HPut.out w3).mono ?_
  rintro e w4 ⟨L4, A4, c4, H4, rfl, ho4, hc4, hb4⟩
  have hB4 := below_next hB3 hb4
  have hl4 : L4.length ≤ 401 := by rw [H4.out]; exact HKl.out
  go_wp2_with fail
  refine (num_i 0 0 rfl (by decide) w4).mono ?_
  rintro e w5 ⟨L5, A5, c5, H5, rfl, ho5, hc5, hb5⟩
  have hB5 := below_next hB4 hb5
  have hl5 : L5.length ≤ 4 := by rw [H5.out]; exact Nat.le_refl _
  have hr1 := ((ho1b.rd.below hb3 (Nat.le_refl _)).below hb4 (Nat.le_refl _)).below hb5 (Nat.le_refl _)
  have hr4 := ho4.rd.below hb5 (Nat.le_refl _)
  have ho2e := ((ho2.below hb3 (Nat.le_refl _)).below hb4 (Nat.le_refl _)).below hb5 (Nat.le_refl _)
  have hB5a := hB5.alloc hB5.size (.cells #[.slice A1 L1.length c1, .slice A4 L4.length c4, .slice A5 L5.length c5] 67)
  clear ho1 ho1b ho4 ho2
  go_wp2_with fail
  refine (concat_n _ [(A1, c1, L1), (A4, c4, L4), (A5, c5, L5)] 3 3 rfl (by simp) (by simp [flat]; omega) _ (rdSl_lit w5 _ _ _ _ rfl rfl (all3s hr1 hr4 ho5.rd))).mono ?_
  rintro e w6 ⟨L6, A6, c6, H6, rfl, ho6, hc6, hb6⟩
  have H6e := Lib.hid (show L6 = numN 1 ++ kN ++ numN 0 by rw [H6.out]; simp [flat, H1.out, H4.out, H5.out])
  have hl6 : L6.length ≤ 409 := by
    have := congrArg List.length H6e.out
    simp only [List.length_append, numN_length] at this
    have := congrArg List.length H4.out
    omega
  have hB6 := below_next hB5a hb6
  have ho2f := (ho2e.alloc (.cells #[.slice A1 L1.length c1, .slice A4 L4.length c4, .slice A5 L5.length c5] 67)).below hb6 (Nat.le_refl _)
  have hz5 := hB5a.size
  have hzw := hb1.size
  have hw16 : w1.heap.size ≤ w6.heap.size := by have := hb2.size; have := hb3.size; have := hb4.size; have := hb5.size; have := hb6.size; simp at this; omega
  clear hr1 hr4 ho5 ho2e
  go_wp2_with (at_builtin; refine wpList_append_bytes_at _ rfl (.tmp 41) (.tmp 42) _ rfl w6.heap.size 5 i0 Tryz.underlying67 hi hz0 hz1 hz2 _ _ [] rfl (OwnB.nil _ _ _) _ _ L2 rfl ho2f.rd (by simp; omega) (Nat.le_refl _) ?_; intro L7 A7 c7 w7 H7 ho7 hb7 _ _)
  rw [List.nil_append] at H7
  have hB7 := below_next hB6 hb7
  have ho6b := ho6.below hb7 (Nat.le_refl _)
  have hf7 := HConv.out w7 (Hf.out w7 hB7)
  have hz7 := hB7.size
  have hw67 := hb7.size
  clear ho2f hb7
  rw [rounds_succ]
  go_wp2_with fail
  refine (HTx.out w7).mono ?_
  rintro e w8 ⟨L8, A8, c8, H8, rfl, ho8, hc8, hb8⟩
  have hB8 := below_next hB7 hb8
  have ho6c := ho6b.below hb8 (Nat.le_refl _)
  have ho7c := ho7.below hb8 (Nat.le_refl _)
  have hl8 : L8.length ≤ 1004 := by rw [H8.out]; exact HSz.out
  have hw58 : (w5.alloc (.cells #[.slice A1 L1.length c1, .slice A4 L4.length c4, .slice A5 L5.length c5] 67)).heap.size ≤ w8.heap.size := Nat.le_trans hb6.size (Nat.le_trans hw67 hb8.size)
  clear hf7 ho6b ho7
  go_wp2_with (at_builtin; refine wpList_append_bytes_at _ rfl (.tmp 45) (.tmp 48) _ rfl (w5.alloc (.cells #[.slice A1 L1.length c1, .slice A4 L4.length c4, .slice A5 L5.length c5] 67)).heap.size 5 i0 Tryz.underlying67 hi hz0 hz1 hz2 _ _ L6 rfl ho6c _ _ L8 rfl ho8.rd (by omega) hw58 ?_; intro L9 A9 c9 w9 H9 ho9 hb9 hg9 _)
  have hB9 := hB8.trans (hb9.mono hz5)
  have H9e := Lib.hid (show L9 = rN by rw [H9.out, H6e.out, H8.out, HRe.out])
  have hl9 : L9.length ≤ 65535 := by rw [H9e.out]; exact Nat.le_trans HFl.out (by decide)
  have hb9' : Bytes L9 := by rw [H9e.out]; exact HFb.out
  have ho7d := ho7c.of_block (w' := w9) (fun q hq => hg9.block q (ho7c.lt q hq).2 (fun e => by have h1 := (ho6.lt q e.symm).2; have h2 := (ho7c.lt q hq).1; omega))
  clear ho6 ho6c ho7c ho8 hb8 hb9 hg9
  refine (fput_any A9 L9 c9 hb9' hl9 w9 ho9.rd).mono ?_
  rintro e w10 ⟨M, A10, c10, H10, rfl, ho10, hc10, hb10⟩
  have hB10 := below_next hB9 hb10
  have hMl : 12 ≤ M.length := by rw [H10.out, frameN_length]; omega
  have hd : ((M.length : Int) == 0) = false := by rw [beq_eq_false_iff_ne]; omega
  have HR7 := Lib.hid (ho7d.rd.below hb10 (Nat.le_refl _))
  have HR10 := Lib.hid ho10.rd
  have HM := Lib.hid (show M = fN by rw [H10.out, H9e.out, HFo.out, HRe.out])
  have HL7 := Lib.hid (show L7 = bN by rw [H7.out, H2.out])
  have HB10 := Lib.hid hB10
  clear ho7d ho9 ho10 hb10
  go_wp2
  go_ret3
  exact ⟨L7, M, A7, A10, c7, c10, HL7, HM, rfl, HR7.out, HR10.out, HB10.out⟩
theorem footN_len {c : Cl} (hok : ClOk c) {F : List Nat} (hF : F.length ≤ 1000) : (footN c F).length ≤ 1425 := by
  unfold footN; rw [frameN_length]; have := footR_len hok hF; omega
theorem tabN_len {c : Cl} (hok : ClOk c) {F : List Nat} (hF : F.length ≤ 1000) : (tabN c F).length ≤ 1846 := by
  unfold tabN; rw [List.length_append, List.length_append, numN_length]; have := footN_len hok hF; have := (blkN_len hok).2; omega
theorem tbytes_one (G Cap g cap : Nat) (c : Cl) (hok : ClOk c) (Af : Option Addr) (F : List Nat) (cf : Nat) (hF : F.length ≤ 1000) (W : World) (hG : W.cell? ⟨G, 0, none⟩ = some (.slice (some ⟨g, 0, none⟩) 1 cap)) (h : C5 W g c) (hf : RdB W Af F) :
    Calls Tryz.prog 320 #[.slice (some ⟨G, 0, none⟩) 1 Cap, .slice Af F.length cf] W fun e W' => ∃ (L : List Nat) (A : Option Addr) (a : Nat), Hid (L = tabN c F) ∧ e = .returned (.tuple #[.slice A L.length a, .int .i64 0]) ∧ OwnB 5 W' W.heap.size A a L ∧ L.length ≤ a ∧ Below W.heap.size W W' := by
  have HB := Lib.hid (tbuilt_one G Cap g cap c hok Af F cf hF W hG h hf)
  have HMl := Lib.hid (footN_len hok hF)
  have HBl := Lib.hid (blkN_len hok).2
  have HTe := Lib.hid (show tabN c F = blkN c ++ footN c F ++ numN (footN c F).length from rfl)
  clear hG h hf hok
  obtain ⟨bN, hbN⟩ : ∃ bN, bN = blkN c := ⟨_, rfl⟩
  obtain ⟨fN, hfN⟩ : ∃ fN, fN = footN c F := ⟨_, rfl⟩
  obtain ⟨tN, htN⟩ : ∃ tN, tN = tabN c F := ⟨_, rfl⟩
  rw [← htN, ← hbN, ← hfN] at HTe
  rw [← hbN, ← hfN] at HB
  rw [← hbN] at HBl
  rw [← hfN] at HMl
  rw [← htN]
  clear hbN hfN htN
  go_enter Tryz.func320, Tryz.ntmps320
  go_wp2_with fail
  refine HB.out.mono ?_
  rintro e w1 ⟨L, M, A, B, a, b, HL, HM, rfl, hrA, hrB, hb1⟩
  have hMl : M.length ≤ 1425 := by rw [HM.out]; exact HMl.out
  have hLl : L.length ≤ 417 := by rw [HL.out]; exact HBl.out
  go_wp2_with fail
  refine (num_any M.length (by omega) w1).mono ?_
  rintro e w2 ⟨L2, A2, c2, H2, rfl, ho2, hc2, hb2⟩
  have hl2 : L2.length ≤ 4 := by rw [H2.out]; exact Nat.le_refl _
  have hB2 := below_next hb1 hb2
  have hA2 := hrA.below hb2 (Nat.le_refl _)
  have hM2 := hrB.below hb2 (Nat.le_refl _)
  have hB2a := hB2.alloc hB2.size (.cells #[.slice A L.length a, .slice B M.length b, .slice A2 L2.length c2] 67)
  have hz := hB2a.size
  clear hrA hrB
  go_wp2_with fail
  refine (concat_n _ [(A, a, L), (B, b, M), (A2, c2, L2)] 3 3 rfl (by simp) (by simp [flat]; omega) _ (rdSl_lit w2 _ _ _ _ rfl rfl (all3s hA2 hM2 ho2.rd))).mono ?_
  rintro e w3 ⟨L3, A3, c3, H3, rfl, ho3, hc3, hb3⟩
  have H3e := Lib.hid (show L3 = tN by rw [H3.out, HTe.out, ← HL.out, ← HM.out]; simp [flat, H2.out])
  have HO3 := Lib.hid (own_base ho3 hz)
  have HB3 := Lib.hid (below_next hB2a hb3)
  clear hA2 hM2 ho2 ho3 hb3
  go_wp2
  go_ret2
  exact ⟨L3, A3, c3, H3e, rfl, HO3.out, hc3, HB3.out⟩
theorem tbuild_one (base g cap : Nat) (c : Cl) (hok : ClOk c) (hlen : 100 ≤ (cellN c).length) (W : World) (h : One W base g cap c) :
    Calls Tryz.prog 300 #[.slice (some ⟨g, 0, none⟩) 1 cap, .int .i64 100] W fun e W' => ∃ (L : List Nat) (A : Option Addr) (a : Nat), Hid (L = tabN c (makeF [keyS c.row c.col])) ∧ e = .returned (.tuple #[.slice A L.length a, .int .i64 0]) ∧ OwnB 5 W' W.heap.size A a L ∧ L.length ≤ a ∧ Below W.heap.size W W' := by
  have hgl := h.lt
  have HC := Lib.hid (bcut_one base g cap c hok hlen W h)
  have HF := Lib.hid (fun w (hb : Below W.heap.size W w) => tfilter_one g cap c hok w (h.c5.below hb hgl.2))
  have hFl : (makeF [keyS c.row c.col]).length ≤ 1000 := by unfold makeF; rw [Bl.makeN_length]; unfold filt; simp
  have HBy := Lib.hid (fun G Cap g1 cap1 Af L (hL : Hid (L = makeF [keyS c.row c.col])) cf w hG h1 hf => tbytes_one G Cap g1 cap1 c hok Af L cf (by rw [hL.out]; exact hFl) w hG h1 hf)
  clear h hok hlen hFl
  obtain ⟨fN, hfN⟩ : ∃ fN, fN = makeF [keyS c.row c.col] := ⟨_, rfl⟩
  rw [← hfN] at HF HBy ⊢
  clear hfN
  go_enter Tryz.func300, Tryz.ntmps300
  go_wp2_with fail
  refine HC.out.mono ?_
  rintro e w1 ⟨G, Cap, g1, cap1, rfl, hG1, hO1, hb1⟩
  go_wp2_with fail
  refine (HF.out w1 hb1).mono ?_
  rintro e w2 ⟨L2, A2, c2, H2, rfl, ho2, hb2⟩
  have hB2 := below_next hb1 hb2
  have hG2 := (hb2.cell (p := ⟨G, 0, none⟩) hG1.lt.2).trans hG1.cell
  have hO2 := (hO1.of_block (hb2.block g1 hO1.lt.2)).c5
  have hr2 : RdB w2 A2 L2 := Own.rd ho2
  go_wp2_with fail
  refine (HBy.out G Cap g1 cap1 A2 L2 H2 c2 w2 hG2 hO2 hr2).mono ?_
  rintro e w3 ⟨L3, A3, c3, H3, rfl, ho3, hc3, hb3⟩
  have HB3 := Lib.hid (below_next hB2 hb3)
  have HO3 := Lib.hid (own_base ho3 hB2.size)
  have H3e := Lib.hid (show L3 = tabN c fN by rw [H3.out, H2.out])
  clear hG1 hO1 hG2 hO2 hr2 ho2 ho3 hb1 hb2 hb3 hB2
  go_wp2
  go_ret2
  exact ⟨L3, A3, c3, H3e, rfl, HO3.out, hc3, HB3.out⟩
theorem tcutable_one (G Cap g cap : Nat) (c : Cl) (hok : ClOk c) (W : World) (hG : W.cell? ⟨G, 0, none⟩ = some (.slice (some ⟨g, 0, none⟩) 1 cap)) (h : C5 W g c) :
    Calls Tryz.prog 324 #[.slice (some ⟨G, 0, none⟩) 1 Cap] W fun e W' => e = .returned (.bool true) ∧ Below W.heap.size W W' := by
  have HPut := Lib.hid (fun w => cput_any c hok w)
  have HKl := Lib.hid (cellN_le hok)
  obtain ⟨kN, hkN⟩ : ∃ kN, kN = cellN c := ⟨_, rfl⟩
  rw [← hkN] at HPut HKl
  clear hkN hok
  obtain ⟨q0, q1, q2, q3, q4⟩ := h
  obtain ⟨r, k, t, v, d⟩ := c
  unfold clv clcells at HPut
  simp only [] at q0 q1 q2 q3 q4 HPut
  go_enter Tryz.func324, Tryz.ntmps324
  go_wp2
  refine wp_loop_rounds 2 ?_
  rw [rounds_succ]
  go_wp2
  refine wp_loop_rounds 2 ?_
  rw [rounds_succ]
  go_wp2_with fail
  generalize hw1 : World.alloc W _ = w1
  have hb1 := named_below hw1.symm
  clear hw1 q0 q1 q2 q3 q4 hG
  refine (HPut.out w1).mono ?_
  rintro e w2 ⟨L2, A2, c2, H2, rfl, ho2, hc2, hb2⟩
  have hl2 : L2.length ≤ 401 := by rw [H2.out]; exact HKl.out
  have HB2 := Lib.hid (below_next hb1 hb2)
  clear ho2 hb2 hb1
  go_wp2
  rw [rounds_succ]
  go_wp2
  rw [rounds_succ]
  go_wp2
  go_ret
  exact ⟨rfl, HB2.out⟩
end Go.Proofs.YtoigogjmhkpdlaaGreat
