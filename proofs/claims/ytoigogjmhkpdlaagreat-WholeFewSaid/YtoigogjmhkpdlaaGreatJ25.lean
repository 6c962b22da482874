/- A part of the proof of WholeFew: the texts BlockA, BlockB, BlockC. -/
import Derived.Test.YtoigogjmhkpdlaaGreatJ04
import Derived.Test.YtoigogjmhkpdlaaGreatJ08
import Derived.Test.YtoigogjmhkpdlaaGreatJ17
import Derived.Test.YtoigogjmhkpdlaaGreatJ24
import Derived.WalkMore
set_option maxHeartbeats 3200000
set_option maxRecDepth 100000
namespace Go.Proofs.YtoigogjmhkpdlaaGreat
open Go.RowKit
theorem Tryz.infoCl : (Tryz.prog.info? 93).map (fun i => (i.zero, i.size, i.bytes)) = some (some (.agg #[.string ByteArray.empty, .string ByteArray.empty, .int .i64 0, .string ByteArray.empty, .bool false]), 5, 64) := by kernel_rfl
theorem Tryz.infoBs : (Tryz.prog.info? 41).map (fun i => (i.zero, i.size, i.bytes)) = some (some (.slice none 0 0), 1, 24) := by kernel_rfl
def One (W : World) (base g cap : Nat) (c : Cl) : Prop := OwnT clcells 93 5 W base (some ⟨g, 0, none⟩) cap [c]
theorem One.lt {W : World} {base g cap : Nat} {c : Cl} (h : One W base g cap c) : base ≤ g ∧ g < W.heap.size := OwnT.lt h g rfl
theorem One.c5 {W : World} {base g cap : Nat} {c : Cl} (h : One W base g cap c) : C5 W g c := OwnT.c5 h
theorem One.of_block {W W' : World} {base g cap : Nat} {c : Cl} (h : One W base g cap c) (hb : W'.heap[g]? = W.heap[g]?) : One W' base g cap c := OwnT.of_block h fun k hk => by
  have : g = k := by simpa [blk] using hk
  rw [← this]; exact hb
theorem One.cap {W : World} {base g cap : Nat} {c : Cl} (h : One W base g cap c) : 1 ≤ cap ∧ cap ≤ maxLen := OwnT.cap h
theorem clonec_one (base g cap : Nat) (c : Cl) (W : World) (h : One W base g cap c) : Calls Tryz.prog 42 #[.slice (some ⟨g, 0, none⟩) 1 cap] W fun e W' => ∃ g' cap', e = .returned (.slice (some ⟨g', 0, none⟩) 1 cap') ∧ One W' W.heap.size g' cap' c ∧ Below W.heap.size W W' := by
  obtain ⟨i1, hi1, hy0, hy1, hy2⟩ := info_parts Tryz.infoCl
  have hgl := h.lt
  have hq := fun w => Lib.run_eql_slice_nil (P := Tryz.prog) w 41 93 (some ⟨g, 0, none⟩) 1 cap 0 0 Tryz.underlying41
  have HO := Lib.hid h
  clear h
  go_enter Tryz.func42, Tryz.ntmps42
  go_wp2_with (at_builtin; refine wpList_append_stl clcells _ clcells_one rfl _ _ _ rfl W.heap.size 93 i1 _ 5 64 clcells_len (by decide) Tryz.underlying41 hi1 hy0 hy1 hy2 rfl _ _ [] rfl (OwnT.lit clcells _ 5 _ _ _ [] clcells_len (Nat.le_refl _) (Nat.zero_le _) rfl) base _ _ [c] rfl (HO.out.of_block (heap_alloc_old _ _ hgl.2)) (by simp [maxLen]) (by simp) (by simp) ?_; intro L A2 c2 w2 HL ho2 hb2 hg2 ha2)
  have hLc : L = [c] := HL.out
  subst hLc
  obtain ⟨g', rfl, hg'⟩ := ho2.form (by simp)
  go_ret
  exact ⟨g', c2, rfl, ho2, (Below.refl W.heap.size W).alloc (Nat.le_refl _) _ |>.trans hb2⟩
def bcells (p : Nat × Nat) : List Value := [.slice (some ⟨p.1, 0, none⟩) 1 p.2]
theorem bcells_len (p : Nat × Nat) : (bcells p).length = 1 := rfl
theorem bcells_one (p : Nat × Nat) : ∀ u ∈ bcells p, u.oneCell' = true := by
  intro u hu
  simp only [bcells, List.mem_cons, List.not_mem_nil, or_false] at hu
  rw [hu]; rfl
def Bl1 (W : World) (base G Cap : Nat) (p : Nat × Nat) : Prop := OwnT bcells 41 1 W base (some ⟨G, 0, none⟩) Cap [p]
theorem Bl1.lt {W : World} {base g cap : Nat} {p : Nat × Nat} (h : Bl1 W base g cap p) : base ≤ g ∧ g < W.heap.size := OwnT.lt h g rfl
theorem Bl1.cell {W : World} {base g cap : Nat} {p : Nat × Nat} (h : Bl1 W base g cap p) : W.cell? ⟨g, 0, none⟩ = some (.slice (some ⟨p.1, 0, none⟩) 1 p.2) := OwnT.cell h bcells_len 0 0 (by simp) _ rfl
theorem Bl1.of_block {W W' : World} {base g cap : Nat} {p : Nat × Nat} (h : Bl1 W base g cap p) (hb : W'.heap[g]? = W.heap[g]?) : Bl1 W' base g cap p := OwnT.of_block h fun k hk => by
  have : g = k := by simpa [blk] using hk
  rw [← this]; exact hb
theorem bcut_one (base g cap : Nat) (c : Cl) (hok : ClOk c) (hlen : 100 ≤ (cellN c).length) (W : World) (h : One W base g cap c) : Calls Tryz.prog 319 #[.slice (some ⟨g, 0, none⟩) 1 cap, .int .i64 100] W fun e W' => ∃ G Cap g1 cap1, e = .returned (.tuple #[.slice (some ⟨G, 0, none⟩) 1 Cap, .int .i64 0]) ∧ Bl1 W' W.heap.size G Cap (g1, cap1) ∧ One W' W.heap.size g1 cap1 c ∧ Below W.heap.size W W' := by
  obtain ⟨i1, hi1, hy0, hy1, hy2⟩ := info_parts Tryz.infoBs
  have hgl := h.lt
  have hcap := h.cap
  unfold maxLen at hcap
  have HSo := Lib.hid (fun w (hb : Below W.heap.size W w) => sorted_one g cap c hok w (h.c5.below hb hgl.2))
  have HPut := Lib.hid (fun w => cput_any c hok w)
  have HCl := Lib.hid (fun w (hb : Below W.heap.size W w) => clonec_one base g cap c w (h.of_block (hb.block g hgl.2)))
  have HC5 := Lib.hid (fun w (hb : Below W.heap.size W w) => h.c5.below hb hgl.2)
  have HLen := Lib.hid hlen
  clear h hok hlen
  obtain ⟨r, k, t, v, d⟩ := c
  unfold C5 at HC5
  unfold clv clcells at HPut
  simp only [] at HC5 HPut
  go_enter Tryz.func319, Tryz.ntmps319
  go_wp2
  go_step3
  go_wp2_with (first | (go_at_call 323; refine (HSo.out W (Below.refl _ _)).mono ?_; rintro e w1 ⟨rfl, hb1⟩))
  have hz1 := hb1.size
  go_step3
  go_wp2
  refine wp_loop_rounds 2 ?_
  rw [rounds_succ]
  go_wp2
  refine wp_loop_rounds 1 ?_
  rw [rounds_succ]
  obtain ⟨q0, q1, q2, q3, q4⟩ := HC5.out w1 hb1
  go_wp2_with fail
  generalize hw2 : World.alloc w1 _ = w2
  have hb2 := named_below hw2.symm
  clear hw2 q0 q1 q2 q3 q4
  have hB2 := below_next hb1 hb2
  refine (HPut.out w2).mono ?_
  rintro e w3 ⟨L3, A3, c3, H3, rfl, ho3, hc3, hb3⟩
  have hB3 := below_next hB2 hb3
  have hl3 : 100 ≤ L3.length := by rw [H3.out]; exact HLen.out
  have hl4 : L3.length ≤ 9223372036854775807 := by have := ho3.capmax; unfold maxLen at this; omega
  have hd : decide (((100 : Int)) ≤ ((L3.length : Nat) : Int)) = true := by simp; omega
  clear H3 ho3 hc3
  have hc0 : ¬ cap = 0 := by omega
  have hci : (1 : Int) ≤ ((cap : Nat) : Int) := by omega
  have hcs : cap = 1 ∨ ¬ cap = 1 := by omega
  have HS3 := (HC5.out w3 hB3).1
  have HS3d := (HC5.out w3.drew hB3.drew).1
  clear hcap
  have hwr : IntKind.i64.wrap 1 = 1 := by decide
  rcases hcs with rfl | hc1
  all_goals
    go_wp2
    go_region_held3 (fun w' => w'.cell? ⟨g, 0, none⟩ = some (.string r)) (first | with_reducible exact HS3 | with_reducible exact HS3d | with_reducible exact HS4 | with_reducible exact HS4a _ | with_reducible exact HS5) (first
      | (have _ := HS4; go_must (refine step_append_st bcells _ bcells_one (by rfl) _ _ _ (by rfl) W.heap.size 41 i1 _ 1 24 bcells_len (by decide) Tryz.underlying364 hi1 hy0 hy1 hy2 (by rfl) _ _ [] (by rfl) (OwnT.nil _ _ _ _ _) w4.heap.size _ (g1, cap1) (0, 0) _ (by rfl) (heap_alloc_new _ _) (by unfold maxLen; simp) (by simp) (by simp; omega) ?_; intro X5 B5 d5 w5 hX5 ho5 hb5 hg5 ha5; have HS5 := (HC5.out w5 (hB4a.trans hb5)).1))
      | (go_at_call 42; refine (HCl.out w3.drew hB3.drew).mono ?_; rintro e w4 ⟨g1, cap1, rfl, hO4, hb4'⟩; have hb4 := below_undrew hb4'; have hz4 := hb4.size; have hB4 := below_next hB3 hb4; have hZ4 := hB4.size; have HS4 := (HC5.out w4 hB4).1; have hB4a := hB4.alloc hB4.size (.cells #[.slice (some ⟨g1, 0, none⟩) 1 cap1] 41); have HS4a := fun o => (HC5.out (w4.alloc o) (hB4.alloc hB4.size o)).1))
    have hXe : X5 = [(g1, cap1)] := hX5.out
    subst hXe
    obtain ⟨G, rfl, hG⟩ := ho5.form (by simp)
    have hOG := hO4.lt
    have hg14 : w4.heap.size ≠ g1 := by omega
    have hO5 : One w5 W.heap.size g1 cap1 ⟨r, k, t, v, d⟩ := by
      refine OwnT.low (b' := W.heap.size) ((show OwnT clcells 93 5 w5 w3.heap.size (some ⟨g1, 0, none⟩) cap1 [⟨r, k, t, v, d⟩] from One.of_block hO4 ?_)) (by have := hB3.size; omega)
      exact (hg5.block g1 (by simp; omega) (by simp [blk])).trans (heap_alloc_old _ _ hOG.2)
    have HO5 := Lib.hid hO5
    have Ho5 := Lib.hid ho5
    have HB5 := Lib.hid (hB4a.trans hb5)
    clear hO4 hO5 ho5 hb5 hg5 ha5 HS3 HS3d HS4 HS4a HS5
    go_wp2
    rw [rounds_succ]
    go_wp2
    rw [Exit.noGoto_ret]
    go_ret2
    exact ⟨G, d5, g1, cap1, rfl, Ho5.out, HO5.out, HB5.out⟩
theorem cellN_le {c : Cl} (h : ClOk c) : (cellN c).length ≤ 401 := by
  have h2 := h.r2; have h4 := h.c2; have h7 := h.v
  unfold cellN textN
  simp only [List.length_append, numN_length, keyN_length, List.length_singleton]
  omega
def recC (c : Cl) : List Nat := numN 1 ++ cellN c
def blkN (c : Cl) : List Nat := frameN (recC c)
theorem recC_bytes (c : Cl) : Bytes (recC c) := fun x hx => by
  rcases List.mem_append.1 hx with h | h
  · exact numN_bytes _ x h
  · exact cellN_bytes c x h
theorem recC_len {c : Cl} (h : ClOk c) : (recC c).length ≤ 405 := by
  unfold recC; rw [List.length_append, numN_length]; have := cellN_le h; omega
theorem blkN_len {c : Cl} (h : ClOk c) : 16 ≤ (blkN c).length ∧ (blkN c).length ≤ 417 := by
  unfold blkN frameN; rw [List.length_append, headN_length]; have := recC_len h
  have : 4 ≤ (recC c).length := by unfold recC; rw [List.length_append, numN_length]; omega
  omega
theorem bput_one (g cap : Nat) (c : Cl) (hok : ClOk c) (W : World) (h : C5 W g c) : Calls Tryz.prog 340 #[.slice (some ⟨g, 0, none⟩) 1 cap] W fun e W' => ∃ (L : List Nat) (A : Option Addr) (cc : Nat), Hid (L = blkN c) ∧ e = .returned (.tuple #[.slice A L.length cc, .int .i64 0]) ∧ OwnB 5 W' W.heap.size A cc L ∧ L.length ≤ cc ∧ Below W.heap.size W W' := by
  obtain ⟨i0, hi, hz0, hz1, hz2⟩ := info_parts Tryz.infoB
  have hgl := h.lt
  have HSo := Lib.hid (fun w (hb : Below W.heap.size W w) => sorted_one g cap c hok w (h.below hb hgl))
  have HPut := Lib.hid (fun w => cput_any c hok w)
  have HC5 := Lib.hid (fun w (hb : Below W.heap.size W w) => h.below hb hgl)
  have HLe := Lib.hid (cellN_le hok)
  have HBl := Lib.hid (blkN_len hok)
  have HRb := Lib.hid (recC_bytes c)
  have HRe := Lib.hid (show recC c = numN 1 ++ cellN c from rfl)
  have HBe := Lib.hid (show blkN c = frameN (recC c) from rfl)
  clear h hok
  obtain ⟨cN, hcN⟩ : ∃ cN, cN = cellN c := ⟨_, rfl⟩
  obtain ⟨rN, hrN⟩ : ∃ rN, rN = recC c := ⟨_, rfl⟩
  obtain ⟨bN, hbN⟩ : ∃ bN, bN = blkN c := ⟨_, rfl⟩
  rw [← hbN, ← hrN] at HBe
  rw [← hcN, ← hrN] at HRe
  rw [← hcN] at HPut HLe
  rw [← hbN] at HBl ⊢
  rw [← hrN] at HRb
  clear hcN hrN hbN
  obtain ⟨r, k, t, v, d⟩ := c
  unfold C5 at HC5
  unfold clv clcells at HPut
  simp only [] at HC5 HPut
  go_enter Tryz.func340, Tryz.ntmps340
  go_wp2_with fail
  refine (HSo.out W (Below.refl _ _)).mono ?_
  rintro e w1 ⟨rfl, hb1⟩
  go_wp2_with fail
  refine (num_i 1 1 rfl (by decide) w1).mono ?_
  rintro e w2 ⟨L2, A2, c2, H2, rfl, ho2, hc2, hb2⟩
  have hl2 : L2.length ≤ 4 := by rw [H2.out]; exact Nat.le_refl _
  have hB2 := below_next hb1 hb2
  go_wp2
  refine wp_loop_rounds 2 ?_
  rw [rounds_succ]
  obtain ⟨q0, q1, q2, q3, q4⟩ := HC5.out w2 hB2
  go_wp2_with fail
  generalize hw3 : World.alloc w2 _ = w3
  have hb3 := named_below hw3.symm
  clear hw3 q0 q1 q2 q3 q4
  have hB3 := below_next hB2 hb3
  have ho3 := ho2.below hb3 (Nat.le_refl _)
  refine (HPut.out w3).mono ?_
  rintro e w4 ⟨L4, A4, c4, H4, rfl, ho4, hc4, hb4⟩
  have hB4 := below_next hB3 hb4
  have ho5 := ho3.below hb4 (Nat.le_refl _)
  have hl4 : L4.length ≤ 401 := by rw [H4.out]; exact HLe.out
  have hs1 := hb1.size
  have hz4 : w1.heap.size ≤ w4.heap.size := by have := hb2.size; have := hb3.size; have := hb4.size; omega
  go_wp2_with (at_builtin; refine wpList_append_bytes _ rfl (.tmp 25) (.tmp 27) _ rfl w1.heap.size 5 i0 Tryz.underlying67 hi hz0 hz1 hz2 _ _ L2 rfl ho5 _ _ L4 rfl ho4.rd (by omega) hz4 ?_; intro L6 A6 c6 w6 H6 ho6 hb6)
  rw [rounds_succ]
  have hl6 : L6.length ≤ 65535 := by have := congrArg List.length H6.out; rw [List.length_append] at this; omega
  have HB6 := Lib.hid (hB4.trans (hb6.mono hs1))
  have H6r := Lib.hid (show L6 = rN by rw [H6.out, H2.out, H4.out, HRe.out])
  have hB6 : Bytes L6 := by rw [H6r.out]; exact HRb.out
  clear ho3 ho5 ho2 ho4
  go_wp2_with fail
  refine (fput_any A6 L6 c6 hB6 hl6 w6 ho6.rd).mono ?_
  rintro e w7 ⟨L7, A7, c7, H7, rfl, ho7, hc7, hb7⟩
  have hl7 : 1 ≤ L7.length := by have := HBl.out; rw [HBe.out, ← H6r.out, ← H7.out] at this; omega
  have hd : ((L7.length : Int) == 0) = false := by rw [beq_eq_false_iff_ne]; omega
  have HB7 := Lib.hid (below_next HB6.out hb7)
  go_wp2
  go_ret2
  exact ⟨L7, A7, c7, Lib.hid (by rw [H7.out, H6r.out, HBe.out]), rfl, ho7.base HB6.out.size, hc7, HB7.out⟩
theorem bcells_any (c : Cl) (hok : ClOk c) (A : Option Addr) (l : List Nat) (cc : Nat) (hl : Hid (l = recC c)) (hc : l.length ≤ cc) (hcm : cc ≤ 9223372036854775807) (W : World) (hr : RdB W A l) :
    Calls Tryz.prog 337 #[.slice A l.length cc] W fun e W' => ∃ g cap, e = .returned (.tuple #[.slice (some ⟨g, 0, none⟩) 1 cap, .bool true]) ∧ One W' W.heap.size g cap c ∧ Below W.heap.size W W' := by
  obtain ⟨i1, hi1, hy0, hy1, hy2⟩ := info_parts Tryz.infoCl
  have hb : Bytes l := by rw [hl.out]; exact recC_bytes c
  have hll : l.length ≤ 405 := by rw [hl.out]; exact recC_len hok
  have HN := Lib.hid (cnum_at 1 (by decide) (cellN c) A l cc hl hb hc hcm (by omega) W hr)
  have HCut := Lib.hid (fun (A1 : Option Addr) (L1 : List Nat) (c1 : Nat) (h1 : Hid (L1 = cellN c)) (hc1 : L1.length ≤ c1) (hcm1 : c1 ≤ 9223372036854775807) (w : World) (hr1 : RdB w A1 L1) => ccut_any c hok [] A1 L1 c1 (Lib.hid (by rw [h1.out, List.append_nil])) (by rw [h1.out]; exact cellN_bytes c) hc1 hcm1 (by rw [h1.out]; have := cellN_le hok; omega) w hr1)
  clear hr hb hok
  obtain ⟨x, hx⟩ : ∃ x, x = c := ⟨_, rfl⟩
  have Hx := Lib.hid hx
  obtain ⟨r, k, t, v, d⟩ := c
  unfold clv clcells at HCut
  simp only [] at HCut
  go_enter Tryz.func337, Tryz.ntmps337
  go_wp2_with fail
  refine HN.out.mono ?_
  rintro e w1 ⟨L1, A1, c1, H1, rfl, hr1, hc1, hcm1, hb1⟩
  go_wp2
  refine wp_loop_rounds 2 ?_
  rw [rounds_succ]
  go_wp2_with fail
  generalize hw2 : World.alloc w1 _ = w2
  have hN2 := named_new hw2.symm
  have hb2 := named_below hw2.symm
  have hz2 : w1.heap.size < w2.heap.size := by rw [named_size hw2.symm]; omega
  clear hw2
  have hr2 := hr1.below hb2 (Nat.le_refl _)
  refine (HCut.out A1 L1 c1 H1 hc1 hcm1 w2 hr2).mono ?_
  rintro e w3 ⟨L3, A3, c3, H3, rfl, hr3, hc3, hcm3, hb3⟩
  have hL3 : L3 = [] := H3.out
  subst hL3
  have hN3 := (hb3.block w1.heap.size hz2).trans hN2
  have hB3 := below_next (below_next hb1 hb2) hb3
  have hz3 : w1.heap.size < w3.heap.size := Nat.lt_of_lt_of_le hz2 hb3.size
  have hzW : W.heap.size ≤ w1.heap.size := hb1.size
  have d0 : w3.cell? ⟨w1.heap.size, 0, none⟩ = some (.string { data := #[] }) := cob hN3 0 rfl
  have d1 : w3.cell? ⟨w1.heap.size, 1, none⟩ = some (.string { data := #[] }) := cob hN3 1 rfl
  have d2 : w3.cell? ⟨w1.heap.size, 2, none⟩ = some (.int .i64 0) := cob hN3 2 rfl
  have d3 : w3.cell? ⟨w1.heap.size, 3, none⟩ = some (.string { data := #[] }) := cob hN3 3 rfl
  have d4 : w3.cell? ⟨w1.heap.size, 4, none⟩ = some (.bool false) := cob hN3 4 rfl
  have hfr : ∀ j, w3.frozen? ⟨w1.heap.size, j, none⟩ = false := fun j => by simp [World.frozen?, hN3]
  have HN3 := Lib.hid hN3
  clear hN2 hN3 hr1 hr2 hr3 hb1 hb2 hb3
  go_upto_region 7 with (fail)
  obtain ⟨hf9, hgr, hz9⟩ := cl_store w3 w1.heap.size _ HN3.out rfl (r) (k) (t) (v) (d)
  generalize World.setCell _ ⟨w1.heap.size, 4, none⟩ _ = w4 at hf9 hgr hz9 ⊢
  clear d0 d1 d2 d3 d4 hfr
  have hB4 := hB3.grown hgr (by omega) (fun q hq => by injection hq with hq; omega)
  have e0 : w4.cell? ⟨w1.heap.size, 0, none⟩ = some (.string r) := cob hf9 0 rfl
  have e1 : w4.cell? ⟨w1.heap.size, 1, none⟩ = some (.string k) := cob hf9 1 rfl
  have e2 : w4.cell? ⟨w1.heap.size, 2, none⟩ = some (.int .i64 t) := cob hf9 2 rfl
  have e3 : w4.cell? ⟨w1.heap.size, 3, none⟩ = some (.string v) := cob hf9 3 rfl
  have e4 : w4.cell? ⟨w1.heap.size, 4, none⟩ = some (.bool d) := cob hf9 4 rfl
  have hz10 : w3.heap.size ≤ w4.heap.size := by omega
  clear hf9 hgr hz9
  go_wp2_with (at_builtin; refine wpList_append_st clcells _ clcells_one rfl _ _ _ rfl W.heap.size 93 i1 _ 5 64 clcells_len (by decide) Tryz.underlying41 hi1 hy0 hy1 hy2 rfl _ _ [] rfl (OwnT.nil _ _ _ _ _) w4.heap.size _ ⟨r, k, t, v, d⟩ (0, 0) _ rfl (heap_alloc_new _ _) (by simp [maxLen]) (by simp) (by simp; omega) ?_; intro X5 A5 c5 w5 H5 ho5 hb5 hg5 ha5)
  have hX5 : X5 = [⟨r, k, t, v, d⟩] := H5.out
  subst hX5
  obtain ⟨g5, rfl, hg⟩ := ho5.form (by simp)
  have HO5 := Lib.hid ho5
  have HB5 := Lib.hid ((hB4.alloc hB4.size _).trans hb5)
  clear e0 e1 e2 e3 e4 ho5 hb5 hg5 ha5
  rw [rounds_succ]
  go_wp2
  go_ret2
  exact ⟨g5, c5, rfl, HO5.out, HB5.out⟩
theorem bget_one (c : Cl) (hok : ClOk c) (R : List Nat) (hR : Bytes R) (hRl : R.length ≤ 100000) (A : Option Addr) (l : List Nat) (cc : Nat) (hl : Hid (l = blkN c ++ R)) (hc : l.length ≤ cc) (hcm : cc ≤ 9223372036854775807) (W : World) (hr : RdB W A l) :
    Calls Tryz.prog 322 #[.slice A l.length cc] W fun e W' => ∃ (g cap : Nat) (L : List Nat) (A' : Option Addr) (c' : Nat), Hid (L = R) ∧ e = .returned (.tuple #[.slice (some ⟨g, 0, none⟩) 1 cap, .slice A' L.length c', .int .i64 0]) ∧ One W' W.heap.size g cap c ∧ RdB W' A' L ∧ L.length ≤ c' ∧ c' ≤ 9223372036854775807 ∧ Below W.heap.size W W' := by
  have hcut : cutF l = some (recC c, R) := by rw [hl.out]; exact cutF_frame _ _ (by have := recC_len hok; omega)
  have hb : Bytes l := by
    rw [hl.out]; intro x hx
    rcases List.mem_append.1 hx with h | h
    · exact frameN_bytes (recC_bytes c) x h
    · exact hR x h
  have hll : l.length ≤ 100417 := by rw [hl.out, List.length_append]; have := (blkN_len hok).2; omega
  have HF := Lib.hid (fcut_any A l cc hb hc hcm (by omega) W hr)
  have HCut := Lib.hid hcut
  have HCe := Lib.hid (fun A1 l1 cc1 h1 h2 h3 w h4 => bcells_any c hok A1 l1 cc1 h1 h2 h3 w h4)
  have HSo := Lib.hid (fun g cap w h => sorted_one g cap c hok w h)
  clear hcut hb hr hl hR
  go_enter Tryz.func322, Tryz.ntmps322
  go_wp2_with fail
  refine HF.out.mono ?_
  rintro e w1 (⟨hx, _⟩ | ⟨r, s, A1, B1, c1, d1, hx, rfl, hrA, hrB, hc1, hcm1, hd1, hdm1, _, _, hb1⟩)
  · rw [HCut.out] at hx; cases hx
  rw [HCut.out] at hx
  injection hx with hx
  injection hx with hx1 hx2
  have H1 := Lib.hid hx1.symm
  have H2 := Lib.hid hx2.symm
  clear hx1 hx2
  have hs : s.length ≤ 100000 := by rw [H2.out]; exact hRl
  go_wp2_with fail
  refine (HCe.out A1 r c1 H1 hc1 hcm1 w1 hrA).mono ?_
  rintro e w2 ⟨g, cap, rfl, hO2, hb2⟩
  have hB2 := below_next hb1 hb2
  have hrB2 := hrB.below hb2 (Nat.le_refl _)
  clear hrA hrB
  go_wp2_with fail
  refine (HSo.out g cap w2 hO2.c5).mono ?_
  rintro e w3 ⟨rfl, hb3⟩
  have hB3 := below_next hB2 hb3
  have hrB3 := hrB2.below hb3 (Nat.le_refl _)
  have hO3 := hO2.of_block (hb3.block g hO2.lt.2)
  clear hrB2 hO2
  go_wp2_with fail
  refine (clone_any B1 s d1 (by omega) w3 hrB3).mono ?_
  rintro e w4 ⟨L, A', c', HL, rfl, ho4, hc4, hb4⟩
  have hB4 := below_next hB3 hb4
  have hO4 := hO3.of_block (hb4.block g hO3.lt.2)
  have hcm4 := ho4.capmax
  unfold maxLen at hcm4
  have hO5 := Lib.hid (OwnT.low (b' := W.heap.size) hO4 hb1.size)
  have Ho4 := Lib.hid ho4.rd
  clear hO3 hO4 ho4 hrB3
  go_wp2
  go_ret3
  exact ⟨g, cap, L, A', c', Lib.hid (by rw [HL.out, H2.out]), rfl, hO5.out, Ho4.out, hc4, hcm4, hB4⟩
end Go.Proofs.YtoigogjmhkpdlaaGreat
