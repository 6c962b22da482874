/- A part of the proof of WholeFew: the texts AskA. -/
import Derived.Test.YtoigogjmhkpdlaaGreatJ39
import Derived.Deep.DeepCutAuto
set_option maxHeartbeats 6400000
set_option maxRecDepth 100000
namespace Go.Proofs.YtoigogjmhkpdlaaGreat
open Go.RowKit
theorem Tryz.infoAk : (Tryz.prog.info? 126).map (fun i => (i.zero, i.size, i.bytes)) = some (some (.agg #[.int .i64 0, .int .i64 0, .int .i64 0, .int .i64 0, .string ByteArray.empty, .string ByteArray.empty, .string ByteArray.empty, .int .i64 0, .string ByteArray.empty, .string ByteArray.empty, .bool false]), 11, 128) := by kernel_rfl
theorem cask_of (s : Shp) (x0 : Cm) (m : Nat) (C i : Nat) (y : Sp) (hyn : y.node = (i : Int)) (p : Nat → Nat → Prop) (q : Kc) (nodes : List Mdl.Nm) (l : List Pk) (nx clock : Nat) (hclock : clock < 1000000) (n n' : Mdl.Nm) (N : Nat) (hi : nodes[i]? = some n) (hup : n.up = true) (hup' : n'.up = n.up) (hN : q.nds[i]? = some N) (hasked : q.asked.length ≤ 1000000) (hbef : ∀ a ∈ l, a.due ≤ clock ∧ a.no < nx) (W : World) (hK : KIs W p C s m x0 q nodes l nx clock)
    (QA : List Mg → Prop)
    (HA : ∀ w, NdAt w (p (7 + i)) N s i m x0 n → Lt (p (7 + i)) w → Calls Tryz.prog 63 #[.pointer (some ⟨N, 0, none⟩), cmv y.cmd] w fun e w' => ∃ (L : List Mg) (B : Option Addr) (cc : Nat) (S1 : Nat → Prop), e = .returned (.tuple #[.slice none 0 0, .slice B L.length cc]) ∧ OwnT mcells 133 11 w' w.heap.size B cc L ∧ l.length + L.length ≤ 400 ∧ nx + L.length ≤ 900000 ∧ Step (p (7 + i)) w w' S1 ∧ NdAt w' S1 N s i m x0 n' ∧ QA L) :
    Calls Tryz.prog 31 #[.pointer (some ⟨C, 0, none⟩), spv y] W fun e W' => e = .returned (.tuple #[]) ∧ ∃ p' q' L, KIs W' p' C s m x0 q' (nodes.set i n') (l ++ sentT clock nx L) (nx + L.length) clock ∧ Step (uni p) W W' (uni p') ∧ q'.told = q.told ∧ q'.seen = q.seen ∧ q'.asked.length = q.asked.length + 1 ∧ QA L := by
  obtain ⟨i1, hi1, hy0, hy1, hy2⟩ := info_parts Tryz.infoAk
  have hCl := hK.clt
  obtain ⟨nds, A, ac, U, uc, G, K, kc, asked, T, tc, told, Z, zc, seen⟩ := q
  simp only [] at hN hasked
  obtain ⟨hil, hie⟩ := List.getElem?_eq_some_iff.1 hN
  obtain ⟨ga, rfl, _, hga, _⟩ := hK.hA.form (show 0 < nds.length by omega)
  have a0 := hK.hA.cell ncell_len i 0 hil (.pointer (some ⟨N, 0, none⟩)) (by rw [show nds[i] = N from hie]; rfl)
  simp only [Nat.mul_one, Nat.add_zero] at a0
  have hupn : (nodes.map (·.up))[i]? = some true := by rw [List.getElem?_map, hi, ← hup]; rfl
  have hC := hK.hC
  unfold kcells at hC
  simp only [] at hC
  have hKC : blk K ≠ some C := fun e => hK.ne0 (i := 4) (by omega) (hK.sK C e)
  have hKa : blk K ≠ some ga := fun e => hK.pts.dj 1 4 (by omega) ga (hK.sA ga (by simp [blk])) (hK.sK ga e)
  have hCa : ga ≠ C := fun e => hK.ne0 (i := 1) (by omega) (hK.sA C (by simp [blk, e]))
  have hAl : ∀ k, blk K = some k → k < W.heap.size := fun k hk => (hK.hK.lt k hk).2
  have HUp := Lib.hid (fun w (hb : Below W.heap.size W w) => up_any C _ _ _ _ _ _ U uc 0 (nodes.map (·.up)) i true hupn w ((hb.block C hCl).trans hC) (hK.hU.of_block fun k hk => hb.block k (hK.hU.lt k hk).2))
  have HCb := Lib.hid (fun (w : World) (h : w.heap[C]? = W.heap[C]?) => h.trans hC)
  have HKi := Lib.hid hK
  have HN := Lib.hid hN
  have HI := Lib.hid hi
  have HUP := Lib.hid hup'
  have HBe := Lib.hid hbef
  obtain ⟨X, hX⟩ : ∃ X, W.heap[ga]? = some X := ⟨_, Array.getElem?_eq_getElem hga⟩
  have ka : ∀ w : World, w.heap[ga]? = some X → w.cell? ⟨ga, i, none⟩ = some (.pointer (some ⟨N, 0, none⟩)) := fun w hw => (World.cell?_of_block (hw.trans hX.symm)).trans a0
  have hO := hK.hK
  simp only [] at hO
  have d2 : ((i : Nat) : Int) < ((nds.length : Nat) : Int) := by omega
  have HAx := Lib.hid HA
  clear hC hupn a0 hN hi hup hup' hie hK HA hbef
  obtain ⟨kd, nd, j, full, ⟨cl0, sq, kind, row, col, tt, at_, value, expect, has⟩⟩ := y
  simp only at hyn
  subst hyn
  obtain ⟨y, hy⟩ : ∃ y : Sp, y = ⟨kd, (i : Int), j, full, ⟨cl0, sq, kind, row, col, tt, at_, value, expect, has⟩⟩ := ⟨_, rfl⟩
  have HY := Lib.hid hy
  clear hy
  unfold cmv cmcells at HAx
  unfold spv spcells cmcells
  simp only [List.cons_append, List.nil_append] at HAx ⊢
  go_enter Tryz.func31, Tryz.ntmps31
  go_wp2_with fail
  generalize hw1 : World.alloc W _ = w1
  have hB := named_new hw1.symm
  have hb1 := named_below hw1.symm
  have hz1 : W.heap.size < w1.heap.size := by rw [named_size hw1.symm]; omega
  clear hw1
  obtain ⟨V, hV⟩ : ∃ V, w1.heap[W.heap.size]? = some V := ⟨_, hB⟩
  have x0 : ∀ w : World, w.heap[W.heap.size]? = some V → w.cell? ⟨W.heap.size, 0, none⟩ = some (.int .i64 kd) := fun w hw => cob (hw.trans (hV.symm.trans hB)) 0 rfl
  have x1 : ∀ w : World, w.heap[W.heap.size]? = some V → w.cell? ⟨W.heap.size, 1, none⟩ = some (.int .i64 (i : Int)) := fun w hw => cob (hw.trans (hV.symm.trans hB)) 1 rfl
  have x2 : ∀ w : World, w.heap[W.heap.size]? = some V → w.cell? ⟨W.heap.size, 2, none⟩ = some (.int .i64 j) := fun w hw => cob (hw.trans (hV.symm.trans hB)) 2 rfl
  have x3 : ∀ w : World, w.heap[W.heap.size]? = some V → w.cell? ⟨W.heap.size, 3, none⟩ = some (.int .i64 0) := fun w hw => cob (hw.trans (hV.symm.trans hB)) 3 rfl
  have x4 : ∀ w : World, w.heap[W.heap.size]? = some V → w.cell? ⟨W.heap.size, 4, none⟩ = some (.bool full) := fun w hw => cob (hw.trans (hV.symm.trans hB)) 4 rfl
  have x5 : ∀ w : World, w.heap[W.heap.size]? = some V → w.cell? ⟨W.heap.size, 5, none⟩ = some (.slice none 0 0) := fun w hw => cob (hw.trans (hV.symm.trans hB)) 5 rfl
  have x6 : ∀ w : World, w.heap[W.heap.size]? = some V → w.cell? ⟨W.heap.size, 6, none⟩ = some (.int .i64 cl0) := fun w hw => cob (hw.trans (hV.symm.trans hB)) 6 rfl
  have x7 : ∀ w : World, w.heap[W.heap.size]? = some V → w.cell? ⟨W.heap.size, 7, none⟩ = some (.int .i64 sq) := fun w hw => cob (hw.trans (hV.symm.trans hB)) 7 rfl
  have x8 : ∀ w : World, w.heap[W.heap.size]? = some V → w.cell? ⟨W.heap.size, 8, none⟩ = some (.int .i64 kind) := fun w hw => cob (hw.trans (hV.symm.trans hB)) 8 rfl
  have x9 : ∀ w : World, w.heap[W.heap.size]? = some V → w.cell? ⟨W.heap.size, 9, none⟩ = some (.string row) := fun w hw => cob (hw.trans (hV.symm.trans hB)) 9 rfl
  have x10 : ∀ w : World, w.heap[W.heap.size]? = some V → w.cell? ⟨W.heap.size, 10, none⟩ = some (.string col) := fun w hw => cob (hw.trans (hV.symm.trans hB)) 10 rfl
  have x11 : ∀ w : World, w.heap[W.heap.size]? = some V → w.cell? ⟨W.heap.size, 11, none⟩ = some (.string tt) := fun w hw => cob (hw.trans (hV.symm.trans hB)) 11 rfl
  have x12 : ∀ w : World, w.heap[W.heap.size]? = some V → w.cell? ⟨W.heap.size, 12, none⟩ = some (.int .i64 at_) := fun w hw => cob (hw.trans (hV.symm.trans hB)) 12 rfl
  have x13 : ∀ w : World, w.heap[W.heap.size]? = some V → w.cell? ⟨W.heap.size, 13, none⟩ = some (.string value) := fun w hw => cob (hw.trans (hV.symm.trans hB)) 13 rfl
  have x14 : ∀ w : World, w.heap[W.heap.size]? = some V → w.cell? ⟨W.heap.size, 14, none⟩ = some (.string expect) := fun w hw => cob (hw.trans (hV.symm.trans hB)) 14 rfl
  have x15 : ∀ w : World, w.heap[W.heap.size]? = some V → w.cell? ⟨W.heap.size, 15, none⟩ = some (.bool has) := fun w hw => cob (hw.trans (hV.symm.trans hB)) 15 rfl
  clear hB
  have z1 := x1 w1 hV
  refine (HUp.out w1 hb1).mono ?_
  rintro e w1' ⟨rfl, rfl⟩
  have z6 := x6 w1 hV
  have z7 := x7 w1 hV
  have z8 := x8 w1 hV
  have z9 := x9 w1 hV
  have z10 := x10 w1 hV
  have z11 := x11 w1 hV
  have z12 := x12 w1 hV
  have z13 := x13 w1 hV
  have z14 := x14 w1 hV
  have z15 := x15 w1 hV
  have hC1 := HCb.out w1 (hb1.block C hCl)
  have c3 : w1.cell? ⟨C, 3, none⟩ = some (.int .i64 (clock : Int)) := cob hC1 3 rfl
  have c4 : w1.cell? ⟨C, 4, none⟩ = some (.slice K asked.length kc) := cob hC1 4 rfl
  have f4 : w1.frozen? ⟨C, 4, none⟩ = false := by simp [World.frozen?, hC1]
  have hO1 : OwnT akcells 126 11 w1 0 K kc asked := hO.of_block fun k hk => hb1.block k (hAl k hk)
  have HT := Lib.hid (fun (w' : World) (h : w'.heap[C]? = w1.heap[C]?) => (⟨cob (h.trans hC1) 3 rfl, cob (h.trans hC1) 4 rfl, by simp [World.frozen?, h.trans hC1]⟩ : w'.cell? ⟨C, 3, none⟩ = some (.int .i64 (clock : Int)) ∧ w'.cell? ⟨C, 4, none⟩ = some (.slice K asked.length kc) ∧ w'.frozen? ⟨C, 4, none⟩ = false))
  have HC1 := Lib.hid hC1
  have hCl1 : C < w1.heap.size := by omega
  have ca3 := fun o => (HT.out (w1.alloc o).drew (heap_alloc_old w1 o hCl1)).1
  have ca4 := fun o => (HT.out (w1.alloc o).drew (heap_alloc_old w1 o hCl1)).2.1
  have caf := fun o => (HT.out (w1.alloc o).drew (heap_alloc_old w1 o hCl1)).2.2
  have HX := Lib.hid hX
  have HV := Lib.hid hV
  have Hka := Lib.hid ka
  have Hx0 := Lib.hid x0
  have Hx1 := Lib.hid x1
  have Hx2 := Lib.hid x2
  have Hx3 := Lib.hid x3
  have Hx4 := Lib.hid x4
  have Hx5 := Lib.hid x5
  have Hx6 := Lib.hid x6
  have Hx7 := Lib.hid x7
  have Hx8 := Lib.hid x8
  have Hx9 := Lib.hid x9
  have Hx10 := Lib.hid x10
  have Hx11 := Lib.hid x11
  have Hx12 := Lib.hid x12
  have Hx13 := Lib.hid x13
  have Hx14 := Lib.hid x14
  have Hx15 := Lib.hid x15
  clear hC1 ka x0 x1 x2 x3 x4 x5 x6 x7 x8 x9 x10 x11 x12 x13 x14 x15 hX hV hO
  go_wp2
  go_cut [] (fun wx => ∃ (B4 : Option Addr) (d4 : Nat) (X2 : List (Nat × Cm)), X2.length = asked.length + 1 ∧ wx.heap[C]? = some (.cells #[.slice (some ⟨ga, 0, none⟩) nds.length ac, .slice U (nodes.map (·.up)).length uc, .pointer (some ⟨G, 0, none⟩), .int .i64 (clock : Int), .slice B4 X2.length d4, .slice T told.length tc, .slice Z seen.length zc] 88) ∧ OwnT akcells 126 11 wx 0 B4 d4 X2 ∧ (∀ k, blk B4 = some k → blk K = some k ∨ W.heap.size ≤ k) ∧ Turned (fun k => k = C ∨ blk K = some k) W wx ∧ Turned (fun k => k = C ∨ blk K = some k) w1 wx)
  case first =>
    go_region_law
      (refine step_append_st akcells _ akcells_one (by rfl) _ _ _ (by rfl) 0 126 i1 _ 11 128 akcells_len (by decide) Tryz.underlying86 hi1 hy0 hy1 hy2 (by rfl) _ _ asked (by rfl) ((hO1.alloc _).drew) w1.heap.size _ (clock, ⟨cl0, sq, kind, row, col, tt, at_, value, expect, has⟩) (0, 0) _ (by rfl) (heap_alloc_new w1 _) (by unfold maxLen; omega) (by omega) (Nat.zero_le _) ?_; intro X2 B4 d4 w4 hX2 ho4 hb4 hg4 ha4; have HS4 := HT.out w4 ((hg4.block C (by simp; omega) (fun e => hKC e.symm)).trans (heap_alloc_old w1 _ (by omega))); have HS5 := HS4.2.1; have HS6 := HS4.2.2)
    all_goals
      have hX2' : X2 = asked ++ [(clock, ⟨cl0, sq, kind, row, col, tt, at_, value, expect, has⟩)] := hX2.out
      have hXl : X2.length = asked.length + 1 := by rw [hX2']; simp
      have hC4 := ((hg4.block C (by simp; omega) (fun e => hKC e.symm)).trans (heap_alloc_old w1 _ hCl1)).trans HC1.out
      have hC5 := heap_setCell_same w4 C 4 _ _ (.slice B4 X2.length d4) hC4
      have hBC : ∀ k, blk B4 = some k → k ≠ C := by
        intro k hk e
        rcases ha4 with h | h
        · rw [h] at hk; exact hKC (e ▸ hk)
        · rw [h] at hk
          injection hk with hk
          simp at hk; omega
      have hO5 : OwnT akcells 126 11 (w4.setCell ⟨C, 4, none⟩ (.slice B4 X2.length d4)) 0 B4 d4 X2 := ho4.of_block fun k hk => heap_setCell_other _ _ _ _ (hBC k hk)
      have t4 : Turned (fun k => k = C ∨ blk K = some k) W (w4.setCell ⟨C, 4, none⟩ (.slice B4 X2.length d4)) := Turned.setCell (S := fun k => k = C ∨ blk K = some k) (((((Turned.of_below hb1).alloc _).drew).grown hg4 (fun k hk => .inl (.inr hk)))) (p := ⟨C, 4, none⟩) (.inl (.inl rfl)) _
      have t41 : Turned (fun k => k = C ∨ blk K = some k) w1 (w4.setCell ⟨C, 4, none⟩ (.slice B4 X2.length d4)) := Turned.setCell (S := fun k => k = C ∨ blk K = some k) (((((Turned.refl _ w1).alloc _).drew).grown hg4 (fun k hk => .inl (.inr hk)))) (p := ⟨C, 4, none⟩) (.inl (.inl rfl)) _
      have hbb : ∀ k, blk B4 = some k → blk K = some k ∨ W.heap.size ≤ k := by
        intro k hk
        rcases ha4 with h | h
        · exact .inl (h ▸ hk)
        · rw [h] at hk
          injection hk with hk
          simp at hk
          exact .inr (by omega)
      go_wp2_with fail
      go_meet
      exact ⟨B4, d4, X2, hXl, hC5, hO5, hbb, t4, t41⟩
  case rest =>
    obtain ⟨B4, d4, X2, hXl, hC5, hO5, hbb, t4, t41⟩ := hcut
    have hK5 := HKi.out.ask (K' := B4) (kc' := d4) (asked' := X2) (t4.wide fun k hk _ => by
      rcases hk with rfl | hk
      · exact .inl HKi.out.c0
      · exact .inr (HKi.out.sK k hk)) hC5 hO5 (fun k hk => (hbb k hk).imp (HKi.out.sK k) id)
    have t5 : Turned (fun k => p 0 k ∨ p 4 k) W wc := t4.wide fun k hk _ => by
      rcases hk with rfl | hk
      · exact .inl HKi.out.c0
      · exact .inr (HKi.out.sK k hk)
    have hX5 := (t4.block ga hga (fun e => by
      rcases e with e | e
      · exact hCa e
      · exact hKa e)).trans HX.out
    have hV5 := (t41.block W.heap.size hz1 (fun e => by
      rcases e with e | e
      · omega
      · have := hAl _ e; omega)).trans HV.out
    have HK5 := Lib.hid hK5
    have HT5 := Lib.hid t5
    have hz5 : W.heap.size < wc.heap.size := by have := t41.size; omega
    obtain ⟨Y, hY⟩ : ∃ Y, wc.heap[C]? = some Y := ⟨_, hC5⟩
    have k0 : ∀ w : World, w.heap[C]? = some Y → w.cell? ⟨C, 0, none⟩ = some (.slice (some ⟨ga, 0, none⟩) nds.length ac) := fun w hw => cob (hw.trans (hY.symm.trans hC5)) 0 rfl
    have ka := Hka.out
    have x1 := Hx1.out
    have x6 := Hx6.out
    have x7 := Hx7.out
    have x8 := Hx8.out
    have x9 := Hx9.out
    have x10 := Hx10.out
    have x11 := Hx11.out
    have x12 := Hx12.out
    have x13 := Hx13.out
    have x14 := Hx14.out
    have x15 := Hx15.out
    have HA5 := Lib.hid (HAx.out wc.drew ((HKi.out.nd i n N HI.out HN.out).frame (by show W.heap.size ≤ wc.heap.size; omega) fun k hk => t5.block k (HKi.out.pts.lt _ k hk) (fun e => by
      rcases e with e | e
      · exact HKi.out.pts.dj (7 + i) 0 (by omega) k hk e
      · exact HKi.out.pts.dj (7 + i) 4 (by omega) k hk e)) ((HKi.out.pts.lt _).wide (by show W.heap.size ≤ wc.heap.size; omega)))
    have HXL := Lib.hid hXl
    have HBB := Lib.hid (fun k (hk : blk B4 = some k) => (hbb k hk).imp (HKi.out.sK k) id)
    have hYd : wc.drew.heap[C]? = some Y := hY
    have hXd : wc.drew.heap[ga]? = some X := hX5
    have hVd : wc.drew.heap[W.heap.size]? = some V := hV5
    have nC : ¬ p (7 + i) C := HKi.out.ne0 (by omega)
    have na : ¬ p (7 + i) ga := fun e => HKi.out.pts.dj 1 (7 + i) (by omega) ga (HKi.out.sA ga (by simp [blk])) e
    have nV : ¬ p (7 + i) W.heap.size := fun e => absurd (HKi.out.pts.lt _ _ e) (Nat.lt_irrefl _)
    clear hC5 hO5 t4 t41 t5 hK5 hXl hbb z1 z6 z7 z8 z9 z10 z11 z12 z13 z14 z15 c3 c4 f4 ca3 ca4 caf hO1 hb1
    go_wp2
    go_region_held3 (fun w' => w'.heap[C]? = some Y ∧ w'.heap[ga]? = some X ∧ w'.heap[W.heap.size]? = some V)
      (first | with_reducible exact HS2 | with_reducible exact ⟨hY, hX5, hV5⟩ | with_reducible exact ⟨hYd, hXd, hVd⟩)
      (first
        | (go_at_call 63; (with_reducible refine HA5.out.mono ?_); rintro e w6 ⟨L, B, cc, S1, rfl, hO6, hl6, hx6, hst6, hnd6, hq6⟩; have HS2 : _ ∧ _ ∧ _ := ⟨(hst6.t.block C (Nat.lt_trans hCl hz5) nC).trans hYd, (hst6.t.block ga (Nat.lt_trans hga hz5) na).trans hXd, (hst6.t.block W.heap.size hz5 nV).trans hVd⟩; have HO6 := Lib.hid hO6; have HST6 := Lib.hid hst6; have HND6 := Lib.hid hnd6; have HQ6 := Lib.hid hq6; clear hO6 hst6 hnd6 hq6))
    all_goals
      have HV6 := Lib.hid HS2.2.2
      clear hYd hXd hVd hY hX5 hV5 HS2
      have hK6 := HK5.out.drew.node (n' := n') HI.out HN.out HUP.out (by rw [upd_other p _ (by omega)]; exact HST6.out) HND6.out
      have HK6 := Lib.hid hK6
      have HSe := Lib.hid (csend_any C _ _ _ _ _ clock hclock ⟨kd, (i : Int), j, full, ⟨cl0, sq, kind, row, col, tt, at_, value, expect, has⟩⟩ (upd (upd p 4 (fun k => blk B4 = some k)) (7 + i) S1 3) G nx wc.heap.size l L B cc hl6 hx6 HBe.out w6 hK6.hC hK6.hP (hK6.pts.lt 3) (hK6.ne0 (by omega)) HO6.out (fun k hk e => by
        have h1 := (HO6.out.lt k hk).1
        rw [upd_other _ _ (by omega), upd_other _ _ (by omega)] at e
        have h2 := HKi.out.pts.lt 3 k e
        rw [drew_size] at h1
        omega))
      unfold spv spcells cmcells at HSe
      simp only [List.cons_append, List.nil_append] at HSe
      have HNo := Lib.hid (note_none C w6)
      clear hK6
      go_wp2_with fail
      refine HNo.out.mono ?_
      rintro e w6' ⟨rfl, rfl⟩
      have y0 := Hx0.out w6 HV6.out
      have y1 := Hx1.out w6 HV6.out
      have y2 := Hx2.out w6 HV6.out
      have y3 := Hx3.out w6 HV6.out
      have y4 := Hx4.out w6 HV6.out
      have y5 := Hx5.out w6 HV6.out
      have y6 := Hx6.out w6 HV6.out
      have y7 := Hx7.out w6 HV6.out
      have y8 := Hx8.out w6 HV6.out
      have y9 := Hx9.out w6 HV6.out
      have y10 := Hx10.out w6 HV6.out
      have y11 := Hx11.out w6 HV6.out
      have y12 := Hx12.out w6 HV6.out
      have y13 := Hx13.out w6 HV6.out
      have y14 := Hx14.out w6 HV6.out
      have y15 := Hx15.out w6 HV6.out
      go_wp2_with fail
      refine HSe.out.mono ?_
      rintro e w7 ⟨rfl, S3, hP7, hst7⟩
      go_wp2
      go_end0
      refine ⟨rfl, _, _, L, HK6.out.pool hst7 hP7, ?_, rfl, rfl, HXL.out, HQ6.out⟩
      have s1 : Step (uni p) W wc (uni (upd p 4 (fun k => blk B4 = some k))) := HKi.out.uni_of HT5.out HK5.out.pts HBB.out
      have s2 := HK5.out.drew.pts.uni_step (i := 7 + i) (S' := S1) (W' := w6) (by rw [upd_other p _ (by omega)]; exact HST6.out)
      exact (s1.trans ⟨s2.t.undrew, s2.sub, s2.lt⟩).trans (HK6.out.pts.uni_step hst7)
end Go.Proofs.YtoigogjmhkpdlaaGreat
