/- A part of the proof of WholeFew: the texts MemB, TreeE, TreeF, TreeG, TreeH. -/
import Derived.Test.YtoigogjmhkpdlaaGreatJ29
import Derived.BigQuiet
set_option maxHeartbeats 6400000
set_option maxRecDepth 100000
namespace Go.Proofs.YtoigogjmhkpdlaaGreat
open Go.RowKit
theorem five_grown (w : World) (g : Nat) (a b : ByteArray) (n : Int) (v : ByteArray) (d : Bool) :
    w.grownBy (((((w.setCell ⟨g, 0, none⟩ (.string a)).setCell ⟨g, 1, none⟩ (.string b)).setCell ⟨g, 2, none⟩ (.int .i64 n)).setCell ⟨g, 3, none⟩ (.string v)).setCell ⟨g, 4, none⟩ (.bool d)).drew (some g) := by
  have hgr := grown_drew (setCells_grown g ([.string a, .string b, .int .i64 n, .string v, .bool d]) 0 w)
  simp only [World.setCells, Nat.zero_add, Nat.reduceAdd] at hgr
  exact hgr
theorem mput_found (M g cap : Nat) (c : Cl) (hok : ClOk c) (W : World) (hM : W.heap[M]? = some (.cells #[.slice (some ⟨g, 0, none⟩) 1 cap, .int .i64 ((cellN c).length : Nat)] 355)) (h : One W 0 g cap c) (hMg : M ≠ g) :
    Calls Tryz.prog 237 #[.pointer (some ⟨M, 0, none⟩), clv c] W fun e W' => e = .returned (.bool true) ∧ W'.heap[M]? = some (.cells #[.slice (some ⟨g, 0, none⟩) 1 cap, .int .i64 ((cellN c).length : Nat)] 355) ∧ Turned (fun k => k = M ∨ k = g) W W' := by
  have hMl := (Array.getElem?_eq_some_iff.1 hM).1
  have hgl := h.lt.2
  have HR := Lib.hid (fun w => cellright_any c w)
  rw [right_ok hok] at HR
  have HW := Lib.hid (fun w => weigh_any c hok w)
  have HWl := Lib.hid (cellN_le hok)
  have HBs := Lib.hid (fun w (hb : Below W.heap.size W w) => bsc_one g cap c c ⟨rfl, rfl, rfl⟩ w (h.c5.below hb hgl))
  have HM := Lib.hid (fun w (hb : Below W.heap.size W w) => (hb.block M hMl).trans hM)
  have HO := Lib.hid (fun w (hb : Below W.heap.size W w) => h.of_block (hb.block g hgl))
  clear hM h
  obtain ⟨nN, hnN⟩ : ∃ nN, nN = (cellN c).length := ⟨_, rfl⟩
  rw [← hnN] at HW HWl HM ⊢
  clear hnN hok
  obtain ⟨r, k, t, v, d⟩ := c
  unfold clv clcells cmpF at HBs
  unfold clv clcells at HR HW ⊢
  simp only [] at HR HBs HW ⊢
  go_enter Tryz.func237, Tryz.ntmps237
  go_wp2_with fail
  generalize hw1 : World.alloc W _ = w1
  have hK1 := named_new hw1.symm
  have hb1 := named_below hw1.symm
  have hz1 : W.heap.size < w1.heap.size := by rw [named_size hw1.symm]; omega
  clear hw1
  refine (HR.out w1).mono ?_
  rintro e w2 ⟨rfl, hb2⟩
  have hB2 := below_next hb1 hb2
  have hK2 := (hb2.block W.heap.size hz1).trans hK1
  have hz2 : W.heap.size < w2.heap.size := Nat.lt_of_lt_of_le hz1 hb2.size
  clear hK1 hb1 hb2
  go_wp2
  obtain ⟨e0, e1, e2, e3, e4⟩ := c5_of (c5_block (c := ⟨r, k, t, v, d⟩) hK2)
  simp only [] at e0 e1 e2 e3 e4
  have q0 : ∀ x : Of (Below w2.heap.size w2), x.w.cell? ⟨M, 0, none⟩ = some (.slice (some ⟨g, 0, none⟩) 1 cap) := fun x => cob (HM.out x.w (below_next hB2 x.h)) 0 rfl
  have HB1 := Lib.hid (fun x : Of (Below w2.heap.size w2) => HBs.out x.w (below_next hB2 x.h))
  have HK2 := Lib.hid hK2
  clear hK2
  haveI := of_ne w2
  refine wp_region_of (Below w2.heap.size w2) (by kernel_rfl) (by kernel_rfl) (Below.refl _ _).drew ?_
  repeat (go_big_quiet_step ((rename_i x; go_at_call 266; refine quiet_of ((HB1.out x).mono fun e w' h => ⟨h.1, x.h.trans (h.2.mono x.h.size)⟩))))
  refine wpQuiet_nil ?_
  rintro _ ⟨x, rfl⟩
  obtain ⟨w3, hb3⟩ := x
  dsimp only
  clear e0 e1 e2 e3 e4 q0 this HB1
  have hB3 := below_next hB2 hb3
  have hK3 := (hb3.block W.heap.size hz2).trans HK2.out
  have hz3 : W.heap.size < w3.heap.size := Nat.lt_of_lt_of_le hz2 hb3.size
  have hM3 := HM.out w3 hB3
  have hO3 := HO.out w3 hB3
  have hMz3 : M < w3.heap.size := by have := hB3.size; omega
  have hgz3 : g < w3.heap.size := by have := hB3.size; omega
  have m0 : w3.cell? ⟨M, 0, none⟩ = some (.slice (some ⟨g, 0, none⟩) 1 cap) := cob hM3 0 rfl
  have m1 : w3.cell? ⟨M, 1, none⟩ = some (.int .i64 ((nN : Nat) : Int)) := cob hM3 1 rfl
  obtain ⟨q0, q1, q2, q3, q4⟩ := hO3.c5
  simp only [] at q0 q1 q2 q3 q4
  have HM3 := Lib.hid hM3
  have HK3 := Lib.hid hK3
  have HO3 := Lib.hid hO3
  clear hM3 hK3 hO3 hb3
  have hwr0 : IntKind.i64.wrap (((nN : Nat) : Int) - ((nN : Nat) : Int)) = 0 := by rw [Int.sub_self]; decide
  have hwr1 : IntKind.i64.wrap 0 = 0 := by decide
  go_wp2
  go_region_law (first
    | (go_simp; go_at_call 268; refine (HW.out w3.drew).mono ?_; rintro e w4 ⟨rfl, hb4'⟩; have hb4 := below_undrew hb4'; have hM4 := (hb4.block M hMz3).trans HM3.out; have y1 := cob hM4 1 (v := .int .i64 ((nN : Nat) : Int)) rfl; have hfr : ∀ j, w4.frozen? ⟨M, j, none⟩ = false := (fun j => by simp [World.frozen?, hM4]); have HM4 := Lib.hid hM4; clear hM4))
  all_goals
    have gM := heap_setCell_same w4 M 1 _ _ (.int .i64 0) HM4.out
    have hMK : W.heap.size ≠ M := by omega
    have hKg : W.heap.size ≠ g := by omega
    have hT5 : Turned (fun k => k = M ∨ k = g) W (w4.setCell ⟨M, 1, none⟩ (.int .i64 0)) := (Turned.of_below (S := fun k => k = M ∨ k = g) (below_next hB3 hb4)).setCell (p := ⟨M, 1, none⟩) (.inl (.inl rfl)) _
    have hK5 := (heap_setCell_other w4 ⟨M, 1, none⟩ W.heap.size (.int .i64 0) hMK).trans ((hb4.block W.heap.size hz3).trans HK3.out)
    have hO5 := HO3.out.of_block ((heap_setCell_other w4 ⟨M, 1, none⟩ g (.int .i64 0) (fun e => hMg e.symm)).trans (hb4.block g hgz3))
    obtain ⟨w5, hw5⟩ : ∃ w5, w5 = w4.setCell ⟨M, 1, none⟩ (.int .i64 0) := ⟨_, rfl⟩
    rw [← hw5] at gM hT5 hK5 hO5 ⊢
    have gM' : w5.heap[M]? = some (.cells #[.slice (some ⟨g, 0, none⟩) 1 cap, .int .i64 0] 355) := gM
    clear hw5 gM y1 hfr m0 m1 q0 q1 q2 q3 q4 hb4 hb4' HM4 HM3 HK3 HO3
    have m0 : w5.cell? ⟨M, 0, none⟩ = some (.slice (some ⟨g, 0, none⟩) 1 cap) := cob gM' 0 rfl
    have e0 : w5.cell? ⟨W.heap.size, 0, none⟩ = some (.string r) := cob hK5 0 rfl
    have e1 : w5.cell? ⟨W.heap.size, 1, none⟩ = some (.string k) := cob hK5 1 rfl
    have e2 : w5.cell? ⟨W.heap.size, 2, none⟩ = some (.int .i64 t) := cob hK5 2 rfl
    have e3 : w5.cell? ⟨W.heap.size, 3, none⟩ = some (.string v) := cob hK5 3 rfl
    have e4 : w5.cell? ⟨W.heap.size, 4, none⟩ = some (.bool d) := cob hK5 4 rfl
    obtain ⟨q0, q1, q2, q3, q4⟩ := hO5.c5
    simp only [] at q0 q1 q2 q3 q4
    have hfg : ∀ j, w5.frozen? ⟨g, j, none⟩ = false := fun j => OwnT.free hO5 j
    have hMz5 : M < w5.heap.size := (Array.getElem?_eq_some_iff.1 gM').1
    have HGM := Lib.hid gM'
    have HK5 := Lib.hid hK5
    clear gM' hK5 hO5
    go_wp2
    go_region
    all_goals
      clear m0 e0 e1 e2 e3 e4 q0 q1 q2 q3 q4 hfg
      have hgr := five_grown w5 g r k t v d
      generalize World.drew _ = w6 at hgr ⊢
      have hz6 := hgr.size
      have hM6 := (hgr.block M hMz5 (fun e => hMg (Option.some.inj e))).trans HGM.out
      have hK6 := (hgr.block W.heap.size (Array.getElem?_eq_some_iff.1 HK5.out).1 (fun e => hKg (Option.some.inj e))).trans HK5.out
      have hT6 : Turned (fun k => k = M ∨ k = g) W w6 := hT5.grown hgr (fun k hk => .inl (.inr (Option.some.inj hk).symm))
      have hMz6 : M < w6.heap.size := by omega
      have m1 : w6.cell? ⟨M, 1, none⟩ = some (.int .i64 0) := cob hM6 1 rfl
      have e0 : w6.cell? ⟨W.heap.size, 0, none⟩ = some (.string r) := cob hK6 0 rfl
      have e1 : w6.cell? ⟨W.heap.size, 1, none⟩ = some (.string k) := cob hK6 1 rfl
      have e2 : w6.cell? ⟨W.heap.size, 2, none⟩ = some (.int .i64 t) := cob hK6 2 rfl
      have e3 : w6.cell? ⟨W.heap.size, 3, none⟩ = some (.string v) := cob hK6 3 rfl
      have e4 : w6.cell? ⟨W.heap.size, 4, none⟩ = some (.bool d) := cob hK6 4 rfl
      have HM6 := Lib.hid hM6
      clear hM6 hK6 hgr hT5
      have hwr : IntKind.i64.wrap ((nN : Nat) : Int) = ((nN : Nat) : Int) := by have := HWl.out; rw [IntKind.wrap_i64]; omega
      go_wp2
      go_region_law (first
        | (go_simp; go_at_call 268; refine (HW.out w6.drew).mono ?_; rintro e w7 ⟨rfl, hb7'⟩; have hb7 := below_undrew hb7'; have hM7 := (hb7.block M hMz6).trans HM6.out; have y1 := cob hM7 1 (v := .int .i64 0) rfl; have hfr : ∀ j, w7.frozen? ⟨M, j, none⟩ = false := (fun j => by simp [World.frozen?, hM7]); have HM7 := Lib.hid hM7; clear hM7))
      all_goals
        have gN := heap_setCell_same w7 M 1 _ _ (.int .i64 ((nN : Nat) : Int)) HM7.out
        have hT8 : Turned (fun k => k = M ∨ k = g) W (w7.setCell ⟨M, 1, none⟩ (.int .i64 ((nN : Nat) : Int))) := (hT6.below hb7 hT6.size).setCell (p := ⟨M, 1, none⟩) (.inl (.inl rfl)) _
        clear m1 e0 e1 e2 e3 e4 y1 hfr
        go_wp2
        go_ret
        exact ⟨rfl, gN, hT8⟩
theorem topen_n (c : Cl) (hok : ClOk c) (A : Option Addr) (L : List Nat) (cc : Nat) (hL : Hid (L = tabN c (makeF [keyS c.row c.col]))) (hc : L.length ≤ cc) (hcm : cc ≤ 9223372036854775807) (W : World) (hr : RdB W A L) :
    Calls Tryz.prog 301 #[.slice A L.length cc] W fun e W' => ∃ X, e = .returned (.tuple #[.pointer (some ⟨X, 0, none⟩), .int .i64 0]) ∧ Tab1 W' W.heap.size X c ∧ Below W.heap.size W W' := by
  have hFl : (makeF [keyS c.row c.col]).length ≤ 1000 := by unfold makeF; rw [Bl.makeN_length]; unfold filt; simp
  have hLl : L.length = (blkN c).length + (footN c (makeF [keyS c.row c.col])).length + 4 := by
    rw [hL.out]; unfold tabN; rw [List.length_append, List.length_append, numN_length]
  have h1 := blkN_len hok
  have h2 := footN_len hok hFl
  rw [hLl]
  exact topen_one c hok _ (Lib.hid rfl) A L _ _ cc hL (Lib.hid rfl) (Lib.hid rfl) h1.1 h1.2 h2 (by omega) hcm W hr
theorem tmade_one (T base g cap : Nat) (c : Cl) (hok : ClOk c) (hlen : 100 ≤ (cellN c).length) (W : World) (hT : W.cell? ⟨T, 1, none⟩ = some (.int .i64 100)) (h : One W base g cap c) :
    Calls Tryz.prog 271 #[.pointer (some ⟨T, 0, none⟩), .slice (some ⟨g, 0, none⟩) 1 cap] W fun e W' => ∃ gt tc X, e = .returned (.slice (some ⟨gt, 0, none⟩) 1 tc) ∧ OwnT tcells 373 1 W' W.heap.size (some ⟨gt, 0, none⟩) tc [X] ∧ Tab1 W' W.heap.size X c ∧ Below W.heap.size W W' := by
  have HB := Lib.hid (tbuild_one base g cap c hok hlen W h)
  have HO := Lib.hid (fun A L cc hL h1 h2 w hr => topen_n c hok A L cc hL h1 h2 w hr)
  clear hok hlen h
  go_enter Tryz.func271, Tryz.ntmps271
  go_wp2_with fail
  refine HB.out.mono ?_
  rintro e w1 ⟨L, A, a, HL, rfl, ho, hc, hb1⟩
  have hcm := ho.capmax
  unfold maxLen at hcm
  go_wp2_with fail
  refine (HO.out A L a HL hc (by omega) w1 ho.rd).mono ?_
  rintro e w2 ⟨X, rfl, hT2, hb2⟩
  have HB2 := Lib.hid (below_next hb1 hb2)
  have hz1 := hb1.size
  have HL2 := Lib.hid (OwnT.lit tcells 373 1 w2 W.heap.size #[.pointer (some ⟨X, 0, none⟩)] [X] tcells_len (by have := hb2.size; omega) (by simp [maxLen]) rfl)
  have HT2 := Lib.hid hT2
  have hz2 := hb2.size
  clear ho hT2 hb2
  go_wp2
  go_ret
  refine ⟨w2.heap.size, 1, X, rfl, HL2.out, ?_, HB2.out.alloc (by omega) _⟩
  obtain ⟨gl, capl, G, Cap, g, cap, AF, F, cF, hX, hl, hG, hg, hF, hO, hX0⟩ := HT2.out.frame (W' := w2.alloc (.cells #[.pointer (some ⟨X, 0, none⟩)] 373)) (fun k _ hk => heap_alloc_old _ _ hk)
  exact ⟨gl, capl, G, Cap, g, cap, AF, F, cF, hX, OwnT.low hl hz1, OwnT.low hG hz1, OwnT.low hg hz1, hF, World.ownsRow_base hO hz1, by omega⟩
theorem qlen_any (A : Option Addr) (n c : Nat) (W : World) : Calls Tryz.prog 293 #[.slice A n c] W fun e W' => e = .returned (.int .i64 (n : Nat)) ∧ W = W' := by
  go_enter Tryz.func293, Tryz.ntmps293
  go_wp2
  go_ret
  exact ⟨rfl, rfl⟩
theorem mall_none (g cap : Nat) (W : World) (hg : W.cell? ⟨g, 0, none⟩ = some (.slice none 0 0)) : Calls Tryz.prog 264 #[.slice (some ⟨g, 0, none⟩) 1 cap] W fun e W' => e = .returned (.slice none 0 0) ∧ Below W.heap.size W W' := by
  have hgl := lt_of_cell hg
  have HQ := Lib.hid qlen_any
  have hg2 : ∀ o1 o2, ((W.alloc o1).alloc o2).cell? ⟨g, 0, none⟩ = some (.slice none 0 0) := fun o1 o2 => (((Below.refl W.heap.size W).alloc (Nat.le_refl _) o1).alloc (by simp) o2 |>.cell (p := ⟨g, 0, none⟩) hgl).trans hg
  go_enter Tryz.func264, Tryz.ntmps264
  go_wp2
  refine wp_loop_rounds 2 ?_
  rw [rounds_succ]
  go_wp2
  rw [rounds_succ]
  go_wp2
  refine wp_loop_rounds 1 ?_
  rw [rounds_succ]
  go_wp2_with (first | (go_at_call 293; refine (HQ.out _ _ _ _).mono ?_; rintro e w1 ⟨rfl, rfl⟩))
  go_ret
  exact ⟨rfl, ((Below.refl W.heap.size W).alloc (Nat.le_refl _) _).alloc (by simp) _⟩
theorem mvisible_none (at_ : Int) (W : World) : Calls Tryz.prog 242 #[.slice none 0 0, .int .i64 at_] W fun e W' => e = .returned (.slice none 0 0) ∧ W = W' := by
  go_enter Tryz.func242, Tryz.ntmps242
  go_wp2
  refine wp_loop_rounds 1 ?_
  rw [rounds_succ]
  go_wp2
  go_ret
  exact ⟨rfl, rfl⟩
theorem tlists_e (T : Nat) (S : Nat → Prop) (W : World) (h : TreeE W S T) : Calls Tryz.prog 265 #[.pointer (some ⟨T, 0, none⟩)] W fun e W' => ∃ g cap, e = .returned (.slice (some ⟨g, 0, none⟩) 1 cap) ∧ W'.cell? ⟨g, 0, none⟩ = some (.slice none 0 0) ∧ Below W.heap.size W W' := by
  obtain ⟨M, hT, hM, _, _⟩ := h
  have hTl := (Array.getElem?_eq_some_iff.1 hT).1
  have HC := Lib.hid (mcells_none M _ W hM)
  have t3 : W.cell? ⟨T, 3, none⟩ = some (.pointer (some ⟨M, 0, none⟩)) := cob hT 3 rfl
  have t4 : ∀ o, (W.alloc o).cell? ⟨T, 4, none⟩ = some (.slice none 0 0) := fun o => cob ((heap_alloc_old _ _ hTl).trans hT) 4 rfl
  clear hT hM
  go_enter Tryz.func265, Tryz.ntmps265
  go_wp2_with (first | (go_at_call 272; refine HC.out.mono ?_; rintro e w1 ⟨rfl, rfl⟩))
  refine wp_loop_rounds 1 ?_
  rw [rounds_succ]
  go_wp2
  go_ret
  exact ⟨W.heap.size, 1, rfl, cob (heap_alloc_new _ _) 0 rfl, (Below.refl W.heap.size W).alloc (Nat.le_refl _) _⟩
theorem tcells_e (T : Nat) (S : Nat → Prop) (W : World) (h : TreeE W S T) : Calls Tryz.prog 236 #[.pointer (some ⟨T, 0, none⟩)] W fun e W' => e = .returned (.slice none 0 0) ∧ Below W.heap.size W W' := by
  have HL := Lib.hid (tlists_e T S W h)
  have HA := Lib.hid mall_none
  clear h
  go_enter Tryz.func236, Tryz.ntmps236
  go_wp2_with fail
  refine HL.out.mono ?_
  rintro e w1 ⟨g, cap, rfl, hg, hb1⟩
  have HA1 := Lib.hid (HA.out g cap w1 hg)
  clear hg
  go_wp2_with fail
  refine HA1.out.mono ?_
  rintro e w2 ⟨rfl, hb2⟩
  go_wp2
  go_ret
  exact ⟨rfl, below_next hb1 hb2⟩
theorem tscan_e (T : Nat) (S : Nat → Prop) (a b : ByteArray) (at_ : Int) (W : World) (h : TreeE W S T) : Calls Tryz.prog 211 #[.pointer (some ⟨T, 0, none⟩), .string a, .string b, .int .i64 at_] W fun e W' => e = .returned (.slice none 0 0) ∧ Below W.heap.size W W' := by
  have HL := Lib.hid (tcells_e T S W h)
  have HV := Lib.hid mvisible_none
  clear h
  go_enter Tryz.func211, Tryz.ntmps211
  go_wp2_with (first | (go_at_call 236; refine HL.out.mono ?_; rintro e w1 ⟨rfl, hb1⟩) | (go_at_call 242; refine (HV.out _ _).mono ?_; rintro e w2 ⟨rfl, rfl⟩))
  refine wp_loop_rounds 1 ?_
  rw [rounds_succ]
  go_wp2
  go_ret
  exact ⟨rfl, hb1⟩
theorem OwnT.ne {α : Type} {mk : α → List Value} {e : TypeId} {sz : Nat} {w : World} {base g c : Nat} {l : List α} (h : OwnT mk e sz w base (some ⟨g, 0, none⟩) c l) {x : Nat} {cs : Array Value} {t : TypeId} {fr : Nat × Nat} (hx : w.heap[x]? = some (.cells cs t fr)) (ht : t ≠ e) : x ≠ g := by
  rcases h.2 with ⟨h0, _⟩ | ⟨g', cp, cur, e1, _, hh, _⟩
  · cases h0
  · injection e1 with e1
    injection e1 with e1
    have h1 : g = g' := by injection e1
    intro h2
    subst h1
    subst h2
    rw [hh] at hx
    injection hx with hx
    injection hx with _ h3
    exact ht h3.symm
theorem k5o {g : Nat} {w w' : World} {a b c d e : Value} (hb : w'.heap[g]? = w.heap[g]?)
    (h : w.cell? ⟨g, 0, none⟩ = some a ∧ w.cell? ⟨g, 1, none⟩ = some b ∧ w.cell? ⟨g, 2, none⟩ = some c ∧ w.cell? ⟨g, 3, none⟩ = some d ∧ w.cell? ⟨g, 4, none⟩ = some e) :
    w'.cell? ⟨g, 0, none⟩ = some a ∧ w'.cell? ⟨g, 1, none⟩ = some b ∧ w'.cell? ⟨g, 2, none⟩ = some c ∧ w'.cell? ⟨g, 3, none⟩ = some d ∧ w'.cell? ⟨g, 4, none⟩ = some e :=
  ⟨(World.cell?_of_block hb).trans h.1, (World.cell?_of_block hb).trans h.2.1, (World.cell?_of_block hb).trans h.2.2.1, (World.cell?_of_block hb).trans h.2.2.2.1, (World.cell?_of_block hb).trans h.2.2.2.2⟩
def FlushE (c : Cl) : Prop := ∀ (T M g cap : Nat) (n : Int) (W : World), W.heap[T]? = some (.cells #[.int .i64 200, .int .i64 100, .int .i64 3, .pointer (some ⟨M, 0, none⟩), .slice none 0 0] 318) → W.heap[M]? = some (.cells #[.slice (some ⟨g, 0, none⟩) 1 cap, .int .i64 n] 355) → One W 0 g cap c →
  Calls Tryz.prog 239 #[.pointer (some ⟨T, 0, none⟩)] W fun e W' => e = .returned (.tuple #[]) ∧ TreeT c W' (fun k => k = T ∨ (W.heap.size ≤ k ∧ k < W'.heap.size)) T ∧ Turned (fun k => k = T) W W'
def FlushT (c : Cl) : Prop := ∀ (T M g cap Lv lc Lt tc0 X0 : Nat) (n : Int) (W : World), W.heap[T]? = some (.cells #[.int .i64 200, .int .i64 100, .int .i64 3, .pointer (some ⟨M, 0, none⟩), .slice (some ⟨Lv, 0, none⟩) 1 lc] 318) → W.heap[M]? = some (.cells #[.slice (some ⟨g, 0, none⟩) 1 cap, .int .i64 n] 355) → One W 0 g cap c → Lv1 W Lv lc (Lt, tc0) → Tb1 W Lt tc0 X0 → Lv ≠ T → Lv ≠ Lt →
  Calls Tryz.prog 239 #[.pointer (some ⟨T, 0, none⟩)] W fun e W' => e = .returned (.tuple #[]) ∧ Turned (fun k => k = T ∨ k = Lv ∨ k = Lt) W W'
theorem tput_e (T : Nat) (c : Cl) (hok : ClOk c) (hfl : 200 ≤ (cellN c).length → FlushE c) (S : Nat → Prop) (W : World) (h : TreeE W S T) (hS : Lt S W) :
    Calls Tryz.prog 209 #[.pointer (some ⟨T, 0, none⟩), clv c] W fun e W' => e = .returned (.int .i64 0) ∧ (TreeM c W' (fun k => S k ∨ (W.heap.size ≤ k ∧ k < W'.heap.size)) T ∨ TreeT c W' (fun k => S k ∨ (W.heap.size ≤ k ∧ k < W'.heap.size)) T) ∧ Turned S W W' := by
  have HFr := Lib.hid (fun w (hb : Below W.heap.size W w) => TreeE.framed.frame h fun k hk => hb.block k (hS k hk))
  have HHas := Lib.hid (fun w (hb : Below W.heap.size W w) => thas_e T c S w (HFr.out w hb) (hS.wide hb.size))
  have HCe := Lib.hid (fun w (hb : Below W.heap.size W w) => tcells_e T S w (HFr.out w hb))
  have HR := Lib.hid (fun w => cellright_any c w)
  rw [right_ok hok] at HR
  obtain ⟨M, hT, hM, sT, sM⟩ := h
  have hTl := hS T sT
  have hMl := hS M sM
  have hMT : T ≠ M := by intro e; subst e; rw [hM] at hT; injection hT with hT; injection hT with h1 h2; cases h1
  have HPut := Lib.hid (fun w (hb : Below W.heap.size W w) => mput_new M c hok w ((hb.block M hMl).trans hM))
  have HT := Lib.hid (fun (w : World) (hw : w.heap[T]? = W.heap[T]?) => hw.trans hT)
  have HFl := Lib.hid hfl
  have HS := Lib.hid hS
  clear hT hM hok hfl hS HFr
  obtain ⟨nN, hnN⟩ : ∃ nN, nN = (cellN c).length := ⟨_, rfl⟩
  have HnN := Lib.hid hnN
  rw [← hnN] at HPut HFl
  clear hnN
  obtain ⟨x, hx⟩ : ∃ x, x = c := ⟨_, rfl⟩
  have HX := Lib.hid hx
  obtain ⟨r, k, t, v, d⟩ := c
  unfold clv clcells at HHas HR HPut
  simp only [] at HHas HR HPut
  rw [← hx] at HPut ⊢
  rw [hx]
  have hx2 := HX.out
  clear hx
  unfold clv clcells
  simp only []
  rw [← hx2]
  clear hx2
  have hlt : nN < 200 ∨ 200 ≤ nN := by omega
  rcases hlt with hlt | hlt
  all_goals
    go_enter Tryz.func209, Tryz.ntmps209
    go_wp2_with fail
    generalize hw1 : World.alloc W _ = w1
    have hK1 := named_new hw1.symm
    have hb1 := named_below hw1.symm
    have hz1 : W.heap.size < w1.heap.size := by rw [named_size hw1.symm]; omega
    clear hw1
    have HRx := Lib.hid (HR.out w1)
    refine HRx.out.mono ?_
    rintro e w2 ⟨rfl, hb2⟩
    have hB2 := below_next hb1 hb2
    have hK2 := (hb2.block W.heap.size hz1).trans hK1
    have hz2 : W.heap.size < w2.heap.size := Nat.lt_of_lt_of_le hz1 hb2.size
    clear hK1 hb1 hb2
    have e0 : w2.cell? ⟨W.heap.size, 0, none⟩ = some (.string r) := cob hK2 0 rfl
    have e1 : w2.cell? ⟨W.heap.size, 1, none⟩ = some (.string k) := cob hK2 1 rfl
    have e2 : w2.cell? ⟨W.heap.size, 2, none⟩ = some (.int .i64 t) := cob hK2 2 rfl
    have e3 : w2.cell? ⟨W.heap.size, 3, none⟩ = some (.string v) := cob hK2 3 rfl
    have e4 : w2.cell? ⟨W.heap.size, 4, none⟩ = some (.bool d) := cob hK2 4 rfl
    have HK2 := Lib.hid hK2
    have HHx := Lib.hid (HHas.out w2 hB2)
    clear hK2
    go_wp2_with fail
    refine HHx.out.mono ?_
    rintro e w3 ⟨rfl, hb3⟩
    have hB3 := below_next hB2 hb3
    have hK3 := (hb3.block W.heap.size hz2).trans HK2.out
    have hz3 : W.heap.size < w3.heap.size := Nat.lt_of_lt_of_le hz2 hb3.size
    have HK3 := Lib.hid hK3
    have HCx := Lib.hid (HCe.out w3 hB3)
    clear e0 e1 e2 e3 e4 hb3 hK3
    go_wp2_with fail
    refine HCx.out.mono ?_
    rintro e w4 ⟨rfl, hb4⟩
    have hB4 := below_next hB3 hb4
    have hK4 := (hb4.block W.heap.size hz3).trans HK3.out
    have hz4 : W.heap.size < w4.heap.size := Nat.lt_of_lt_of_le hz3 hb4.size
    have hT4 := HT.out w4 (hB4.block T hTl)
    have HPx := Lib.hid (HPut.out w4.drew hB4.drew)
    have hTz4 : T < w4.heap.size := by omega
    have HS4 : w4.cell? ⟨T, 3, none⟩ = some (.pointer (some ⟨M, 0, none⟩)) ∧ w4.cell? ⟨W.heap.size, 0, none⟩ = some (.string r) ∧ w4.cell? ⟨W.heap.size, 1, none⟩ = some (.string k) ∧ w4.cell? ⟨W.heap.size, 2, none⟩ = some (.int .i64 t) ∧ w4.cell? ⟨W.heap.size, 3, none⟩ = some (.string v) ∧ w4.cell? ⟨W.heap.size, 4, none⟩ = some (.bool d) := ⟨cob hT4 3 rfl, cob hK4 0 rfl, cob hK4 1 rfl, cob hK4 2 rfl, cob hK4 3 rfl, cob hK4 4 rfl⟩
    have HS4d : w4.drew.cell? ⟨T, 3, none⟩ = some (.pointer (some ⟨M, 0, none⟩)) ∧ w4.drew.cell? ⟨W.heap.size, 0, none⟩ = some (.string r) ∧ w4.drew.cell? ⟨W.heap.size, 1, none⟩ = some (.string k) ∧ w4.drew.cell? ⟨W.heap.size, 2, none⟩ = some (.int .i64 t) ∧ w4.drew.cell? ⟨W.heap.size, 3, none⟩ = some (.string v) ∧ w4.drew.cell? ⟨W.heap.size, 4, none⟩ = some (.bool d) := HS4
    have hKM : W.heap.size ≠ M := by omega
    have HT4 := Lib.hid hT4
    clear hb4 hT4
    go_wp2
    go_region_held3 (fun w' => w'.cell? ⟨T, 3, none⟩ = some (.pointer (some ⟨M, 0, none⟩)) ∧ w'.cell? ⟨W.heap.size, 0, none⟩ = some (.string r) ∧ w'.cell? ⟨W.heap.size, 1, none⟩ = some (.string k) ∧ w'.cell? ⟨W.heap.size, 2, none⟩ = some (.int .i64 t) ∧ w'.cell? ⟨W.heap.size, 3, none⟩ = some (.string v) ∧ w'.cell? ⟨W.heap.size, 4, none⟩ = some (.bool d))
      (first | with_reducible exact HS5 | with_reducible exact HS4 | with_reducible exact HS4d)
      (first | (go_at_call 237; (with_reducible refine HPx.out.mono ?_); rintro e w5 ⟨rfl, g, cap, hM5, hO5, hT5⟩; have HS5 : _ ∧ _ := ⟨(World.cell?_of_block (hT5.block T hTz4 hMT)).trans HS4.1, k5o (hT5.block W.heap.size hz4 hKM) HS4.2⟩))
    have hT5' := (hT5.block T hTz4 hMT).trans HT4.out
    have hTu5 : Turned S W w5 := (Turned.of_below hB4).trans ((Turned.undrew hT5).wide fun k hk _ => by rw [hk]; exact sM) |>.wide (fun k hk _ => hk) 
    have t3 : w5.cell? ⟨T, 3, none⟩ = some (.pointer (some ⟨M, 0, none⟩)) := cob hT5' 3 rfl
    have t0 : w5.cell? ⟨T, 0, none⟩ = some (.int .i64 200) := cob hT5' 0 rfl
    have HSz := Lib.hid (fun n => (msize_any M _ _ (w5.drewN n) hM5).mono (fun e w' h => (⟨h.1, h.2.symm⟩ : e = .returned (.int .i64 ((nN : Nat) : Int)) ∧ w' = w5.drewN n)))
    have HM5 := Lib.hid hM5
    have HO5 := Lib.hid hO5
    have HT5 := Lib.hid hT5'
    have hz45 := hT5.size
    clear HS4 HS4d HS5 hM5 hO5 hT5'
  · have hd : decide ((200 : Int) ≤ ((nN : Nat) : Int)) = false := by simp; omega
    go_wp2
    go_quiet (first | (go_at_call 238; exact Calls.quiet_of_same (HSz.out _)))
    go_wp2
    go_ret
    have hOl := HO5.out.lt
    refine ⟨rfl, .inl ⟨M, g, cap, HT5.out, ?_, OwnT.low (b' := 0) (show One (w5.drewN nq) _ g cap x from HO5.out) (Nat.zero_le _), ?_, .inl sT, .inl sM, .inr ⟨?_, hOl.2⟩⟩, hTu5.drewN nq⟩
    · rw [HX.out, ← HnN.out]; exact HM5.out
    · rw [HX.out, ← HnN.out]; exact hlt
    · have h1 := hOl.1; rw [drew_size] at h1; omega
  · have hd : decide ((200 : Int) ≤ ((nN : Nat) : Int)) = true := by simp; omega
    have HF := Lib.hid (fun n => HFl.out hlt T M g cap _ (w5.drewN n) HT5.out HM5.out (OwnT.low (b' := 0) (by rw [← HX.out]; exact HO5.out) (Nat.zero_le _)))
    go_wp2
    go_quiet (first | (go_at_call 238; exact Calls.quiet_of_same (HSz.out _)))
    go_wp2_with fail
    refine (HF.out nq).mono ?_
    rintro e w8 ⟨rfl, hT8, hTu8⟩
    have HT8 := Lib.hid hT8
    clear hT8
    go_wp2
    go_ret
    have hz5 := hTu5.size
    refine ⟨rfl, .inr ?_, (hTu5.drewN nq).trans (hTu8.wide fun k hk _ => by rw [hk]; exact sT)⟩
    rw [HX.out]
    exact (TreeT.framed _).mono HT8.out fun k hk _ => by
      rcases hk with rfl | hk
      · exact .inl sT
      · exact .inr ⟨Nat.le_trans hz5 hk.1, hk.2⟩
theorem tput_m (T : Nat) (c : Cl) (hok : ClOk c) (S : Nat → Prop) (W : World) (h : TreeM c W S T) (hS : Lt S W) :
    Calls Tryz.prog 209 #[.pointer (some ⟨T, 0, none⟩), clv c] W fun e W' => e = .returned (.int .i64 0) ∧ Turned S W W' := by
  have HHas := Lib.hid (fun w (hb : Below W.heap.size W w) => thas_one T c c hok ⟨rfl, rfl, rfl⟩ S w (.inl ((TreeM.framed c).frame h fun k hk => hb.block k (hS k hk))) (hS.wide hb.size))
  have HR := Lib.hid (fun w => cellright_any c w)
  rw [right_ok hok] at HR
  obtain ⟨M, g, cap, hT, hM, hg, hlt, sT, sM, sg⟩ := h
  have hTl := hS T sT
  have hMl := hS M sM
  have hgl := hS g sg
  have hMg : M ≠ g := OwnT.ne hg hM (by decide)
  have hgT : T ≠ g := OwnT.ne hg hT (by decide)
  have HPut := Lib.hid (fun w (hb : Below W.heap.size W w) => mput_found M g cap c hok w ((hb.block M hMl).trans hM) (hg.of_block (hb.block g hgl)) hMg)
  have hMT : T ≠ M := by intro e; subst e; rw [hM] at hT; injection hT with hT; injection hT with h1 h2; cases h1
  have HT := Lib.hid (fun (w : World) (hw : w.heap[T]? = W.heap[T]?) => hw.trans hT)
  have HS := Lib.hid hS
  clear hT hM hok hS hg
  obtain ⟨nN, hnN⟩ : ∃ nN, nN = (cellN c).length := ⟨_, rfl⟩
  rw [← hnN] at HPut hlt
  clear hnN
  obtain ⟨x, hx⟩ : ∃ x, x = c := ⟨_, rfl⟩
  have HX := Lib.hid hx
  obtain ⟨r, k, t, v, d⟩ := c
  unfold clv clcells at HHas HR HPut
  simp only [] at HHas HR HPut
  clear hx
  unfold clv clcells
  simp only []
  go_enter Tryz.func209, Tryz.ntmps209
  go_wp2_with fail
  generalize hw1 : World.alloc W _ = w1
  have hK1 := named_new hw1.symm
  have hb1 := named_below hw1.symm
  have hz1 : W.heap.size < w1.heap.size := by rw [named_size hw1.symm]; omega
  clear hw1
  have HRx := Lib.hid (HR.out w1)
  refine HRx.out.mono ?_
  rintro e w2 ⟨rfl, hb2⟩
  have hB2 := below_next hb1 hb2
  have hK2 := (hb2.block W.heap.size hz1).trans hK1
  have hz2 : W.heap.size < w2.heap.size := Nat.lt_of_lt_of_le hz1 hb2.size
  clear hK1 hb1 hb2
  have e0 : w2.cell? ⟨W.heap.size, 0, none⟩ = some (.string r) := cob hK2 0 rfl
  have e1 : w2.cell? ⟨W.heap.size, 1, none⟩ = some (.string k) := cob hK2 1 rfl
  have e2 : w2.cell? ⟨W.heap.size, 2, none⟩ = some (.int .i64 t) := cob hK2 2 rfl
  have e3 : w2.cell? ⟨W.heap.size, 3, none⟩ = some (.string v) := cob hK2 3 rfl
  have e4 : w2.cell? ⟨W.heap.size, 4, none⟩ = some (.bool d) := cob hK2 4 rfl
  have HK2 := Lib.hid hK2
  have HHx := Lib.hid (HHas.out w2 hB2)
  clear hK2
  go_wp2_with fail
  refine HHx.out.mono ?_
  rintro e w3 ⟨rfl, hb3⟩
  have hB3 := below_next hB2 hb3
  have hK3 := (hb3.block W.heap.size hz2).trans HK2.out
  have hz3 : W.heap.size < w3.heap.size := Nat.lt_of_lt_of_le hz2 hb3.size
  clear e0 e1 e2 e3 e4 hb3
  have hT4 := HT.out w3 (hB3.block T hTl)
  have HPx := Lib.hid (HPut.out w3.drew hB3.drew)
  have hTz4 : T < w3.heap.size := by omega
  have HS4 : w3.cell? ⟨T, 3, none⟩ = some (.pointer (some ⟨M, 0, none⟩)) ∧ w3.cell? ⟨W.heap.size, 0, none⟩ = some (.string r) ∧ w3.cell? ⟨W.heap.size, 1, none⟩ = some (.string k) ∧ w3.cell? ⟨W.heap.size, 2, none⟩ = some (.int .i64 t) ∧ w3.cell? ⟨W.heap.size, 3, none⟩ = some (.string v) ∧ w3.cell? ⟨W.heap.size, 4, none⟩ = some (.bool d) := ⟨cob hT4 3 rfl, cob hK3 0 rfl, cob hK3 1 rfl, cob hK3 2 rfl, cob hK3 3 rfl, cob hK3 4 rfl⟩
  have HS4d : w3.drew.cell? ⟨T, 3, none⟩ = some (.pointer (some ⟨M, 0, none⟩)) ∧ w3.drew.cell? ⟨W.heap.size, 0, none⟩ = some (.string r) ∧ w3.drew.cell? ⟨W.heap.size, 1, none⟩ = some (.string k) ∧ w3.drew.cell? ⟨W.heap.size, 2, none⟩ = some (.int .i64 t) ∧ w3.drew.cell? ⟨W.heap.size, 3, none⟩ = some (.string v) ∧ w3.drew.cell? ⟨W.heap.size, 4, none⟩ = some (.bool d) := HS4
  have hKn : ¬ (W.heap.size = M ∨ W.heap.size = g) := by omega
  have hTn : ¬ (T = M ∨ T = g) := by omega
  have HT4 := Lib.hid hT4
  clear hT4
  go_wp2
  go_region_held3 (fun w' => w'.cell? ⟨T, 3, none⟩ = some (.pointer (some ⟨M, 0, none⟩)) ∧ w'.cell? ⟨W.heap.size, 0, none⟩ = some (.string r) ∧ w'.cell? ⟨W.heap.size, 1, none⟩ = some (.string k) ∧ w'.cell? ⟨W.heap.size, 2, none⟩ = some (.int .i64 t) ∧ w'.cell? ⟨W.heap.size, 3, none⟩ = some (.string v) ∧ w'.cell? ⟨W.heap.size, 4, none⟩ = some (.bool d))
    (first | with_reducible exact HS5 | with_reducible exact HS4 | with_reducible exact HS4d)
    (first | (go_at_call 237; (with_reducible refine HPx.out.mono ?_); rintro e w5 ⟨rfl, hM5, hT5⟩; have HS5 : _ ∧ _ := ⟨(World.cell?_of_block (hT5.block T hTz4 hTn)).trans HS4.1, k5o (hT5.block W.heap.size hz3 hKn) HS4.2⟩))
  have hT5' := (hT5.block T hTz4 hTn).trans HT4.out
  have hTu5 : Turned S W w5 := (Turned.of_below hB3).trans ((Turned.undrew hT5).wide fun k hk _ => by rcases hk with rfl | rfl <;> assumption)
  have t3 : w5.cell? ⟨T, 3, none⟩ = some (.pointer (some ⟨M, 0, none⟩)) := cob hT5' 3 rfl
  have t0 : w5.cell? ⟨T, 0, none⟩ = some (.int .i64 200) := cob hT5' 0 rfl
  have HSz := Lib.hid (fun n => (msize_any M _ _ (w5.drewN n) hM5).mono (fun e w' h => (⟨h.1, h.2.symm⟩ : e = .returned (.int .i64 ((nN : Nat) : Int)) ∧ w' = w5.drewN n)))
  clear HS4 HS4d HS5 hM5 hT5'
  have hd : decide ((200 : Int) ≤ ((nN : Nat) : Int)) = false := by simp; omega
  go_wp2
  go_quiet (first | (go_at_call 238; exact Calls.quiet_of_same (HSz.out _)))
  go_wp2
  go_ret
  exact ⟨rfl, hTu5.drewN nq⟩
theorem tput_t (T : Nat) (c : Cl) (hok : ClOk c) (hfl : FlushT c) (S : Nat → Prop) (W : World) (h : TreeT c W S T) (hS : Lt S W) :
    Calls Tryz.prog 209 #[.pointer (some ⟨T, 0, none⟩), clv c] W fun e W' => e = .returned (.int .i64 0) ∧ Turned S W W' := by
  have HHas := Lib.hid (fun w (hb : Below W.heap.size W w) => thas_one T c c hok ⟨rfl, rfl, rfl⟩ S w (.inr ((TreeT.framed c).frame h fun k hk => hb.block k (hS k hk))) (hS.wide hb.size))
  have HR := Lib.hid (fun w => cellright_any c w)
  rw [right_ok hok] at HR
  obtain ⟨M, Lv, lc, Lt, tc, X, hT, hM, hv, ht, hX, hlt, sT, sM, sv, st⟩ := h
  have hTl := hS T sT
  have hMl := hS M sM
  have hvl := hS Lv sv
  have htl := hS Lt st
  have hvT : T ≠ Lv := OwnT.ne hv hT (by decide)
  have hvM : M ≠ Lv := OwnT.ne hv hM (by decide)
  have htM : M ≠ Lt := OwnT.ne ht hM (by decide)
  have hvt : Lv ≠ Lt := by
    rcases hv.2 with ⟨h0, _⟩ | ⟨g', cp, cur, e1, _, hh, _⟩
    · cases h0
    · injection e1 with e1
      injection e1 with e1
      have h1 : Lv = g' := by injection e1
      subst h1
      exact OwnT.ne ht hh (by decide)
  have HPut := Lib.hid (fun w (hb : Below W.heap.size W w) => mput_new M c hok w ((hb.block M hMl).trans hM))
  have HV := Lib.hid (fun (w : World) (hw : w.heap[Lv]? = W.heap[Lv]?) => hv.of_block hw)
  have HTt := Lib.hid (fun (w : World) (hw : w.heap[Lt]? = W.heap[Lt]?) => ht.of_block hw)
  have HFl := Lib.hid hfl
  have hMT : T ≠ M := by intro e; subst e; rw [hM] at hT; injection hT with hT; injection hT with h1 h2; cases h1
  have HT := Lib.hid (fun (w : World) (hw : w.heap[T]? = W.heap[T]?) => hw.trans hT)
  have HS := Lib.hid hS
  clear hT hM hok hS hv ht hX hfl
  obtain ⟨nN, hnN⟩ : ∃ nN, nN = (cellN c).length := ⟨_, rfl⟩
  rw [← hnN] at HPut hlt
  clear hnN
  obtain ⟨x, hx⟩ : ∃ x, x = c := ⟨_, rfl⟩
  have HX := Lib.hid hx
  obtain ⟨r, k, t, v, d⟩ := c
  unfold clv clcells at HHas HR HPut
  simp only [] at HHas HR HPut
  rw [← hx] at HPut HFl
  clear hx
  unfold clv clcells
  simp only []
  go_enter Tryz.func209, Tryz.ntmps209
  go_wp2_with fail
  generalize hw1 : World.alloc W _ = w1
  have hK1 := named_new hw1.symm
  have hb1 := named_below hw1.symm
  have hz1 : W.heap.size < w1.heap.size := by rw [named_size hw1.symm]; omega
  clear hw1
  have HRx := Lib.hid (HR.out w1)
  refine HRx.out.mono ?_
  rintro e w2 ⟨rfl, hb2⟩
  have hB2 := below_next hb1 hb2
  have hK2 := (hb2.block W.heap.size hz1).trans hK1
  have hz2 : W.heap.size < w2.heap.size := Nat.lt_of_lt_of_le hz1 hb2.size
  clear hK1 hb1 hb2
  have e0 : w2.cell? ⟨W.heap.size, 0, none⟩ = some (.string r) := cob hK2 0 rfl
  have e1 : w2.cell? ⟨W.heap.size, 1, none⟩ = some (.string k) := cob hK2 1 rfl
  have e2 : w2.cell? ⟨W.heap.size, 2, none⟩ = some (.int .i64 t) := cob hK2 2 rfl
  have e3 : w2.cell? ⟨W.heap.size, 3, none⟩ = some (.string v) := cob hK2 3 rfl
  have e4 : w2.cell? ⟨W.heap.size, 4, none⟩ = some (.bool d) := cob hK2 4 rfl
  have HK2 := Lib.hid hK2
  have HHx := Lib.hid (HHas.out w2 hB2)
  clear hK2
  go_wp2_with fail
  refine HHx.out.mono ?_
  rintro e w3 ⟨rfl, hb3⟩
  have hB3 := below_next hB2 hb3
  have hK3 := (hb3.block W.heap.size hz2).trans HK2.out
  have hz3 : W.heap.size < w3.heap.size := Nat.lt_of_lt_of_le hz2 hb3.size
  clear e0 e1 e2 e3 e4 hb3
  have hT4 := HT.out w3 (hB3.block T hTl)
  have HPx := Lib.hid (HPut.out w3.drew hB3.drew)
  have hTz4 : T < w3.heap.size := by omega
  have HS4 : w3.cell? ⟨T, 3, none⟩ = some (.pointer (some ⟨M, 0, none⟩)) ∧ w3.cell? ⟨W.heap.size, 0, none⟩ = some (.string r) ∧ w3.cell? ⟨W.heap.size, 1, none⟩ = some (.string k) ∧ w3.cell? ⟨W.heap.size, 2, none⟩ = some (.int .i64 t) ∧ w3.cell? ⟨W.heap.size, 3, none⟩ = some (.string v) ∧ w3.cell? ⟨W.heap.size, 4, none⟩ = some (.bool d) := ⟨cob hT4 3 rfl, cob hK3 0 rfl, cob hK3 1 rfl, cob hK3 2 rfl, cob hK3 3 rfl, cob hK3 4 rfl⟩
  have HS4d : w3.drew.cell? ⟨T, 3, none⟩ = some (.pointer (some ⟨M, 0, none⟩)) ∧ w3.drew.cell? ⟨W.heap.size, 0, none⟩ = some (.string r) ∧ w3.drew.cell? ⟨W.heap.size, 1, none⟩ = some (.string k) ∧ w3.drew.cell? ⟨W.heap.size, 2, none⟩ = some (.int .i64 t) ∧ w3.drew.cell? ⟨W.heap.size, 3, none⟩ = some (.string v) ∧ w3.drew.cell? ⟨W.heap.size, 4, none⟩ = some (.bool d) := HS4
  have hKM : W.heap.size ≠ M := by omega
  have HT4 := Lib.hid hT4
  clear hT4
  go_wp2
  go_region_held3 (fun w' => w'.cell? ⟨T, 3, none⟩ = some (.pointer (some ⟨M, 0, none⟩)) ∧ w'.cell? ⟨W.heap.size, 0, none⟩ = some (.string r) ∧ w'.cell? ⟨W.heap.size, 1, none⟩ = some (.string k) ∧ w'.cell? ⟨W.heap.size, 2, none⟩ = some (.int .i64 t) ∧ w'.cell? ⟨W.heap.size, 3, none⟩ = some (.string v) ∧ w'.cell? ⟨W.heap.size, 4, none⟩ = some (.bool d))
    (first | with_reducible exact HS5 | with_reducible exact HS4 | with_reducible exact HS4d)
    (first | (go_at_call 237; (with_reducible refine HPx.out.mono ?_); rintro e w5 ⟨rfl, g, cap, hM5, hO5, hT5⟩; have HS5 : _ ∧ _ := ⟨(World.cell?_of_block (hT5.block T hTz4 hMT)).trans HS4.1, k5o (hT5.block W.heap.size hz3 hKM) HS4.2⟩))
  have hT5' := (hT5.block T hTz4 hMT).trans HT4.out
  have hTu5 : Turned S W w5 := (Turned.of_below hB3).trans ((Turned.undrew hT5).wide fun k hk _ => by rw [hk]; exact sM)
  have t3 : w5.cell? ⟨T, 3, none⟩ = some (.pointer (some ⟨M, 0, none⟩)) := cob hT5' 3 rfl
  have t0 : w5.cell? ⟨T, 0, none⟩ = some (.int .i64 200) := cob hT5' 0 rfl
  have HSz := Lib.hid (fun n => (msize_any M _ _ (w5.drewN n) hM5).mono (fun e w' h => (⟨h.1, h.2.symm⟩ : e = .returned (.int .i64 ((nN : Nat) : Int)) ∧ w' = w5.drewN n)))
  have hv5 := HV.out w5 ((hT5.block Lv (by have := hB3.size; rw [drew_size]; omega) (fun e => hvM e.symm)).trans (hB3.block Lv hvl))
  have ht5 := HTt.out w5 ((hT5.block Lt (by have := hB3.size; rw [drew_size]; omega) (fun e => htM e.symm)).trans (hB3.block Lt htl))
  have HF := Lib.hid (fun n => HFl.out T M g cap Lv lc Lt tc X _ (w5.drewN n) hT5' hM5 (OwnT.low (b' := 0) (show One (w5.drewN n) _ g cap x from hO5) (Nat.zero_le _)) hv5 ht5 (fun e => hvT e.symm) hvt)
  clear HS4 HS4d HS5 hM5 hO5 hT5' hv5 ht5
  have hd : decide ((200 : Int) ≤ ((nN : Nat) : Int)) = true := by simp; omega
  go_wp2
  go_quiet (first | (go_at_call 238; exact Calls.quiet_of_same (HSz.out _)))
  go_wp2_with fail
  refine (HF.out nq).mono ?_
  rintro e w8 ⟨rfl, hTu8⟩
  go_wp2
  go_ret
  exact ⟨rfl, (hTu5.drewN nq).trans (hTu8.wide fun k hk _ => by rcases hk with rfl | rfl | rfl <;> assumption)⟩
end Go.Proofs.YtoigogjmhkpdlaaGreat
