/- A part of the proof of WholeFew: the texts Msg, Made, Accept, Prepare, Hear. -/
import Derived.Test.YtoigogjmhkpdlaaGreatJ09
set_option maxHeartbeats 3200000
set_option maxRecDepth 100000
namespace Go.Proofs.YtoigogjmhkpdlaaGreat
open Go.RowKit
structure Mg where
  kind : Nat
  frm : Nat
  to : Nat
  ballot : Nat
  slot : Nat
  vote : Vt
def vt0 : Vt := ⟨0, 0, 0, false, ByteArray.empty⟩
def mcells (m : Mg) : List Value := [.int .i64 (m.kind : Int), .int .i64 (m.frm : Int), .int .i64 (m.to : Int), .int .i64 (m.ballot : Int), .int .i64 (m.slot : Int), .int .i64 (m.vote.slot : Int), .int .i64 (m.vote.ballot : Int), .int .i64 (m.vote.origin : Int), .bool m.vote.full, .string m.vote.bytes, .slice none 0 0]
def mgv (m : Mg) : Value := .agg (mcells m).toArray
theorem mcells_len (m : Mg) : (mcells m).length = 11 := rfl
structure MgOk (m : Mg) : Prop where
  f : m.frm < 7
  t : m.to < 7
  b1 : 1 ≤ m.ballot
  b2 : m.ballot ≤ 2147483647
  k : (m.kind = 1 ∧ m.slot = 0 ∧ m.vote = vt0) ∨ (m.kind = 2 ∧ m.slot = 0 ∧ m.vote = vt0) ∨ (m.kind = 3 ∧ m.slot = 0 ∧ VRight m.vote ∧ m.vote.ballot = m.ballot) ∨ (m.kind = 4 ∧ m.slot < 64 ∧ m.vote = vt0)
theorem mbare_yes (m : Mg) (h : MgOk m) (W : World) :
    Calls Tryz.prog 139 #[mgv m] W fun e W' => e = .returned (.bool true) ∧ Below W.heap.size W W' := by
  obtain ⟨_, _, _, _, hk⟩ := h
  obtain ⟨kind, frm, to, ballot, slot, ⟨vs, vb, vo, vf, vy⟩⟩ := m
  unfold mgv mcells
  simp only at hk ⊢
  rcases hk with ⟨rfl, rfl, hv⟩ | ⟨rfl, rfl, hv⟩ | ⟨rfl, rfl, hv, rfl⟩ | ⟨rfl, hs, hv⟩
  all_goals
    first
      | cases hv
      | skip
    go_enter Tryz.func139, Tryz.ntmps139
    go_wp2
    go_ret
    exact ⟨rfl, (Below.refl _ _).alloc (Nat.le_refl _) _⟩
theorem cob {w : World} {g : Nat} {cs : Array Value} {t : TypeId} {fr : Nat × Nat} (h : w.heap[g]? = some (.cells cs t fr)) (j : Nat) {v : Value} (hv : cs[j]? = some v) : w.cell? ⟨g, j, none⟩ = some v := by
  simp [World.cell?, h, hv]
theorem min_yes (n k : Nat) (h : n < k) (W : World) :
    Calls Tryz.prog 138 #[.int .i64 (n : Int), .int .i64 (k : Int)] W fun e W' => e = .returned (.bool true) ∧ W = W' := by
  have hd1 : decide ((0 : Int) ≤ (n : Int)) = true := by simp
  have hd2 : decide ((n : Int) < (k : Int)) = true := by simp; omega
  go_enter Tryz.func138, Tryz.ntmps138
  go_wp2
  go_ret
  exact ⟨rfl, rfl⟩
theorem rising_nil (b : Nat) (W : World) :
    Calls Tryz.prog 141 #[.slice none 0 0, .int .i64 (b : Int)] W fun e W' => e = .returned (.bool true) ∧ W = W' := by
  go_enter Tryz.func141, Tryz.ntmps141
  go_wp2
  refine wp_loop_rounds 1 ?_
  rw [rounds_succ]
  go_wp2
  go_ret
  exact ⟨rfl, rfl⟩
theorem mright_yes (m : Mg) (h : MgOk m) (W : World) :
    Calls Tryz.prog 105 #[mgv m] W fun e W' => e = .returned (.bool true) ∧ Below W.heap.size W W' := by
  have Hb := Lib.hid (fun w => mbare_yes m h w)
  have Hv := Lib.hid (fun (hv : VRight m.vote) w => vright_yes m.vote hv w)
  obtain ⟨hf, ht, hb1, hb2, hk⟩ := h
  obtain ⟨kind, frm, to, ballot, slot, ⟨vs, vb, vo, vf, vy⟩⟩ := m
  simp only at hk hf ht hb1 hb2
  unfold mgv mcells at Hb ⊢
  unfold vtv at Hv
  simp only at Hb Hv ⊢
  have hfm := Lib.hid (fun w => min_yes frm 7 hf w)
  have htm := Lib.hid (fun w => min_yes to 7 ht w)
  have hx1 : decide ((ballot : Int) < 1) = false := by simp; omega
  have hx2 : decide ((2147483647 : Int) < (ballot : Int)) = false := by simp; omega
  rcases hk with ⟨rfl, rfl, hv⟩ | ⟨rfl, rfl, hv⟩ | ⟨rfl, rfl, hv, rfl⟩ | ⟨rfl, hs, hv⟩
  · cases hv
    go_enter Tryz.func105, Tryz.ntmps105
    go_wp2_with (first
      | (have _ := M3; go_at_call 141; refine (rising_nil ballot _).mono ?_; rintro e w4 ⟨rfl, rfl⟩)
      | (have _ := M2; go_at_call 139; refine (Hb.out _).mono ?_; rintro e w3 ⟨rfl, hb3⟩; have hbk := (hb3.block W.heap.size (by simp)).trans (heap_alloc_new W _); have c0 := cob hbk 0 rfl; have c3 := cob hbk 3 rfl; have c4 := cob hbk 4 rfl; have c5 := cob hbk 5 rfl; have c6 := cob hbk 6 rfl; have c7 := cob hbk 7 rfl; have c8 := cob hbk 8 rfl; have c9 := cob hbk 9 rfl; have c10 := cob hbk 10 rfl; have M3 : True := trivial)
      | (have _ := M1; go_at_call 138; refine (htm.out _).mono ?_; rintro e w2 ⟨rfl, rfl⟩; have M2 : True := trivial)
      | (go_at_call 138; refine (hfm.out _).mono ?_; rintro e w1 ⟨rfl, rfl⟩; have M1 : True := trivial))
    go_ret
    exact ⟨rfl, ((Below.refl W.heap.size W).alloc (Nat.le_refl _) _).trans (hb3.mono (by simp))⟩
  · cases hv
    go_enter Tryz.func105, Tryz.ntmps105
    go_wp2_with (first
      | (have _ := M3; go_at_call 141; refine (rising_nil ballot _).mono ?_; rintro e w4 ⟨rfl, rfl⟩)
      | (have _ := M2; go_at_call 139; refine (Hb.out _).mono ?_; rintro e w3 ⟨rfl, hb3⟩; have hbk := (hb3.block W.heap.size (by simp)).trans (heap_alloc_new W _); have c0 := cob hbk 0 rfl; have c3 := cob hbk 3 rfl; have c4 := cob hbk 4 rfl; have c5 := cob hbk 5 rfl; have c6 := cob hbk 6 rfl; have c7 := cob hbk 7 rfl; have c8 := cob hbk 8 rfl; have c9 := cob hbk 9 rfl; have c10 := cob hbk 10 rfl; have M3 : True := trivial)
      | (have _ := M1; go_at_call 138; refine (htm.out _).mono ?_; rintro e w2 ⟨rfl, rfl⟩; have M2 : True := trivial)
      | (go_at_call 138; refine (hfm.out _).mono ?_; rintro e w1 ⟨rfl, rfl⟩; have M1 : True := trivial))
    go_ret
    exact ⟨rfl, ((Below.refl W.heap.size W).alloc (Nat.le_refl _) _).trans (hb3.mono (by simp))⟩
  · go_enter Tryz.func105, Tryz.ntmps105
    go_wp2_with (first
      | (have _ := M3; go_at_call 140; refine (Hv.out hv _).mono ?_; rintro e w4 ⟨rfl, hb4⟩; have hbk4 := (hb4.block W.heap.size (Nat.lt_of_lt_of_le (by simp) hb3.size)).trans hbk; have d3 := cob hbk4 3 rfl; have d6 := cob hbk4 6 rfl)
      | (have _ := M2; go_at_call 139; refine (Hb.out _).mono ?_; rintro e w3 ⟨rfl, hb3⟩; have hbk := (hb3.block W.heap.size (by simp)).trans (heap_alloc_new W _); have c0 := cob hbk 0 rfl; have c3 := cob hbk 3 rfl; have c4 := cob hbk 4 rfl; have c5 := cob hbk 5 rfl; have c6 := cob hbk 6 rfl; have c7 := cob hbk 7 rfl; have c8 := cob hbk 8 rfl; have c9 := cob hbk 9 rfl; have c10 := cob hbk 10 rfl; have M3 : True := trivial)
      | (have _ := M1; go_at_call 138; refine (htm.out _).mono ?_; rintro e w2 ⟨rfl, rfl⟩; have M2 : True := trivial)
      | (go_at_call 138; refine (hfm.out _).mono ?_; rintro e w1 ⟨rfl, rfl⟩; have M1 : True := trivial))
    go_ret
    exact ⟨rfl, ((Below.refl W.heap.size W).alloc (Nat.le_refl _) _).trans ((below_next hb3 hb4).mono (by simp))⟩
  · cases hv
    go_enter Tryz.func105, Tryz.ntmps105
    go_wp2_with (first
      | (have _ := M3; go_at_call 138; refine (min_yes slot 64 hs _).mono ?_; rintro e w4 ⟨rfl, rfl⟩)
      | (have _ := M2; go_at_call 139; refine (Hb.out _).mono ?_; rintro e w3 ⟨rfl, hb3⟩; have hbk := (hb3.block W.heap.size (by simp)).trans (heap_alloc_new W _); have c0 := cob hbk 0 rfl; have c3 := cob hbk 3 rfl; have c4 := cob hbk 4 rfl; have c5 := cob hbk 5 rfl; have c6 := cob hbk 6 rfl; have c7 := cob hbk 7 rfl; have c8 := cob hbk 8 rfl; have c9 := cob hbk 9 rfl; have c10 := cob hbk 10 rfl; have M3 : True := trivial)
      | (have _ := M1; go_at_call 138; refine (htm.out _).mono ?_; rintro e w2 ⟨rfl, rfl⟩; have M2 : True := trivial)
      | (go_at_call 138; refine (hfm.out _).mono ?_; rintro e w1 ⟨rfl, rfl⟩; have M1 : True := trivial))
    go_ret
    exact ⟨rfl, ((Below.refl W.heap.size W).alloc (Nat.le_refl _) _).trans (hb3.mono (by simp))⟩
theorem made1_no (x v : Vt) (h : x.slot ≠ v.slot) (g : Nat) (te : TypeId) (W : World) (hg : W.heap[g]? = some (.cells (vcells v).toArray te)) :
    Calls Tryz.prog 217 #[vtv x, .pointer (some ⟨g, 0, none⟩)] W fun e W' => e = .returned (.bool false) ∧ Below W.heap.size W W' := by
  have hgl : g < W.heap.size := (Array.getElem?_eq_some_iff.1 hg).1
  have hgw := (heap_alloc_old W (.cells (vcells x).toArray 62) hgl).trans hg
  have c0 := cob hgw 0 (v := .int .i64 (v.slot : Int)) rfl
  have hne : ((x.slot : Int) == (v.slot : Int)) = false := by rw [beq_eq_false_iff_ne]; omega
  unfold vcells at c0
  unfold vtv
  go_enter Tryz.func217, Tryz.ntmps217
  go_wp2
  go_ret
  exact ⟨rfl, (Below.refl _ _).alloc (Nat.le_refl _) _⟩
theorem indexf_no (L : List Vt) (v : Vt) (h : ∀ x ∈ L, x.slot ≠ v.slot) (hn : L.length ≤ 64) (A : Option Addr) (c b : Nat) (g : Nat) (te : TypeId) (W : World) (hO : OwnT vcells 62 5 W b A c L) (hg : W.heap[g]? = some (.cells (vcells v).toArray te)) :
    Calls Tryz.prog 215 #[.slice A L.length c, .func (.func 217) #[] #[.pointer (some ⟨g, 0, none⟩)]] W fun e W' => e = .returned (.int .i64 (-1)) ∧ Below W.heap.size W W' := by
  have hgl : g < W.heap.size := (Array.getElem?_eq_some_iff.1 hg).1
  have H := Lib.hid h
  have HO := Lib.hid hO
  clear h hO
  go_enter Tryz.func215, Tryz.ntmps215
  go_wp2
  go_loopw [8] (fun i wr => ∃ k : Nat, k ≤ L.length ∧ i = .int .i64 k ∧ Below W.heap.size W wr) (fun i _ => L.length - (intOf i).toNat)
  case atStart => exact ⟨0, Nat.zero_le _, rfl, Below.refl _ _⟩
  case round =>
    obtain ⟨k, hk, rfl, hB⟩ := hrel
    by_cases hkn : k < L.length
    · have hO2 := HO.out.below hB (Nat.le_refl _)
      obtain ⟨ga, rfl, _, _, _⟩ := hO2.form (by omega)
      obtain ⟨x, hx⟩ : ∃ x, x = L[k] := ⟨_, rfl⟩
      have hxm : x ∈ L := by rw [hx]; exact List.getElem_mem _
      have d0 := hO2.cell vcells_len k 0 hkn (.int .i64 (x.slot : Int)) (by rw [hx]; rfl)
      have d1 := hO2.cell vcells_len k 1 hkn (.int .i64 (x.ballot : Int)) (by rw [hx]; rfl)
      have d2 := hO2.cell vcells_len k 2 hkn (.int .i64 (x.origin : Int)) (by rw [hx]; rfl)
      have d3 := hO2.cell vcells_len k 3 hkn (.bool x.full) (by rw [hx]; rfl)
      have d4 := hO2.cell vcells_len k 4 hkn (.string x.bytes) (by rw [hx]; rfl)
      simp only [Nat.add_zero] at d0
      have Hm := Lib.hid (made1_no x v (H.out x hxm) g te wr ((hB.block g hgl).trans hg))
      unfold vtv at Hm
      clear hO2 hx
      go_wp2_with (go_loud (go_at_call 217; refine (Hm.out).mono ?_; rintro e w2 ⟨rfl, hb2⟩))
      go_roundw
      case rel => exact ⟨k + 1, by omega, by go_num, below_next hB hb2⟩
      case measure => simp [intOf]; omega
    · go_wp2
      go_ret
      exact ⟨rfl, hB⟩
theorem OwnT.lit {α : Type} (mk : α → List Value) (e : TypeId) (sz : Nat) (w : World) (base : Nat) (cs : Array Value) (l : List α) (hmk : ∀ x, (mk x).length = sz) (hb : base ≤ w.heap.size) (hm : l.length ≤ maxLen) (hs : cs.toList = l.flatMap mk) :
    OwnT mk e sz (w.alloc (.cells cs e)) base (some ⟨w.heap.size, 0, none⟩) l.length l := by
  refine ⟨flat_len mk sz hmk l, .inr ⟨w.heap.size, l.length, cs, rfl, hb, heap_alloc_new _ _, Nat.le_refl _, hm, ?_, ?_⟩⟩
  · rw [← Array.length_toList, hs, flat_len mk sz hmk l]
  · rw [hs, List.take_of_length_le (by rw [flat_len mk sz hmk l]; exact Nat.le_refl _)]
theorem containsf_no (L : List Vt) (v : Vt) (h : ∀ x ∈ L, x.slot ≠ v.slot) (hn : L.length ≤ 64) (A : Option Addr) (c b : Nat) (g : Nat) (te : TypeId) (W : World) (hO : OwnT vcells 62 5 W b A c L) (hg : W.heap[g]? = some (.cells (vcells v).toArray te)) :
    Calls Tryz.prog 216 #[.slice A L.length c, .func (.func 217) #[] #[.pointer (some ⟨g, 0, none⟩)]] W fun e W' => e = .returned (.bool false) ∧ Below W.heap.size W W' := by
  have H := Lib.hid (indexf_no L v h hn A c b g te W hO hg)
  clear hO hg h
  go_enter Tryz.func216, Tryz.ntmps216
  go_wp2_with fail
  refine (H.out).mono ?_
  rintro e w1 ⟨rfl, hb⟩
  go_wp2
  go_ret
  exact ⟨rfl, hb⟩
theorem made_no (S : Nat → Prop) (G D m : Nat) (rs : List Rc) (v : Vt) (hv : ∀ x ∈ (say rs).2, x.slot ≠ v.slot) (W : World) (h : LogAt W S G D m rs) (hS : Lt S W) :
    Calls Tryz.prog 181 #[.pointer (some ⟨G, 0, none⟩), vtv v] W fun e W' => e = .returned (.bool false) ∧ Below W.heap.size W W' := by
  have hrz : Hid (LogOk rs) := by obtain ⟨_, _, _, _, _, _, _, _, _, _, h3, _⟩ := h; exact Lib.hid h3
  have hgn := heap_alloc_new W (.cells (vcells v).toArray 62)
  have HV := Lib.hid (lvotes_any S G D m rs (W.alloc (.cells (vcells v).toArray 62)) (h.frame fun k hk => heap_alloc_old _ _ (hS k hk)) (hS.wide (by simp)))
  have Hv := Lib.hid hv
  clear h hv
  unfold vcells at HV hgn
  unfold vtv
  go_enter Tryz.func181, Tryz.ntmps181
  go_wp2_with fail
  refine (HV.out).mono ?_
  rintro e w1 ⟨L, A, c, hL, rfl, hO, _, hb⟩
  have hr := hrz.out.rising
  have hlen := hr.1.len hr.2
  have Hc := Lib.hid (containsf_no L v (fun x hx => Hv.out x (by rw [← hL.out]; exact hx)) (by rw [hL.out]; exact hlen) A c _ W.heap.size 62 w1 hO ((hb.block W.heap.size (by simp)).trans hgn))
  clear hO hr hlen
  go_wp2_with fail
  refine (Hc.out).mono ?_
  rintro e w2 ⟨rfl, hb2⟩
  go_wp2
  go_ret
  exact ⟨rfl, below_next (((Below.refl W.heap.size W).alloc (Nat.le_refl _) (.cells (vcells v).toArray 62)).trans (hb.mono (by simp))) hb2⟩
theorem avote_any (S : Nat → Prop) (G D m : Nat) (rs : List Rc) (v : Vt) (hok : ok1 (say rs) (.v v)) (hfit : (logB rs).length + 556 ≤ m) (me frm : Nat) (W : World) (h : LogAt W S G D m rs) (hS : Lt S W) :
    Calls Tryz.prog 137 #[.pointer (some ⟨G, 0, none⟩), vtv v, mgv ⟨0, me, frm, 0, 0, vt0⟩] W fun e W' => ∃ S' g, e = .returned (.slice (some ⟨g, 0, none⟩) 1 1) ∧ W'.heap[g]? = some (.cells (mcells ⟨4, me, frm, v.ballot, v.slot, vt0⟩).toArray 133) ∧ W.heap.size ≤ g ∧ ¬ S' g ∧ LogAt W' S' G D m (rs ++ [.v v]) ∧ Step S W W' S' := by
  have Hok := Lib.hid hok
  have HL := Lib.hid h
  have HS := Lib.hid hS
  obtain ⟨hv, hbp, hvs⟩ := hok
  have hvp := hv.b1
  obtain ⟨p, hp⟩ : ∃ p, p = (say rs).1 := ⟨_, rfl⟩
  rw [← hp] at hbp
  have HP := Lib.hid hp
  have hd := show decide ((v.ballot : Int) < (p : Int)) = false by simp; omega
  obtain ⟨w0, hw0⟩ : ∃ w0, w0 = (W.alloc (.cells (vcells v).toArray 62)).alloc (.cells (mcells ⟨0, me, frm, 0, 0, vt0⟩).toArray 133) := ⟨_, rfl⟩
  have hb0 : Below W.heap.size W w0 := by rw [hw0]; exact ((Below.refl _ _).alloc (Nat.le_refl _) _).alloc (by simp) _
  have hM0 := named_new hw0
  have hV0 := named_old hw0 (heap_alloc_new W (.cells (vcells v).toArray 62))
  rw [World.size_alloc] at hM0
  have hs0 : w0.heap.size = W.heap.size + 2 := by rw [named_size hw0]; simp
  have Hpr := Lib.hid (fun w (hw : w.heap = w0.heap) => lpromised_any S G D m rs w ((h.frame (W' := w0) fun k hk => hb0.block k (hS k hk)).frame (W' := w) fun k hk => by rw [hw]))
  rw [← hp] at Hpr
  unfold vcells at hw0 hV0
  unfold mcells vt0 at hw0 hM0
  have c1 := cob hV0 1 rfl
  clear h hS hv hvs hp
  unfold vtv mgv mcells vt0
  go_enter Tryz.func137, Tryz.ntmps137
  go_wp2
  simp only [Int.natCast_zero] at hw0 ⊢
  rw [← hw0]
  clear hw0
  go_region_held3 (fun w' => w'.cell? ⟨W.heap.size, 1, none⟩ = some (.int .i64 (v.ballot : Int))) (first | exact c1)
    (first
      | (go_at_call 102; refine (Hpr.out w0.drew rfl).mono ?_; rintro e w1 ⟨rfl, rfl⟩))
  have HL0 := HL.out.frame (W' := w0.drew) fun k hk => hb0.block k (HS.out k hk)
  have hlt0 : Lt S w0.drew := HS.out.wide hb0.size
  have Hmade := Lib.hid (made_no S G D m rs v (fun u hu => by have := Hok.out.2.2 u hu; omega) w0.drew HL0 hlt0)
  have HV := Lib.hid (fun w h hs => lvote_any S G D m rs v Hok.out hfit w h hs)
  unfold vtv at Hmade HV
  have e0 := cob hV0 0 rfl
  have e2 := cob hV0 2 rfl
  have e3 := cob hV0 3 rfl
  have e4 := cob hV0 4 rfl
  have HL0' := Lib.hid HL0
  have Hlt0 := Lib.hid hlt0
  have HB0 := Lib.hid hb0
  clear HL0 hlt0 hb0
  go_wp2_with (first
    | (have _ := M1; go_at_call 182; go_loud (refine (HV.out _ (HL0'.out.frame fun k hk => hb2.block k (Hlt0.out k hk)) (Hlt0.out.wide hb2.size)).mono ?_; rintro e w3 ⟨S3, rfl, HL3, hT3⟩))
    | (go_at_call 181; refine (Hmade.out).mono ?_; rintro e w2 ⟨rfl, hb2⟩; have hV2 := (hb2.block W.heap.size (by show _ < w0.heap.size; omega)).trans hV0; have g0 := cob hV2 0 rfl; have g1 := cob hV2 1 rfl; have g2 := cob hV2 2 rfl; have g3 := cob hV2 3 rfl; have g4 := cob hV2 4 rfl; have M1 : True := trivial))
  have hs0' := hb2.size
  have hs3 := hT3.t.size
  have hs0'' : w0.heap.size ≤ w2.heap.size := hs0'
  have hnS : ∀ k, W.heap.size ≤ k → ¬ S k := fun k hk e => by have := HS.out k e; omega
  have hV3 := (hT3.t.block W.heap.size (by omega) (hnS _ (Nat.le_refl _))).trans hV2
  have hM3 := (hT3.t.block (W.heap.size + 1) (by omega) (hnS _ (by omega))).trans ((hb2.block (W.heap.size + 1) (by show _ < w0.heap.size; omega)).trans hM0)
  have k0 := cob hV3 0 rfl
  have k1 := cob hV3 1 rfl
  have m0 := cob hM3 0 rfl
  have m1 := cob hM3 1 rfl
  have m2 := cob hM3 2 rfl
  have m3 := cob hM3 3 rfl
  have m4 := cob hM3 4 rfl
  have m5 := cob hM3 5 rfl
  have m6 := cob hM3 6 rfl
  have m7 := cob hM3 7 rfl
  have m8 := cob hM3 8 rfl
  have m9 := cob hM3 9 rfl
  have m10 := cob hM3 10 rfl
  have f0 : w3.frozen? ⟨W.heap.size + 1, 0, none⟩ = false := by simp [World.frozen?, hM3]
  have f3 : w3.frozen? ⟨W.heap.size + 1, 3, none⟩ = false := by simp [World.frozen?, hM3]
  have f4 : w3.frozen? ⟨W.heap.size + 1, 4, none⟩ = false := by simp [World.frozen?, hM3]
  have HLS := Lib.hid HL3
  have HT3 := Lib.hid hT3
  clear HL3 hT3
  go_region
  go_wp2
  go_ret
  obtain ⟨w4, hw4⟩ : ∃ w4, w4 = (((w3.setCell ⟨W.heap.size + 1, 0, none⟩ (.int .i64 4)).setCell ⟨W.heap.size + 1, 3, none⟩ (.int .i64 (v.ballot : Int))).setCell ⟨W.heap.size + 1, 4, none⟩ (.int .i64 (v.slot : Int))) := ⟨_, rfl⟩
  rw [← hw4]
  have hT := HT3.out
  have hz4 : w4.heap.size = w3.heap.size := by rw [hw4]; simp
  have ho : ∀ k, k ≠ W.heap.size + 1 → w4.heap[k]? = w3.heap[k]? := fun k hk => by
    rw [hw4]; exact (heap_setCell_other _ _ _ _ hk).trans ((heap_setCell_other _ _ _ _ hk).trans (heap_setCell_other _ _ _ _ hk))
  have hnM : ¬ S3 (W.heap.size + 1) := fun e => by
    rcases hT.sub _ e with h | h
    · exact hnS _ (by omega) h
    · omega
  have hT4 : Turned S W w4 := by
    rw [hw4]
    exact (((((Turned.of_below HB0.out).drew).trans (Turned.of_below hb2)).trans hT.t).setCell (.inr (by simp)) _ |>.setCell (.inr (by simp)) _).setCell (.inr (by simp)) _
  refine ⟨S3, w3.heap.size, by rw [← hz4]; rfl, ?_, by omega, fun e => by have := hT.lt _ e; omega, ?_, ?_, ?_, ?_⟩
  · rw [← hz4]; exact heap_alloc_new w4 _
  · exact HLS.out.frame fun k hk => (heap_alloc_old w4 _ (by have := hT.lt k hk; omega)).trans (ho k (fun e => hnM (e ▸ hk)))
  · exact (hT4.alloc _).drew
  · intro k hk
    rcases hT.sub k hk with h | h
    · exact .inl h
    · exact .inr (by omega)
  · intro k hk
    have := hT.lt k hk
    show k < (w4.alloc _).heap.size
    simp; omega
theorem delf_nil (f : Value) (W : World) :
    Calls Tryz.prog 179 #[.slice none 0 0, f] W fun e W' => e = .returned (.slice none 0 0) ∧ W = W' := by
  have hi : ∀ w, Calls Tryz.prog 215 #[.slice none 0 0, f] w fun e w' => e = .returned (.int .i64 (-1)) ∧ w = w' := by
    intro w
    go_enter Tryz.func215, Tryz.ntmps215
    go_wp2
    refine wp_loop_rounds 1 ?_
    rw [rounds_succ]
    go_wp2
    go_ret
    exact ⟨rfl, rfl⟩
  go_enter Tryz.func179, Tryz.ntmps179
  go_wp2_with fail
  refine (hi _).mono ?_
  rintro e w1 ⟨rfl, rfl⟩
  go_wp2
  go_ret
  exact ⟨rfl, rfl⟩
theorem aprepare_new (S : Nat → Prop) (G D m : Nat) (rs : List Rc) (b : Nat) (h1 : 1 ≤ b) (h2 : b ≤ 2147483647) (hpb : (say rs).1 < b) (hvs : (say rs).2 = []) (hfit : (logB rs).length + 556 ≤ m) (me frm : Nat) (W : World) (h : LogAt W S G D m rs) (hS : Lt S W) :
    Calls Tryz.prog 136 #[.pointer (some ⟨G, 0, none⟩), .int .i64 (b : Int), mgv ⟨0, me, frm, 0, 0, vt0⟩] W fun e W' => ∃ S' g, e = .returned (.slice (some ⟨g, 0, none⟩) 1 1) ∧ W'.heap[g]? = some (.cells (mcells ⟨2, me, frm, b, 0, vt0⟩).toArray 133) ∧ W.heap.size ≤ g ∧ ¬ S' g ∧ LogAt W' S' G D m (rs ++ [.p b]) ∧ Step S W W' S' := by
  have HL := Lib.hid h
  have HS := Lib.hid hS
  have Hvs := Lib.hid hvs
  obtain ⟨p, hp⟩ : ∃ p, p = (say rs).1 := ⟨_, rfl⟩
  have Hpb := Lib.hid hpb
  rw [← hp] at hpb
  have HP := Lib.hid hp
  have hd := show decide ((b : Int) < (p : Int)) = false by simp; omega
  have hd2 := show decide ((p : Int) < (b : Int)) = true by simp; omega
  obtain ⟨w0, hw0⟩ : ∃ w0, w0 = (W.alloc (.cells #[.int .i64 (b : Int)] 3)).alloc (.cells (mcells ⟨0, me, frm, 0, 0, vt0⟩).toArray 133) := ⟨_, rfl⟩
  have hb0 : Below W.heap.size W w0 := by rw [hw0]; exact ((Below.refl _ _).alloc (Nat.le_refl _) _).alloc (by simp) _
  have hM0 := named_new hw0
  have hV0 := named_old hw0 (heap_alloc_new W (.cells #[.int .i64 (b : Int)] 3))
  rw [World.size_alloc] at hM0
  have hs0 : w0.heap.size = W.heap.size + 2 := by rw [named_size hw0]; simp
  have hL0 := h.frame (W' := w0) fun k hk => hb0.block k (hS k hk)
  have Hpr := Lib.hid (lpromised_any S G D m rs w0 hL0)
  rw [← hp] at Hpr
  have HL0 := Lib.hid hL0
  have Hlt0 := Lib.hid (hS.wide hb0.size)
  unfold mcells vt0 at hw0 hM0
  have c0 := cob hV0 0 rfl
  clear h hS hvs hp hL0
  unfold mgv mcells vt0
  go_enter Tryz.func136, Tryz.ntmps136
  go_wp2_with fail
  simp only [Int.natCast_zero] at hw0 ⊢
  rw [← hw0]
  clear hw0
  have HB0 := Lib.hid hb0
  clear hb0
  refine (Hpr.out).mono ?_
  rintro e w1 ⟨rfl, rfl⟩
  have Hpm := Lib.hid (lpromise_any S G D m rs b h1 h2 Hpb.out hfit w0 HL0.out Hlt0.out)
  go_wp2_with (go_at_call 112; refine (Hpm.out).mono ?_; rintro e w3 ⟨S3, rfl, HL3, hT3⟩)
  have hnS : ∀ k, W.heap.size ≤ k → ¬ S k := fun k hk e => by have := HS.out k e; omega
  have hV3 := (hT3.t.block W.heap.size (by omega) (hnS _ (Nat.le_refl _))).trans hV0
  have hM3 := (hT3.t.block (W.heap.size + 1) (by omega) (hnS _ (by omega))).trans hM0
  have k0 := cob hV3 0 rfl
  have m0 := cob hM3 0 rfl
  have m1 := cob hM3 1 rfl
  have m2 := cob hM3 2 rfl
  have m3 := cob hM3 3 rfl
  have m4 := cob hM3 4 rfl
  have m5 := cob hM3 5 rfl
  have m6 := cob hM3 6 rfl
  have m7 := cob hM3 7 rfl
  have m8 := cob hM3 8 rfl
  have m9 := cob hM3 9 rfl
  have m10 := cob hM3 10 rfl
  have f0 : w3.frozen? ⟨W.heap.size + 1, 0, none⟩ = false := by simp [World.frozen?, hM3]
  have f3 : w3.frozen? ⟨W.heap.size + 1, 3, none⟩ = false := by simp [World.frozen?, hM3]
  have HLS := Lib.hid HL3
  have hs3 := hT3.t.size
  have HT3 := Lib.hid hT3
  clear HL3 hT3
  go_region
  go_wp2_with fail
  obtain ⟨w4, hw4⟩ : ∃ w4, w4 = ((w3.setCell ⟨W.heap.size + 1, 0, none⟩ (.int .i64 2)).setCell ⟨W.heap.size + 1, 3, none⟩ (.int .i64 (b : Int))).drew := ⟨_, rfl⟩
  rw [← hw4]
  have hT := HT3.out
  have hz4 : w4.heap.size = w3.heap.size := by rw [hw4]; show (World.heap _).size = _; simp
  have ho : ∀ k, k ≠ W.heap.size + 1 → w4.heap[k]? = w3.heap[k]? := fun k hk => by
    rw [hw4]; exact (heap_setCell_other _ _ _ _ hk).trans (heap_setCell_other _ _ _ _ hk)
  have hnM : ¬ S3 (W.heap.size + 1) := fun e => by
    rcases hT.sub _ e with h | h
    · exact hnS _ (by omega) h
    · omega
  have hT4 : Turned S W w4 := by
    rw [hw4]
    exact ((((Turned.of_below HB0.out).trans hT.t).setCell (.inr (by simp)) _).setCell (.inr (by simp)) _).drew
  have hM4 : w4.heap[W.heap.size + 1]? = some (.cells #[.int .i64 2, .int .i64 (me : Int), .int .i64 (frm : Int), .int .i64 (b : Int), .int .i64 0, .int .i64 0, .int .i64 0, .int .i64 0, .bool false, .string ByteArray.empty, .slice none 0 0] 133) := by
    rw [hw4]; exact heap_setCell_same _ (W.heap.size + 1) 3 _ _ _ (heap_setCell_same _ (W.heap.size + 1) 0 _ _ _ hM3)
  have hlt4 : Lt S3 w4 := fun k hk => by have := hT.lt k hk; omega
  have hL4 := HLS.out.frame (W' := w4) fun k hk => ho k (fun e => hnM (e ▸ hk))
  have HV := Lib.hid (lvotes_any S3 G D m _ w4 hL4 hlt4)
  have HX := Lib.hid (And.intro hz4 (And.intro hT4 (And.intro hM4 (And.intro hlt4 (And.intro hL4 (And.intro hnM hT))))))
  clear hw4 hz4 ho hnM hT4 hlt4 hL4 hT
  refine (HV.out).mono ?_
  rintro e w5 ⟨L, A, c, hL, rfl, _, h0, hb5⟩
  obtain ⟨rfl, rfl⟩ := h0 (by rw [say_snoc]; exact Hvs.out)
  have hL0 : L.length = 0 := by rw [hL.out, say_snoc, show (say1 (say rs) (.p b)).2 = (say rs).2 from rfl, Hvs.out]; rfl
  rw [hL0]
  obtain ⟨hz4, hT4, _, hlt4, hL4, hnM, hT⟩ := HX.out
  have hM5 := (hb5.block (W.heap.size + 1) (by omega)).trans hM4
  have f10 : w5.frozen? ⟨W.heap.size + 1, 10, none⟩ = false := by simp [World.frozen?, hM5]
  have n0 := cob hM5 0 rfl
  have n1 := cob hM5 1 rfl
  have n2 := cob hM5 2 rfl
  have n3 := cob hM5 3 rfl
  have n4 := cob hM5 4 rfl
  have n5 := cob hM5 5 rfl
  have n6 := cob hM5 6 rfl
  have n7 := cob hM5 7 rfl
  have n8 := cob hM5 8 rfl
  have n9 := cob hM5 9 rfl
  have n10 := cob hM5 10 rfl
  go_wp2_with fail
  refine (delf_nil _ _).mono ?_
  rintro e w6 ⟨rfl, rfl⟩
  go_wp2
  go_ret
  have hs5 := hb5.size
  obtain ⟨w6, hw6⟩ : ∃ w6, w6 = w5.setCell ⟨W.heap.size + 1, 10, none⟩ (.slice none 0 0) := ⟨_, rfl⟩
  rw [← hw6]
  have hz6 : w6.heap.size = w5.heap.size := by rw [hw6]; simp
  have ho6 : ∀ k, k ≠ W.heap.size + 1 → w6.heap[k]? = w5.heap[k]? := fun k hk => by rw [hw6]; exact heap_setCell_other _ _ _ _ hk
  have hT6 : Turned S W w6 := by rw [hw6]; exact (hT4.below hb5 (by omega)).setCell (.inr (by simp)) _
  refine ⟨S3, w5.heap.size, by rw [← hz6]; rfl, ?_, by omega, fun e => by have := hT.lt _ e; omega, ?_, ?_, ?_, ?_⟩
  · rw [← hz6]; exact heap_alloc_new w6 _
  · exact hL4.frame fun k hk => (heap_alloc_old w6 _ (by have := hT.lt k hk; omega)).trans ((ho6 k (fun e => hnM (e ▸ hk))).trans (hb5.block k (by have := hT.lt k hk; omega)))
  · exact hT6.alloc _
  · intro k hk
    rcases hT.sub k hk with h | h
    · exact .inl h
    · exact .inr (by omega)
  · intro k hk
    have := hT.lt k hk
    simp; omega
theorem aprepare_same (S : Nat → Prop) (G D m : Nat) (rs : List Rc) (b : Nat) (hpb : (say rs).1 = b) (hvs : (say rs).2 = []) (me frm : Nat) (W : World) (h : LogAt W S G D m rs) (hS : Lt S W) :
    Calls Tryz.prog 136 #[.pointer (some ⟨G, 0, none⟩), .int .i64 (b : Int), mgv ⟨0, me, frm, 0, 0, vt0⟩] W fun e W' => ∃ S' g, e = .returned (.slice (some ⟨g, 0, none⟩) 1 1) ∧ W'.heap[g]? = some (.cells (mcells ⟨2, me, frm, b, 0, vt0⟩).toArray 133) ∧ W.heap.size ≤ g ∧ ¬ S' g ∧ LogAt W' S' G D m rs ∧ Step S W W' S' := by
  have HL := Lib.hid h
  have HS := Lib.hid hS
  have Hvs := Lib.hid hvs
  obtain ⟨p, hp⟩ : ∃ p, p = (say rs).1 := ⟨_, rfl⟩
  have Hpb := Lib.hid hpb
  rw [← hp] at hpb
  have HP := Lib.hid hp
  have hd := show decide ((b : Int) < (p : Int)) = false by simp; omega
  have hd2 := show decide ((p : Int) < (b : Int)) = false by simp; omega
  obtain ⟨w0, hw0⟩ : ∃ w0, w0 = (W.alloc (.cells #[.int .i64 (b : Int)] 3)).alloc (.cells (mcells ⟨0, me, frm, 0, 0, vt0⟩).toArray 133) := ⟨_, rfl⟩
  have hb0 : Below W.heap.size W w0 := by rw [hw0]; exact ((Below.refl _ _).alloc (Nat.le_refl _) _).alloc (by simp) _
  have hM0 := named_new hw0
  have hV0 := named_old hw0 (heap_alloc_new W (.cells #[.int .i64 (b : Int)] 3))
  rw [World.size_alloc] at hM0
  have hs0 : w0.heap.size = W.heap.size + 2 := by rw [named_size hw0]; simp
  have hL0 := h.frame (W' := w0) fun k hk => hb0.block k (hS k hk)
  have Hpr := Lib.hid (lpromised_any S G D m rs w0 hL0)
  rw [← hp] at Hpr
  have HL0 := Lib.hid hL0
  have Hlt0 := Lib.hid (hS.wide hb0.size)
  unfold mcells vt0 at hw0 hM0
  have c0 := cob hV0 0 rfl
  clear h hS hvs hp hL0
  unfold mgv mcells vt0
  go_enter Tryz.func136, Tryz.ntmps136
  go_wp2_with fail
  simp only [Int.natCast_zero] at hw0 ⊢
  rw [← hw0]
  clear hw0
  have HB0 := Lib.hid hb0
  clear hb0
  refine (Hpr.out).mono ?_
  rintro e w1 ⟨rfl, rfl⟩
  obtain ⟨w3, hw3⟩ : ∃ w3, w3 = w0 := ⟨_, rfl⟩
  obtain ⟨S3, hS3⟩ : ∃ S3, S3 = S := ⟨_, rfl⟩
  have HL3 : LogAt w3 S3 G D m rs := by rw [hw3, hS3]; exact HL0.out
  have hT3 : Step S w0 w3 S3 := by rw [hw3, hS3]; exact Step.refl Hlt0.out
  rw [← hw3]
  clear hw3 hS3
  have hnS : ∀ k, W.heap.size ≤ k → ¬ S k := fun k hk e => by have := HS.out k e; omega
  have hV3 := (hT3.t.block W.heap.size (by omega) (hnS _ (Nat.le_refl _))).trans hV0
  have hM3 := (hT3.t.block (W.heap.size + 1) (by omega) (hnS _ (by omega))).trans hM0
  have k0 := cob hV3 0 rfl
  have m0 := cob hM3 0 rfl
  have m1 := cob hM3 1 rfl
  have m2 := cob hM3 2 rfl
  have m3 := cob hM3 3 rfl
  have m4 := cob hM3 4 rfl
  have m5 := cob hM3 5 rfl
  have m6 := cob hM3 6 rfl
  have m7 := cob hM3 7 rfl
  have m8 := cob hM3 8 rfl
  have m9 := cob hM3 9 rfl
  have m10 := cob hM3 10 rfl
  have f0 : w3.frozen? ⟨W.heap.size + 1, 0, none⟩ = false := by simp [World.frozen?, hM3]
  have f3 : w3.frozen? ⟨W.heap.size + 1, 3, none⟩ = false := by simp [World.frozen?, hM3]
  have HLS := Lib.hid HL3
  have hs3 := hT3.t.size
  have HT3 := Lib.hid hT3
  clear HL3 hT3
  go_wp2
  go_region
  go_wp2_with fail
  obtain ⟨w4, hw4⟩ : ∃ w4, w4 = ((w3.setCell ⟨W.heap.size + 1, 0, none⟩ (.int .i64 2)).setCell ⟨W.heap.size + 1, 3, none⟩ (.int .i64 (b : Int))).drew := ⟨_, rfl⟩
  rw [← hw4]
  have hT := HT3.out
  have hz4 : w4.heap.size = w3.heap.size := by rw [hw4]; show (World.heap _).size = _; simp
  have ho : ∀ k, k ≠ W.heap.size + 1 → w4.heap[k]? = w3.heap[k]? := fun k hk => by
    rw [hw4]; exact (heap_setCell_other _ _ _ _ hk).trans (heap_setCell_other _ _ _ _ hk)
  have hnM : ¬ S3 (W.heap.size + 1) := fun e => by
    rcases hT.sub _ e with h | h
    · exact hnS _ (by omega) h
    · omega
  have hT4 : Turned S W w4 := by
    rw [hw4]
    exact ((((Turned.of_below HB0.out).trans hT.t).setCell (.inr (by simp)) _).setCell (.inr (by simp)) _).drew
  have hM4 : w4.heap[W.heap.size + 1]? = some (.cells #[.int .i64 2, .int .i64 (me : Int), .int .i64 (frm : Int), .int .i64 (b : Int), .int .i64 0, .int .i64 0, .int .i64 0, .int .i64 0, .bool false, .string ByteArray.empty, .slice none 0 0] 133) := by
    rw [hw4]; exact heap_setCell_same _ (W.heap.size + 1) 3 _ _ _ (heap_setCell_same _ (W.heap.size + 1) 0 _ _ _ hM3)
  have hlt4 : Lt S3 w4 := fun k hk => by have := hT.lt k hk; omega
  have hL4 := HLS.out.frame (W' := w4) fun k hk => ho k (fun e => hnM (e ▸ hk))
  have HV := Lib.hid (lvotes_any S3 G D m _ w4 hL4 hlt4)
  have HX := Lib.hid (And.intro hz4 (And.intro hT4 (And.intro hM4 (And.intro hlt4 (And.intro hL4 (And.intro hnM hT))))))
  clear hw4 hz4 ho hnM hT4 hlt4 hL4 hT
  refine (HV.out).mono ?_
  rintro e w5 ⟨L, A, c, hL, rfl, _, h0, hb5⟩
  obtain ⟨rfl, rfl⟩ := h0 Hvs.out
  have hL0 : L.length = 0 := by rw [hL.out, Hvs.out]; rfl
  rw [hL0]
  obtain ⟨hz4, hT4, _, hlt4, hL4, hnM, hT⟩ := HX.out
  have hM5 := (hb5.block (W.heap.size + 1) (by omega)).trans hM4
  have f10 : w5.frozen? ⟨W.heap.size + 1, 10, none⟩ = false := by simp [World.frozen?, hM5]
  have n0 := cob hM5 0 rfl
  have n1 := cob hM5 1 rfl
  have n2 := cob hM5 2 rfl
  have n3 := cob hM5 3 rfl
  have n4 := cob hM5 4 rfl
  have n5 := cob hM5 5 rfl
  have n6 := cob hM5 6 rfl
  have n7 := cob hM5 7 rfl
  have n8 := cob hM5 8 rfl
  have n9 := cob hM5 9 rfl
  have n10 := cob hM5 10 rfl
  go_wp2_with fail
  refine (delf_nil _ _).mono ?_
  rintro e w6 ⟨rfl, rfl⟩
  go_wp2
  go_ret
  have hs5 := hb5.size
  obtain ⟨w6, hw6⟩ : ∃ w6, w6 = w5.setCell ⟨W.heap.size + 1, 10, none⟩ (.slice none 0 0) := ⟨_, rfl⟩
  rw [← hw6]
  have hz6 : w6.heap.size = w5.heap.size := by rw [hw6]; simp
  have ho6 : ∀ k, k ≠ W.heap.size + 1 → w6.heap[k]? = w5.heap[k]? := fun k hk => by rw [hw6]; exact heap_setCell_other _ _ _ _ hk
  have hT6 : Turned S W w6 := by rw [hw6]; exact (hT4.below hb5 (by omega)).setCell (.inr (by simp)) _
  refine ⟨S3, w5.heap.size, by rw [← hz6]; rfl, ?_, by omega, fun e => by have := hT.lt _ e; omega, ?_, ?_, ?_, ?_⟩
  · rw [← hz6]; exact heap_alloc_new w6 _
  · exact hL4.frame fun k hk => (heap_alloc_old w6 _ (by have := hT.lt k hk; omega)).trans ((ho6 k (fun e => hnM (e ▸ hk))).trans (hb5.block k (by have := hT.lt k hk; omega)))
  · exact hT6.alloc _
  · intro k hk
    rcases hT.sub k hk with h | h
    · exact .inl h
    · exact .inr (by omega)
  · intro k hk
    have := hT.lt k hk
    simp; omega
def AnsMsg (W : World) (S : Nat → Prop) (G D m : Nat) (rs : List Rc) (a : Mg) (e : Ending) (W' : World) : Prop :=
  ∃ S' g, e = .returned (.slice (some ⟨g, 0, none⟩) 1 1) ∧ W'.heap[g]? = some (.cells (mcells a).toArray 133) ∧ W.heap.size ≤ g ∧ ¬ S' g ∧ LogAt W' S' G D m rs ∧ Step S W W' S'
theorem AnsMsg.of {W W0 W' : World} {S : Nat → Prop} {G D m : Nat} {rs : List Rc} {a : Mg} {e : Ending} (h : AnsMsg W0 S G D m rs a e W') (hb : Below W.heap.size W W0) : AnsMsg W S G D m rs a e W' := by
  obtain ⟨S', g, h1, h2, h3, h4, h5, h6⟩ := h
  have := hb.size
  exact ⟨S', g, h1, h2, by omega, h4, h5, (Turned.of_below hb).trans h6.t, fun k hk => (h6.sub k hk).imp id (fun h => by omega), h6.lt⟩
theorem ahear_prepare (S : Nat → Prop) (G D m : Nat) (rs rs' : List Rc) (a : Mg) (ha : MgOk a) (hk : a.kind = 1) (W : World) (h : LogAt W S G D m rs) (hS : Lt S W)
    (hp : ∀ w, LogAt w S G D m rs → Lt S w → Calls Tryz.prog 136 #[.pointer (some ⟨G, 0, none⟩), .int .i64 (a.ballot : Int), mgv ⟨0, a.to, a.frm, 0, 0, vt0⟩] w fun e w' => AnsMsg w S G D m rs' ⟨2, a.to, a.frm, a.ballot, 0, vt0⟩ e w') :
    Calls Tryz.prog 101 #[.pointer (some ⟨G, 0, none⟩), .int .i64 (a.to : Int), mgv a] W fun e W' => AnsMsg W S G D m rs' ⟨2, a.to, a.frm, a.ballot, 0, vt0⟩ e W' := by
  have Hr := Lib.hid (fun w => mright_yes a ha w)
  obtain ⟨kind, frm, to, ballot, slot, ⟨vs, vb, vo, vf, vy⟩⟩ := a
  simp only at hk
  subst hk
  have H := Lib.hid h
  have HS := Lib.hid hS
  have HP := Lib.hid hp
  clear h hS hp ha
  unfold mgv mcells vt0 at HP
  unfold mgv mcells at Hr ⊢
  simp only at HP Hr ⊢
  rw [show ByteArray.empty = { data := #[] } from rfl] at HP
  obtain ⟨w0, hw0⟩ : ∃ w0, w0 = W.alloc (.cells #[.int .i64 1, .int .i64 (frm : Int), .int .i64 (to : Int), .int .i64 (ballot : Int), .int .i64 (slot : Int), .int .i64 (vs : Int), .int .i64 (vb : Int), .int .i64 (vo : Int), .bool vf, .string vy, .slice none 0 0] 133) := ⟨_, rfl⟩
  have hM0 := named_new hw0
  have hb0 := named_below hw0
  have hs0 := named_size hw0
  go_enter Tryz.func101, Tryz.ntmps101
  go_wp2_with fail
  rw [← hw0]
  clear hw0
  refine (Hr.out _).mono ?_
  rintro e w1 ⟨rfl, hb1⟩
  have hM1 := (hb1.block W.heap.size (by omega)).trans hM0
  have HB1 := Lib.hid (below_next hb0 hb1)
  have hs1 := hb1.size
  have m0 := cob hM1 0 rfl
  have m1 := cob hM1 1 rfl
  have m2 := cob hM1 2 rfl
  have m3 := cob hM1 3 rfl
  have m4 := cob hM1 4 rfl
  have m5 := cob hM1 5 rfl
  have m6 := cob hM1 6 rfl
  have m7 := cob hM1 7 rfl
  have m8 := cob hM1 8 rfl
  have m9 := cob hM1 9 rfl
  have m10 := cob hM1 10 rfl
  have hlt : W.heap.size < w1.heap.size := by omega
  have hne : W.heap.size ≠ w1.heap.size := by omega
  clear hb0 hb1
  have HL2 := Lib.hid (fun (w : World) (hw : Below W.heap.size W w) => And.intro (H.out.frame (W' := w) fun k hk => hw.block k (HS.out k hk)) (HS.out.wide hw.size))
  have HB2 := Lib.hid (HB1.out.alloc HB1.out.size (.cells #[.int .i64 0, .int .i64 (to : Int), .int .i64 (frm : Int), .int .i64 0, .int .i64 0, .int .i64 0, .int .i64 0, .int .i64 0, .bool false, .string { data := #[] }, .slice none 0 0] 133))
  go_wp2_with fail
  refine (HP.out _ (HL2.out _ HB2.out).1 (HL2.out _ HB2.out).2).mono ?_
  rintro e w3 ⟨S3, g, rfl, hg, hge, hgS, hL3, hT3⟩
  go_wp2
  go_ret
  exact AnsMsg.of ⟨S3, g, rfl, hg, hge, hgS, hL3, hT3⟩ HB2.out
theorem ahear_vote (S : Nat → Prop) (G D m : Nat) (rs rs' : List Rc) (a : Mg) (ha : MgOk a) (hk : a.kind = 3) (W : World) (h : LogAt W S G D m rs) (hS : Lt S W)
    (hp : ∀ w, LogAt w S G D m rs → Lt S w → Calls Tryz.prog 137 #[.pointer (some ⟨G, 0, none⟩), vtv a.vote, mgv ⟨0, a.to, a.frm, 0, 0, vt0⟩] w fun e w' => AnsMsg w S G D m rs' ⟨4, a.to, a.frm, a.vote.ballot, a.vote.slot, vt0⟩ e w') :
    Calls Tryz.prog 101 #[.pointer (some ⟨G, 0, none⟩), .int .i64 (a.to : Int), mgv a] W fun e W' => AnsMsg W S G D m rs' ⟨4, a.to, a.frm, a.vote.ballot, a.vote.slot, vt0⟩ e W' := by
  have Hr := Lib.hid (fun w => mright_yes a ha w)
  obtain ⟨kind, frm, to, ballot, slot, ⟨vs, vb, vo, vf, vy⟩⟩ := a
  simp only at hk
  subst hk
  have H := Lib.hid h
  have HS := Lib.hid hS
  have HP := Lib.hid hp
  clear h hS hp ha
  unfold vtv mgv mcells vt0 at HP
  unfold mgv mcells at Hr ⊢
  simp only at HP Hr ⊢
  rw [show ByteArray.empty = { data := #[] } from rfl] at HP
  obtain ⟨w0, hw0⟩ : ∃ w0, w0 = W.alloc (.cells #[.int .i64 3, .int .i64 (frm : Int), .int .i64 (to : Int), .int .i64 (ballot : Int), .int .i64 (slot : Int), .int .i64 (vs : Int), .int .i64 (vb : Int), .int .i64 (vo : Int), .bool vf, .string vy, .slice none 0 0] 133) := ⟨_, rfl⟩
  have hM0 := named_new hw0
  have hb0 := named_below hw0
  have hs0 := named_size hw0
  go_enter Tryz.func101, Tryz.ntmps101
  go_wp2_with fail
  rw [← hw0]
  clear hw0
  refine (Hr.out _).mono ?_
  rintro e w1 ⟨rfl, hb1⟩
  have hM1 := (hb1.block W.heap.size (by omega)).trans hM0
  have HB1 := Lib.hid (below_next hb0 hb1)
  have hs1 := hb1.size
  have m0 := cob hM1 0 rfl
  have m1 := cob hM1 1 rfl
  have m2 := cob hM1 2 rfl
  have m3 := cob hM1 3 rfl
  have m4 := cob hM1 4 rfl
  have m5 := cob hM1 5 rfl
  have m6 := cob hM1 6 rfl
  have m7 := cob hM1 7 rfl
  have m8 := cob hM1 8 rfl
  have m9 := cob hM1 9 rfl
  have m10 := cob hM1 10 rfl
  have hlt : W.heap.size < w1.heap.size := by omega
  have hne : W.heap.size ≠ w1.heap.size := by omega
  clear hb0 hb1
  have HL2 := Lib.hid (fun (w : World) (hw : Below W.heap.size W w) => And.intro (H.out.frame (W' := w) fun k hk => hw.block k (HS.out k hk)) (HS.out.wide hw.size))
  have HB2 := Lib.hid (HB1.out.alloc HB1.out.size (.cells #[.int .i64 0, .int .i64 (to : Int), .int .i64 (frm : Int), .int .i64 0, .int .i64 0, .int .i64 0, .int .i64 0, .int .i64 0, .bool false, .string { data := #[] }, .slice none 0 0] 133))
  go_wp2_with fail
  refine (HP.out _ (HL2.out _ HB2.out).1 (HL2.out _ HB2.out).2).mono ?_
  rintro e w3 ⟨S3, g, rfl, hg, hge, hgS, hL3, hT3⟩
  go_wp2
  go_ret
  exact AnsMsg.of ⟨S3, g, rfl, hg, hge, hgS, hL3, hT3⟩ HB2.out
end Go.Proofs.YtoigogjmhkpdlaaGreat
