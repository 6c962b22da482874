/- A part of the proof of WholeFew: the texts NetI, Kinds. -/
import Derived.Test.YtoigogjmhkpdlaaGreatJ13
import Derived.Test.YtoigogjmhkpdlaaGreatJ17
import Derived.Deep.WholeRow
set_option maxHeartbeats 3200000
set_option maxRecDepth 100000
namespace Go.Proofs.YtoigogjmhkpdlaaGreat
open Go.RowKit
theorem results_c {P : Program} {fn : Func} {p : Tmp} {ty : TypeId} (h : fn.results = #[.cell p ty]) (tmps : Array Value) (w : World) (g : Nat) (tt : TypeId) (cs : Array Value) (fr : Nat × Nat) (d : TypeDesc)
    (hp : tmps.getD p undef = .pointer (some ⟨g, 0, none⟩)) (hg : w.heap[g]? = some (.cells cs tt fr))
    (hu : P.underlying ty = some d) (hd : (match d with | .struct _ | .array _ _ => true | _ => false) = true) (hi : (P.info? ty).map (·.size) = some cs.size) :
    (results fn tmps).run P w = .ok (.agg cs) w := by
  have hp' : tmps[p]?.getD undef = .pointer (some ⟨g, 0, none⟩) := by simpa using hp
  simp [results, h, hp', asAddr, run_loadVar_row w g tt ty cs fr d hg hu hd hi]
theorem results_ctt {P : Program} {fn : Func} {p t u : Tmp} {ty : TypeId} (h : fn.results = #[.cell p ty, .tmp t, .tmp u]) (tmps : Array Value) (w : World) (g : Nat) (tt : TypeId) (cs : Array Value) (fr : Nat × Nat) (d : TypeDesc)
    (hp : tmps.getD p undef = .pointer (some ⟨g, 0, none⟩)) (hg : w.heap[g]? = some (.cells cs tt fr))
    (hu : P.underlying ty = some d) (hd : (match d with | .struct _ | .array _ _ => true | _ => false) = true) (hi : (P.info? ty).map (·.size) = some cs.size) :
    (results fn tmps).run P w = .ok (.tuple #[.agg cs, tmps.getD t undef, tmps.getD u undef]) w := by
  have hp' : tmps[p]?.getD undef = .pointer (some ⟨g, 0, none⟩) := by simpa using hp
  simp [results, h, hp', asAddr, run_loadVar_row w g tt ty cs fr d hg hu hd hi]
theorem drew_heap (w : World) (k : Nat) : w.drew.heap[k]? = w.heap[k]? := rfl
theorem setCells_full {e : TypeId} (g : Nat) (w : World) (cur : Array Value) {vs : List Value} (h : w.heap[g]? = some (.cells cur e (0, 0))) (hs : cur.size = vs.length) : (w.setCells g 0 vs).heap[g]? = some (.cells vs.toArray e (0, 0)) := by
  obtain ⟨cur', h1, h2⟩ := setCells_row g e vs 0 w cur h
  rw [h1]
  have : cur' = vs.toArray := by
    apply Array.ext_getElem?
    intro k
    by_cases hk : k < vs.length
    · have hin := World.cell?_setCells_in g vs 0 w (fun i hi => by
        rw [Nat.zero_add, cell_of_row w g i cur e (0, 0) h]
        simp; omega) k hk
      rw [Nat.zero_add, cell_of_row _ g k cur' e (0, 0) h1] at hin
      rw [hin]; simp [hk]
    · rw [Array.getElem?_eq_none (by omega), Array.getElem?_eq_none (by simp; omega)]
  rw [this]
theorem pnew_any (W : World) : Calls Tryz.prog 58 #[] W fun e W' => e = .returned (.pointer (some ⟨W.heap.size, 0, none⟩)) ∧ PlAt W' (fun k => k = W.heap.size) W.heap.size 0 [] ∧ Below W.heap.size W W' ∧ W'.heap.size = W.heap.size + 1 := by
  go_enter Tryz.func58, Tryz.ntmps58
  go_wp2
  go_ret
  exact ⟨rfl, ⟨none, 0, heap_alloc_new _ _, OwnT.nil _ _ _ _ _, rfl, fun k hk => (by cases hk), fun e => (by cases e)⟩, (Below.refl _ _).alloc (Nat.le_refl _) _, by simp⟩
theorem plen_any (S : Nat → Prop) (G nx : Nat) (l : List Pk) (W : World) (h : PlAt W S G nx l) :
    Calls Tryz.prog 44 #[.pointer (some ⟨G, 0, none⟩)] W fun e W' => e = .returned (.int .i64 (l.length : Nat)) ∧ W = W' := by
  obtain ⟨A, c, hG, _⟩ := h
  have c0 : W.cell? ⟨G, 0, none⟩ = some (.slice A l.length c) := cob hG 0 rfl
  clear hG
  go_enter Tryz.func44, Tryz.ntmps44
  go_wp2
  go_ret
  exact ⟨rfl, rfl⟩
theorem PlAt.next {W : World} {S : Nat → Prop} {G nx : Nat} {l : List Pk} (h : PlAt W S G nx l) : W.cell? ⟨G, 1, none⟩ = some (.int .i64 (nx : Int)) := by
  obtain ⟨A, c, hG, _⟩ := h
  exact cob hG 1 rfl
theorem PlAt.free {W : World} {S : Nat → Prop} {G nx : Nat} {l : List Pk} (h : PlAt W S G nx l) (j : Nat) : W.frozen? ⟨G, j, none⟩ = false := by
  obtain ⟨A, c, hG, _⟩ := h
  simp [World.frozen?, hG]
theorem PlAt.bump {W : World} {S : Nat → Prop} {G nx : Nat} {l : List Pk} (h : PlAt W S G nx l) (n : Nat) : PlAt (W.setCell ⟨G, 1, none⟩ (.int .i64 (n : Int))) S G n l := by
  obtain ⟨A, c, hG, hO, sG, sA, hAG⟩ := h
  exact ⟨A, c, heap_setCell_same W G 1 _ _ _ hG, hO.of_block fun k hk => heap_setCell_other _ _ _ _ (fun e => hAG (by rw [hk, e])), sG, sA, hAG⟩
theorem Tryz.sizeM : (Tryz.prog.info? 133).map (·.size) = some 11 := by kernel_rfl
theorem mclone_any (m : Mg) (W : World) : Calls Tryz.prog 134 #[mgv m] W fun e W' => e = .returned (mgv m) ∧ Below W.heap.size W W' := by
  have HC := Lib.hid clonev_nil
  obtain ⟨a0, a1, a2, a3, a4, ⟨a5, a6, a7, a8, a9⟩⟩ := m
  unfold mgv mcells
  simp only []
  go_enter Tryz.func134, Tryz.ntmps134
  go_wp2_with (first | (go_at_call 177; refine (HC.out _).mono ?_; rintro e w1 ⟨rfl, rfl⟩))
  refine bodyPost_ret (results_c rfl _ _ (W.heap.size + 1) _ _ (0, 0) _ rfl (two_new W _ _ rfl).2.1 Tryz.underlying133 rfl Tryz.sizeM) rfl ⟨rfl, ?_⟩
  exact ((Below.refl _ _).alloc (Nat.le_refl _) _).alloc (by simp) _
theorem psend_any (S : Nat → Prop) (G nx : Nat) (l : List Pk) (m : Mg) (due : Nat) (hlen : l.length < 500) (hnx : nx < 1000000) (hmax : ∀ q ∈ l, lessB ⟨m, due, nx⟩ q = false) (W : World) (h : PlAt W S G nx l) (hS : Lt S W) :
    Calls Tryz.prog 98 #[.pointer (some ⟨G, 0, none⟩), mgv m, .int .i64 (due : Int)] W fun e W' => e = .returned (.bool true) ∧ ∃ S', PlAt W' S' G (nx + 1) (l ++ [⟨m, due, nx⟩]) ∧ Step S W W' S' := by
  have HCl := Lib.hid (mclone_any m)
  have HPu := Lib.hid (fun w h hS => hpush_any S G nx l ⟨m, due, nx⟩ (by omega) hmax w h hS)
  have HP := Lib.hid h
  obtain ⟨A, c, hG, hO, sG, sA, hAG⟩ := h
  have hGl := (Array.getElem?_eq_some_iff.1 hG).1
  obtain ⟨Y, hY⟩ : ∃ Y, W.heap[G]? = some Y := ⟨_, hG⟩
  have g500 : decide ((500 : Int) ≤ ((l.length : Nat) : Int)) = false := by simp; omega
  have c0 : ∀ w : World, w.heap[G]? = some Y → w.cell? ⟨G, 0, none⟩ = some (.slice A l.length c) := fun w hw => cob ((hw.trans hY.symm).trans hG) 0 rfl
  have c1 : W.cell? ⟨G, 1, none⟩ = some (.int .i64 (nx : Int)) := cob hG 1 rfl
  clear hmax hO hG
  obtain ⟨a0, a1, a2, a3, a4, ⟨a5, a6, a7, a8, a9⟩⟩ := m
  unfold mgv mcells at HCl ⊢
  unfold pkvl pcells mcells hpv at HPu
  simp only [List.cons_append, List.nil_append] at HPu HCl ⊢
  go_enter Tryz.func98, Tryz.ntmps98
  have hYa : ∀ o, (W.alloc o).heap[G]? = some Y := fun o => (heap_alloc_old _ _ hGl).trans hY
  go_wp2
  generalize hw1 : World.alloc W _ = w1
  have hB := named_new hw1.symm
  have hb1 := named_below hw1.symm
  have hs1 := named_size hw1.symm
  clear hw1 hYa
  obtain ⟨Z, hZ⟩ : ∃ Z, w1.heap[W.heap.size]? = some Z := ⟨_, hB⟩
  have HZ := Lib.hid (show ∀ (o : Nat) (v : Value), w1.cell? ⟨W.heap.size, o, none⟩ = some v → ∀ w : World, w.heap[W.heap.size]? = some Z → w.cell? ⟨W.heap.size, o, none⟩ = some v from fun o v hc w hw => (World.cell?_of_block (hw.trans hZ.symm)).trans hc)
  have e0 := HZ.out 0 (.int .i64 (a0 : Int)) (cob hB 0 rfl)
  have e1 := HZ.out 1 (.int .i64 (a1 : Int)) (cob hB 1 rfl)
  have e2 := HZ.out 2 (.int .i64 (a2 : Int)) (cob hB 2 rfl)
  have e3 := HZ.out 3 (.int .i64 (a3 : Int)) (cob hB 3 rfl)
  have e4 := HZ.out 4 (.int .i64 (a4 : Int)) (cob hB 4 rfl)
  have e5 := HZ.out 5 (.int .i64 (a5 : Int)) (cob hB 5 rfl)
  have e6 := HZ.out 6 (.int .i64 (a6 : Int)) (cob hB 6 rfl)
  have e7 := HZ.out 7 (.int .i64 (a7 : Int)) (cob hB 7 rfl)
  have e8 := HZ.out 8 (.bool a8) (cob hB 8 rfl)
  have e9 := HZ.out 9 (.string a9) (cob hB 9 rfl)
  have e10 := HZ.out 10 (.slice none 0 0) (cob hB 10 rfl)
  clear hB c0
  have n1 : w1.cell? ⟨G, 1, none⟩ = some (.int .i64 (nx : Int)) := (hb1.cell (p := ⟨G, 1, none⟩) hGl).trans c1
  have HS0 := Lib.hid hS
  go_region_held3 (fun w' => w'.cell? ⟨G, 1, none⟩ = some (.int .i64 (nx : Int)) ∧ w'.heap[W.heap.size]? = some Z)
    (first | exact HS3 | exact HS2 | exact ⟨n1, hZ⟩)
    (first
      | (go_at_call 133; refine (HPu.out w2 HP2.out HL2.out).mono ?_; rintro e w3 ⟨rfl, S3, hP3, hS3⟩; have HS3 : _ ∧ _ := And.intro (hP3.next) ((hS3.t.block W.heap.size (by omega) (fun h => by have := HS0.out _ h; omega)).trans HS2.2))
      | (go_at_call 134; refine (HCl.out _).mono ?_; rintro e w2 ⟨rfl, hb2'⟩; have hb2 : Below w1.heap.size w1 w2 := below_undrew hb2'; have hz2 := hb2.size; have HS2 : _ ∧ _ := And.intro ((hb2.cell (p := ⟨G, 1, none⟩) (by show G < _; omega)).trans n1) ((hb2.block W.heap.size (by omega)).trans hZ); have hB2 : Below W.heap.size W w2 := hb1.trans (hb2.mono (by omega)); have HP2 := Lib.hid (HP.out.frame (fun k hk => hB2.block k (HS0.out k hk))); have HL2 := Lib.hid (show Lt S w2 from fun k hk => by have := HS0.out k hk; omega)))
  clear e0 e1 e2 e3 e4 e5 e6 e7 e8 e9 e10 n1 c1 HS2 HS3
  have c9 := hP3.next
  have f9 := hP3.free 1
  have hcast : ((nx + 1 : Nat) : Int) = (nx : Int) + 1 := by omega
  have Hc := Lib.hid hcast
  clear hcast
  go_wp2
  go_ret
  have hP4 := hP3.bump (nx + 1)
  rw [Hc.out] at hP4
  have hSt : Step S W w3 S3 := (Step.of_turned (Turned.of_below hB2) hS).trans hS3
  exact ⟨rfl, S3, hP4, hSt.t.setCell (.inl sG) _, hSt.sub, fun k hk => by have := hSt.lt k hk; simpa using this⟩
theorem pnext_any (S : Nat → Prop) (G nx : Nat) (l : List Pk) (h0 : 0 < l.length) (hlen : l.length ≤ 600) (W : World) (h : PlAt W S G nx l) (hS : Lt S W) :
    Calls Tryz.prog 66 #[.pointer (some ⟨G, 0, none⟩)] W fun e W' => ∃ p l2, Hid (popG lessB l = some (p, l2)) ∧ e = .returned (.tuple #[mgv p.m, .int .i64 (p.due : Int), .bool true]) ∧ PlAt W' S G nx l2 ∧ Turned S W W' := by
  have hta := pk_assert
  have HPo := Lib.hid (fun w h => hpop_any S G nx l h0 hlen w h)
  have HP := Lib.hid h
  obtain ⟨A, c, hG, hO, sG, sA, hAG⟩ := h
  have hGl := (Array.getElem?_eq_some_iff.1 hG).1
  have g0 : (((l.length : Nat) : Int) == 0) = false := by rw [beq_eq_false_iff_ne]; omega
  have c0 : ∀ o, (W.alloc o).cell? ⟨G, 0, none⟩ = some (.slice A l.length c) := fun o => cob ((heap_alloc_old _ _ hGl).trans hG) 0 rfl
  have HS0 := Lib.hid hS
  clear hO hG hS
  unfold hpv at HPo
  go_enter Tryz.func66, Tryz.ntmps66
  go_wp2_with fail
  generalize hw1 : World.alloc W _ = w1
  have hB := named_new hw1.symm
  have hb1 := named_below hw1.symm
  have hs1 := named_size hw1.symm
  clear hw1 c0
  refine (HPo.out w1 (HP.out.frame fun k hk => hb1.block k (HS0.out k hk))).mono ?_
  rintro e w2 ⟨p, l2, Hpo, rfl, hP2, hT2⟩
  have hB2 := (hT2.block W.heap.size (by omega) (fun h => by have := HS0.out _ h; omega)).trans hB
  have hz2 : W.heap.size < w2.heap.size := by have := hT2.size; omega
  obtain ⟨⟨a0, a1, a2, a3, a4, ⟨a5, a6, a7, a8, a9⟩⟩, ad, an⟩ := p
  unfold pkvl pcells mcells
  simp only [List.cons_append, List.nil_append]
  go_wp2
  generalize hw3 : World.alloc w2 _ = w3
  have hD := named_new hw3.symm
  have hb3 := named_below hw3.symm
  have hs3 := named_size hw3.symm
  clear hw3 hta g0
  have hB3 := (hb3.block W.heap.size hz2).trans hB2
  have n1 : ¬ W.heap.size = w2.heap.size := by omega
  have n2 : ¬ w2.heap.size = W.heap.size := by omega
  have e0 : w3.cell? ⟨w2.heap.size, 0, none⟩ = some (.int .i64 (a0 : Int)) := cob hD 0 rfl
  have e1 : w3.cell? ⟨w2.heap.size, 1, none⟩ = some (.int .i64 (a1 : Int)) := cob hD 1 rfl
  have e2 : w3.cell? ⟨w2.heap.size, 2, none⟩ = some (.int .i64 (a2 : Int)) := cob hD 2 rfl
  have e3 : w3.cell? ⟨w2.heap.size, 3, none⟩ = some (.int .i64 (a3 : Int)) := cob hD 3 rfl
  have e4 : w3.cell? ⟨w2.heap.size, 4, none⟩ = some (.int .i64 (a4 : Int)) := cob hD 4 rfl
  have e5 : w3.cell? ⟨w2.heap.size, 5, none⟩ = some (.int .i64 (a5 : Int)) := cob hD 5 rfl
  have e6 : w3.cell? ⟨w2.heap.size, 6, none⟩ = some (.int .i64 (a6 : Int)) := cob hD 6 rfl
  have e7 : w3.cell? ⟨w2.heap.size, 7, none⟩ = some (.int .i64 (a7 : Int)) := cob hD 7 rfl
  have e8 : w3.cell? ⟨w2.heap.size, 8, none⟩ = some (.bool a8) := cob hD 8 rfl
  have e9 : w3.cell? ⟨w2.heap.size, 9, none⟩ = some (.string a9) := cob hD 9 rfl
  have e10 : w3.cell? ⟨w2.heap.size, 10, none⟩ = some (.slice none 0 0) := cob hD 10 rfl
  have e11 : w3.cell? ⟨w2.heap.size, 11, none⟩ = some (.int .i64 (ad : Int)) := cob hD 11 rfl
  have e12 : w3.cell? ⟨w2.heap.size, 12, none⟩ = some (.int .i64 (an : Int)) := cob hD 12 rfl
  have d0 : w3.cell? ⟨W.heap.size, 0, none⟩ = some (.int .i64 0) := cob hB3 0 rfl
  have d1 : w3.cell? ⟨W.heap.size, 1, none⟩ = some (.int .i64 0) := cob hB3 1 rfl
  have d2 : w3.cell? ⟨W.heap.size, 2, none⟩ = some (.int .i64 0) := cob hB3 2 rfl
  have d3 : w3.cell? ⟨W.heap.size, 3, none⟩ = some (.int .i64 0) := cob hB3 3 rfl
  have d4 : w3.cell? ⟨W.heap.size, 4, none⟩ = some (.int .i64 0) := cob hB3 4 rfl
  have d5 : w3.cell? ⟨W.heap.size, 5, none⟩ = some (.int .i64 0) := cob hB3 5 rfl
  have d6 : w3.cell? ⟨W.heap.size, 6, none⟩ = some (.int .i64 0) := cob hB3 6 rfl
  have d7 : w3.cell? ⟨W.heap.size, 7, none⟩ = some (.int .i64 0) := cob hB3 7 rfl
  have d8 : w3.cell? ⟨W.heap.size, 8, none⟩ = some (.bool false) := cob hB3 8 rfl
  have d9 : w3.cell? ⟨W.heap.size, 9, none⟩ = some (.string ByteArray.empty) := cob hB3 9 rfl
  have d10 : w3.cell? ⟨W.heap.size, 10, none⟩ = some (.slice none 0 0) := cob hB3 10 rfl
  have hfr : ∀ j, w3.frozen? ⟨W.heap.size, j, none⟩ = false := fun j => by simp [World.frozen?, hB3]
  have HB3 := Lib.hid hB3
  clear hB3 hD hB2 hB
  go_region
  clear e0 e1 e2 e3 e4 e5 e6 e7 e8 e9 e10 e11 e12 d0 d1 d2 d3 d4 d5 d6 d7 d8 d9 d10 hfr
  go_wp2
  have hfin := setCells_full (e := 133) W.heap.size w3 _ (vs := [.int .i64 (a0 : Int), .int .i64 (a1 : Int), .int .i64 (a2 : Int), .int .i64 (a3 : Int), .int .i64 (a4 : Int), .int .i64 (a5 : Int), .int .i64 (a6 : Int), .int .i64 (a7 : Int), .bool a8, .string a9, .slice none 0 0]) HB3.out rfl
  have hgr := grown_drew (setCells_grown W.heap.size ([.int .i64 (a0 : Int), .int .i64 (a1 : Int), .int .i64 (a2 : Int), .int .i64 (a3 : Int), .int .i64 (a4 : Int), .int .i64 (a5 : Int), .int .i64 (a6 : Int), .int .i64 (a7 : Int), .bool a8, .string a9, .slice none 0 0]) 0 w3)
  generalize hw4 : World.drew _ = w4
  have hw5 : w4 = (w3.setCells W.heap.size 0 ([.int .i64 (a0 : Int), .int .i64 (a1 : Int), .int .i64 (a2 : Int), .int .i64 (a3 : Int), .int .i64 (a4 : Int), .int .i64 (a5 : Int), .int .i64 (a6 : Int), .int .i64 (a7 : Int), .bool a8, .string a9, .slice none 0 0])).drew := by
    rw [← hw4]
    simp only [World.setCells, Nat.zero_add, Nat.reduceAdd]
  clear hw4
  have hfin4 : w4.heap[W.heap.size]? = some (.cells ([.int .i64 (a0 : Int), .int .i64 (a1 : Int), .int .i64 (a2 : Int), .int .i64 (a3 : Int), .int .i64 (a4 : Int), .int .i64 (a5 : Int), .int .i64 (a6 : Int), .int .i64 (a7 : Int), .bool a8, .string a9, .slice none 0 0] : List Value).toArray 133) := by rw [hw5, drew_heap]; exact hfin
  rw [← hw5] at hgr
  clear hw5 hfin
  refine bodyPost_ret (results_ctt rfl _ _ W.heap.size _ _ (0, 0) _ rfl hfin4 Tryz.underlying133 rfl Tryz.sizeM) rfl ⟨_, l2, Hpo, rfl, ?_, ?_⟩
  · refine hP2.frame fun k hk => ?_
    have hk1 : k < W.heap.size := HS0.out k hk
    exact (hgr.block k (by omega) (fun e => by injection e with e; omega)).trans (hb3.block k (by omega))
  · have hT3 : Turned S W w3 := ((Turned.of_below hb1).trans hT2).below hb3 (by omega)
    exact hT3.grown hgr (fun k hk => .inr (by injection hk with hk; omega))
theorem size_of_run {P : Program} {t : TypeId} {n : Nat} {w : World} (h : (sizeOf t).run P w = .ok n w) : (P.info? t).map (·.size) = some n := by
  cases hq : P.info? t with
  | none => simp [sizeOf, typeInfo, hq] at h
  | some i => simp [sizeOf, typeInfo, hq] at h; simp [h]
theorem Tryz.sizeK (W : World) : (Tryz.prog.info? 168).map (·.size) = some 24 := size_of_run (w := W) (by simp)
def kindsV : Array Value := #[.bool false, .bool false, .bool false, .bool false, .bool true, .bool false, .bool true, .bool false, .bool true, .bool false, .bool false, .bool false, .bool true, .bool false, .bool true, .bool true, .bool true, .bool false, .bool false, .bool false, .bool false, .bool true, .bool false, .bool false]
theorem kbuild (w : World) : (Instr.build 168 #[(1, .agg #[.bool true, .bool false, .bool true, .bool false]), (2, .agg #[.bool true, .bool false, .bool false, .bool false]), (3, .agg #[.bool true, .bool false, .bool true, .bool true]), (4, .agg #[.bool true, .bool false, .bool false, .bool false]), (5, .agg #[.bool false, .bool true, .bool false, .bool false])]).run Tryz.prog w = .ok (.agg kindsV) w := by
  simp [Instr.build, Instr.fill, kindsV]
  rfl
theorem wp_build_run {P : Program} {o : Oper} {a : Act} {w : World} {K : Act → World → Prop} {Q : Exit → Act → World → Prop} (t : TypeId) (parts : Array (Nat × Operand)) (ho : o.op = .build t parts) (v : Value)
    (h : (Instr.build t (parts.map fun (i, x) => (i, a.eval x))).run P w = .ok v w) (hK : K (a.put o.dst v) w) : o.wp P a w K Q := by
  unfold Oper.wp execOp
  simp only [ho, Sem.run_bind, h, Result.andThen_ok]
  exact hK
theorem kinds_any (W : World) : Calls Tryz.prog 88 #[] W fun e W' => e = .returned (.agg kindsV) ∧ Below W.heap.size W W' := by
  go_enter Tryz.func88, Tryz.ntmps88
  iterate 27 go_step
  refine wp_build_run 168 _ (by rfl) (.agg kindsV) ?_ ?_
  · simp only [List.map_toArray, List.map_cons, List.map_nil]
    exact kbuild _
  go_step
  go_step
  refine wp_store_row 168 _ _ (by rfl) W.heap.size kindsV (by rfl) (by rfl) _ _ (heap_alloc_new _ _) (Tryz.sizeK W) (by rfl) (by simp [kindsV, Value.oneCell']) ?_
  rw [World.setRow_alloc_new]
  go_step
  go_step
  go_wp2
  refine bodyPost_ret (results_c rfl _ _ W.heap.size _ _ (0, 0) _ rfl (heap_alloc_new _ _) Tryz.underlying168 rfl (Tryz.sizeK W)) rfl ⟨rfl, ?_⟩
  exact (Below.refl _ _).alloc (Nat.le_refl _) _
end Go.Proofs.YtoigogjmhkpdlaaGreat
