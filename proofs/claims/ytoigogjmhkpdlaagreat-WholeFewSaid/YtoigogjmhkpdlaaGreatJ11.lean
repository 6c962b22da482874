/- A part of the proof of WholeFew: the texts Lead, Begin, Promised, CellA. -/
import Derived.Test.YtoigogjmhkpdlaaGreatJ10
import Derived.Deep.RegionHeld3
set_option maxHeartbeats 3200000
set_option maxRecDepth 100000
namespace Go.Proofs.YtoigogjmhkpdlaaGreat
open Go.RowKit
theorem step_append_st {P : Program} {α : Type} (mk : α → List Value) (w : World) (h1 : ∀ x, ∀ u ∈ mk x, u.oneCell' = true) {ops : Array Oper} {o : Oper} {a : Act} {K : Act → World → Prop} {Q : Exit → Act → World → Prop} {E : Prop} (hgd : o.guard = none) (s x : Operand) (t : TypeId)
    (ho : o.op = .call { callee := .builtin .append, args := #[s, x], argTypes := #[t, t] })
    (base : Nat) (e : TypeId) (i : TypeInfo) (z : Value) (sz bsz : Nat) (hmk : ∀ x, (mk x).length = sz) (hs0 : 0 < sz) (ht : P.underlying t = some (.slice e)) (hi : P.info? e = some i) (hz : i.zero = some z)
    (hsize : i.size = sz) (hby : i.bytes = bsz) (hzs : z.cells.size = sz) (S : Option Addr) (d : Nat) (l : List α) (hs : a.eval s = .slice S l.length d) (hown : OwnT mk e sz w base S d l)
    (g : Nat) (c : Nat) (y : α) (fr : Nat × Nat) (te : TypeId) (hx : a.eval x = .slice (some ⟨g, 0, none⟩) 1 c) (hr : w.heap[g]? = some (.cells (mk y).toArray te fr)) (h63 : l.length + 1 ≤ maxLen) (hb : (l.length + 1) * bsz ≤ 140737488355328) (hbase : base ≤ w.heap.size)
    (h : ∀ L A' c' w', Hid (L = l ++ [y]) → OwnT mk e sz w' base A' c' L → Below base w w' → w.grownBy w' (blk S) → (blk A' = blk S ∨ blk A' = some w.heap.size) → K (a.put o.dst (.slice A' L.length c')) w') :
    if Region.wanted o (yielded ops a.tmps) = true then Oper.wp P o a w K Q else E := by
  have hw : Region.wanted o (yielded ops a.tmps) = true := by simp [Region.wanted, hgd]
  rw [if_pos hw]
  obtain ⟨A', c', w', hrun, h2, h3, h4, h5⟩ := run_append_st (P := P) mk w h1 base t o.type e i z sz bsz hmk hs0 ht hi hz hsize hby hzs S d l hown g c y fr te hr h63 hb hbase
  unfold Oper.wp execOp
  simp only [ho, resolve, invoke, builtin, Sem.run_bind, Sem.run_pure, Result.andThen_ok, List.map_toArray, List.map_cons, List.map_nil, hs, hx, hrun]
  exact h _ A' c' w' (Lib.hid rfl) h2 h3 h4 h5
theorem OwnT.drew {α : Type} {mk : α → List Value} {e : TypeId} {sz : Nat} {w : World} {base : Nat} {A : Option Addr} {c : Nat} {l : List α} (h : OwnT mk e sz w base A c l) : OwnT mk e sz w.drew base A c l := h
theorem OwnT.alloc {α : Type} {mk : α → List Value} {e : TypeId} {sz : Nat} {w : World} {base : Nat} {A : Option Addr} {c : Nat} {l : List α} (h : OwnT mk e sz w base A c l) (o : Obj) : OwnT mk e sz (w.alloc o) base A c l := World.ownsRow.alloc h o
theorem mcells_one (m : Mg) : ∀ u ∈ mcells m, u.oneCell' = true := by
  intro u hu
  simp only [mcells, List.mem_cons, List.not_mem_nil, or_false] at hu
  rcases hu with rfl | rfl | rfl | rfl | rfl | rfl | rfl | rfl | rfl | rfl | rfl <;> rfl
theorem Tryz.infoM : (Tryz.prog.info? 133).map (fun i => (i.zero, i.size, i.bytes)) = some (some (.agg #[.int .i64 0, .int .i64 0, .int .i64 0, .int .i64 0, .int .i64 0, .int .i64 0, .int .i64 0, .int .i64 0, .bool false, .string ByteArray.empty, .slice none 0 0]), 11, 112) := by kernel_rfl
structure Ent where
  value : ByteArray
  origin : Nat
  map : Nat
  acks : List Nat
def ecells (e : Ent) : List Value := [.string e.value, .int .i64 (e.origin : Int), .map (some e.map)]
theorem ecells_len (e : Ent) : (ecells e).length = 3 := rfl
theorem ecells_one (m : Ent) : ∀ u ∈ ecells m, u.oneCell' = true := by
  intro u hu
  simp only [ecells, List.mem_cons, List.not_mem_nil, or_false] at hu
  rcases hu with rfl | rfl | rfl <;> rfl
def lcells (s : Shp) (me b MP : Nat) (A : Option Addr) (n c : Nat) (lead : Bool) : List Value := [.int .i64 (s.K : Int), .int .i64 (s.F : Int), .int .i64 (me : Int), .int .i64 (b : Int), .map (some MP), .slice A n c, .bool lead, .bool false]
def pkv (f : Nat) : Value × Value := (.int .i64 (f : Int), .slice none 0 0)
def akv (a : Nat) : Value × Value := (.int .i64 (a : Int), .bool true)
def LdAt (W : World) (S : Nat → Prop) (P : Nat) (s : Shp) (me b : Nat) (ps : List Nat) (es : List Ent) (lead : Bool) : Prop :=
  ∃ MP A c, W.heap[P]? = some (.cells (lcells s me b MP A es.length c lead).toArray 207) ∧ S P ∧ S MP ∧ (∀ k, blk A = some k → S k) ∧ MapIs W (.int .i64) MP (ps.map pkv) ∧ OwnT ecells 217 3 W 0 A c es ∧
    (∀ e ∈ es, S e.map ∧ e.map ≠ MP ∧ MapIs W (.int .i64) e.map (e.acks.map akv)) ∧ (es.map (·.map)).Nodup
theorem LdAt.frame {W W' : World} {S : Nat → Prop} {P : Nat} {s : Shp} {me b : Nat} {ps : List Nat} {es : List Ent} {lead : Bool} (h : LdAt W S P s me b ps es lead) (hb : ∀ k, S k → W'.heap[k]? = W.heap[k]?) : LdAt W' S P s me b ps es lead := by
  obtain ⟨MP, A, c, hP, sP, sM, sA, hM, hO, hE, hN⟩ := h
  exact ⟨MP, A, c, (hb P sP).trans hP, sP, sM, sA, hM.of_block (hb MP sM), hO.of_block fun k hk => hb k (sA k hk), fun e he => ⟨(hE e he).1, (hE e he).2.1, (hE e he).2.2.of_block (hb _ (hE e he).1)⟩, hN⟩
theorem ldnew_any (s : Shp) (hs : s.Ok) (me b : Nat) (hme : me < s.n) (h1 : 1 ≤ b) (h2 : b ≤ 2147483647) (W : World) :
    Calls Tryz.prog 113 #[shv s, .int .i64 (me : Int), .int .i64 (b : Int)] W fun e W' => ∃ P, e = .returned (.tuple #[.pointer (some ⟨P, 0, none⟩), .int .i64 0]) ∧ LdAt W' (fun k => W.heap.size ≤ k ∧ k < W'.heap.size) P s me b [] [] false ∧ Below W.heap.size W W' := by
  have hmm := @run_makeMap Tryz.prog
  have Hr := Lib.hid (fun w => cright_yes s hs w)
  have Hn := Lib.hid (fun w => cn_any s hs w)
  have hd1 : decide ((s.n : Int) ≤ (me : Int)) = false := by simp; omega
  have hd2 : decide ((b : Int) < 1) = false := by simp; omega
  have hd3 : decide ((2147483647 : Int) < (b : Int)) = false := by simp; omega
  unfold shv at Hr Hn ⊢
  go_enter Tryz.func113, Tryz.ntmps113
  go_wp2_with (first
    | (have _ := M1; go_at_call 59; refine (Hn.out _).mono ?_; rintro e w2 ⟨rfl, hb2⟩; have hk2 := (hb2.block W.heap.size (Nat.lt_of_lt_of_le (by simp) hb1.size)).trans hk1; have d0 := cob hk2 0 rfl; have d1 := cob hk2 1 rfl)
    | (go_at_call 57; refine (Hr.out _).mono ?_; rintro e w1 ⟨rfl, hb1⟩; have hk1 := (hb1.block W.heap.size (by simp)).trans (heap_alloc_new W _); have c0 := cob hk1 0 rfl; have c1 := cob hk1 1 rfl; have M1 : True := trivial))
  go_ret2
  have hB : Below W.heap.size W w2 := ((Below.refl W.heap.size W).alloc (Nat.le_refl _) _).trans ((below_next hb1 hb2).mono (by simp))
  have hs2 := hB.size
  refine ⟨w2.heap.size + 1, rfl, ⟨w2.heap.size, none, 0, ?_, ⟨by omega, by simp⟩, ⟨by omega, by simp; omega⟩, fun k hk => (by cases hk), ?_, OwnT.nil _ _ _ _ _, fun e he => (by cases he), List.nodup_nil⟩, (hB.alloc hs2 _).alloc (by simp; omega) _⟩
  · have := heap_alloc_new (w2.alloc (.map #[] 0)) (.cells #[.int .i64 (s.K : Int), .int .i64 (s.F : Int), .int .i64 (me : Int), .int .i64 (b : Int), .map (some w2.heap.size), .slice none 0 0, .bool false, .bool false] 207)
    rw [World.size_alloc] at this
    exact this
  · exact (MapIs.made w2 (.int .i64)).of_block (heap_alloc_old _ _ (by simp))
theorem ldleads_any (S : Nat → Prop) (P : Nat) (s : Shp) (me b : Nat) (ps : List Nat) (es : List Ent) (lead : Bool) (W : World) (h : LdAt W S P s me b ps es lead) :
    Calls Tryz.prog 91 #[.pointer (some ⟨P, 0, none⟩)] W fun e W' => e = .returned (.bool lead) ∧ W = W' := by
  obtain ⟨MP, A, c, hP, _⟩ := h
  have c6 : W.cell? ⟨P, 6, none⟩ = some (.bool lead) := cob hP 6 rfl
  have c7 : W.cell? ⟨P, 7, none⟩ = some (.bool false) := cob hP 7 rfl
  go_enter Tryz.func91, Tryz.ntmps91
  cases lead
  all_goals
    go_wp2
    go_ret
    exact ⟨rfl, rfl⟩
theorem ldballot_any (S : Nat → Prop) (P : Nat) (s : Shp) (me b : Nat) (ps : List Nat) (es : List Ent) (lead : Bool) (W : World) (h : LdAt W S P s me b ps es lead) :
    Calls Tryz.prog 103 #[.pointer (some ⟨P, 0, none⟩)] W fun e W' => e = .returned (.int .i64 (b : Int)) ∧ W = W' := by
  obtain ⟨MP, A, c, hP, _⟩ := h
  have c3 : W.cell? ⟨P, 3, none⟩ = some (.int .i64 (b : Int)) := cob hP 3 rfl
  go_enter Tryz.func103, Tryz.ntmps103
  go_wp2
  go_ret
  exact ⟨rfl, rfl⟩
def prep (me b i : Nat) : Mg := ⟨1, me, i, b, 0, vt0⟩
theorem ldprepares_any (S : Nat → Prop) (P : Nat) (s : Shp) (hs : s.Ok) (me b : Nat) (ps : List Nat) (es : List Ent) (lead : Bool) (W : World) (h : LdAt W S P s me b ps es lead) :
    Calls Tryz.prog 115 #[.pointer (some ⟨P, 0, none⟩)] W fun e W' => ∃ (L : List Mg) (A : Option Addr) (c : Nat), Hid (L = (List.range s.n).map (prep me b)) ∧ e = .returned (.slice A L.length c) ∧ OwnT mcells 133 11 W' W.heap.size A c L ∧ Below W.heap.size W W' := by
  have Hn := Lib.hid (fun w => cn_any s hs w)
  obtain ⟨i1, hi1, hy0, hy1, hy2⟩ := info_parts Tryz.infoM
  obtain ⟨MP, A, c, hP, _⟩ := h
  have hPl := (Array.getElem?_eq_some_iff.1 hP).1
  have hn7 : s.n ≤ 7 := hs.n7
  have c0 := cob hP 0 rfl
  have c1 := cob hP 1 rfl
  unfold shv at Hn
  unfold lcells at hP
  go_enter Tryz.func115, Tryz.ntmps115
  go_wp2_with fail
  refine (Hn.out _).mono ?_
  rintro e w1 ⟨rfl, hb1⟩
  have hs1 := hb1.size
  have hP1 := (hb1.block P hPl).trans hP
  go_wp2
  go_loopw [3, 10] (fun o i wr => ∃ (k : Nat) (L : List Mg) (A2 : Option Addr) (c2 : Nat), k ≤ s.n ∧ i = .int .i64 k ∧ o = .slice A2 L.length c2 ∧ Hid (L = (List.range k).map (prep me b)) ∧ L.length ≤ k ∧ OwnT mcells 133 11 wr w1.heap.size A2 c2 L ∧ Below w1.heap.size w1 wr) (fun _ i _ => s.n - (intOf i).toNat)
  case atStart => exact ⟨0, [], none, 0, Nat.zero_le _, rfl, rfl, Lib.hid rfl, Nat.le_refl _, OwnT.nil _ _ _ _ _, Below.refl _ _⟩
  case round =>
    obtain ⟨k, L, A2, c2, hk, rfl, rfl, hL, hlk, hO, hB⟩ := hrel
    have hsw := hB.size
    by_cases hkn : k < s.n
    · have hP3 := (hB.block P (by omega)).trans hP1
      have d2 := cob hP3 2 rfl
      have d3 := cob hP3 3 rfl
      go_wp2
      go_region_held3 (fun w' => w'.cell? ⟨P, 2, none⟩ = some (.int .i64 (me : Int)) ∧ w'.cell? ⟨P, 3, none⟩ = some (.int .i64 (b : Int)))
        (first | exact HS4 | exact ⟨d2, d3⟩ | go_keep)
        (go_must (refine step_append_st mcells _ mcells_one (by rfl) _ _ _ (by rfl) w1.heap.size 133 i1 _ 11 112 mcells_len (by decide) Tryz.underlying127 hi1 hy0 hy1 hy2 (by rfl) _ _ L (by rfl) ((hO.alloc _).drew) wr.heap.size _ (prep me b k) (0, 0) _ (by rfl) (heap_alloc_new _ _) (by unfold maxLen; omega) (by omega) (by simp; omega) ?_; intro X2 B4 d4 w4 hX2 ho4 hb4 hg4 ha4; have hB4 : Below w1.heap.size w1 w4 := ((hB.alloc hsw _).drew).trans hb4; have hP4 := (hB4.block P (by omega)).trans hP1; have HS4 : w4.cell? ⟨P, 2, none⟩ = some (.int .i64 (me : Int)) ∧ w4.cell? ⟨P, 3, none⟩ = some (.int .i64 (b : Int)) := ⟨cob hP4 2 rfl, cob hP4 3 rfl⟩))
      have hl4 : X2.length ≤ k + 1 := by rw [hX2.out, List.length_append]; simp; omega
      have hl5 : X2 = (List.range (k + 1)).map (prep me b) := by rw [hX2.out, hL.out, List.range_succ, List.map_append]; rfl
      go_wp2
      go_roundw
      case rel => exact ⟨k + 1, X2, B4, d4, by omega, by go_num, rfl, Lib.hid hl5, hl4, ho4, hB4⟩
      case measure => simp [intOf]; omega
    · obtain rfl : k = s.n := by omega
      go_wp2
      go_ret
      exact ⟨L, A2, c2, hL, rfl, hO.low hs1, hb1.trans (hB.mono hs1)⟩
theorem Tryz.infoVs : (Tryz.prog.info? 72).map (fun i => (i.zero, i.size, i.bytes)) = some (some (.slice none 0 0), 1, 24) := by kernel_rfl
theorem ldbegin_any (S : Nat → Prop) (P : Nat) (s : Shp) (hs : s.Ok) (me b : Nat) (ps : List Nat) (hps : ∀ f ∈ ps, f < s.n) (W : World) (h : LdAt W S P s me b ps [] false) (hS : Lt S W) :
    Calls Tryz.prog 184 #[.pointer (some ⟨P, 0, none⟩)] W fun e W' => e = .returned (.slice none 0 0) ∧ LdAt W' S P s me b ps [] true ∧ Turned S W W' := by
  have Hn := Lib.hid (fun w => cn_any s hs w)
  obtain ⟨i1, hi1, hy0, hy1, hy2⟩ := info_parts Tryz.infoVs
  have hn7 : s.n ≤ 7 := hs.n7
  have HLd := Lib.hid h
  obtain ⟨MP, A, c, hP, sP, sM, _, hM, hO, _⟩ := h
  have hPl := hS P sP
  have hMl := hS MP sM
  have hMP : MP ≠ P := fun e => by
    obtain ⟨es, clock, hb, _⟩ := hM
    rw [e, hP] at hb; cases hb
  have c0 : W.cell? ⟨P, 0, none⟩ = some (.int .i64 (s.K : Int)) := cob hP 0 rfl
  have c1 : W.cell? ⟨P, 1, none⟩ = some (.int .i64 (s.F : Int)) := cob hP 1 rfl
  have c6 : W.cell? ⟨P, 6, none⟩ = some (.bool false) := cob hP 6 rfl
  have f6 : W.frozen? ⟨P, 6, none⟩ = false := by simp [World.frozen?, hP]
  obtain ⟨w1, hw1⟩ : ∃ w1, w1 = W.setCell ⟨P, 6, none⟩ (.bool true) := ⟨_, rfl⟩
  have hP1 : w1.heap[P]? = some (.cells (lcells s me b MP A 0 c true).toArray 207) := by rw [hw1]; exact heap_setCell_same W P 6 _ _ _ hP
  have ho1 : ∀ k, k ≠ P → w1.heap[k]? = W.heap[k]? := fun k hk => by rw [hw1]; exact heap_setCell_other _ _ _ _ hk
  have hz1 : w1.heap.size = W.heap.size := by rw [hw1]; simp
  have HT1 := Lib.hid (show Turned S W w1 by rw [hw1]; exact (Turned.refl S W).setCell (.inl sP) _)
  have hM1 := hM.of_block (ho1 MP hMP)
  unfold shv at Hn
  go_enter Tryz.func184, Tryz.ntmps184
  go_wp2_with fail
  rw [← hw1]
  clear hw1
  refine (Hn.out _).mono ?_
  rintro e w2 ⟨rfl, hb2⟩
  have hP2 := (hb2.block P (by omega)).trans hP1
  have hM2 := hM1.of_block (hb2.block MP (by omega))
  have hs2 := hb2.size
  have d4 : w2.cell? ⟨P, 4, none⟩ = some (.map (some MP)) := cob hP2 4 rfl
  go_wp2_with (first
    | (at_make; refine wpList_make_list (fun v : Value => v) _ rfl _ _ _ rfl w2.heap.size 72 i1 (.slice none 0 0) Tryz.underlying310 hi1 hy0 hy1 rfl _ _ _ _ s.n rfl rfl rfl rfl (by rw [hy2]; omega) (by unfold maxLen; omega) (Nat.le_refl _) ?_; intro V AV cv w3 hV hOV hb3; have hP3 := (hb3.block P (by omega)).trans hP2; have hM3 := hM2.of_block (hb3.block MP (by omega)); have d4' : w3.cell? ⟨P, 4, none⟩ = some (.map (some MP)) := cob hP3 4 rfl)
    | (at_range; refine wpList_range_is rfl _ 204 rfl _ _ Tryz.underlying204 _ MP _ rfl hM3 ?_; rintro es clock w4 hl rfl hI))
  have hs3 := hb3.size
  have hVl : V.length = s.n := by rw [hV.out, List.length_replicate]
  have hn1 : 1 ≤ s.n := by have := hs.k1; unfold Shp.n; omega
  obtain ⟨g, rfl, hgb⟩ := hOV.form (by omega)
  have hgl := (hOV.lt g rfl).2
  have hkeys : ∀ e ∈ es, ∃ f, f < s.n ∧ e.key = .int .i64 (f : Int) ∧ e.val = .slice none 0 0 := by
    intro e he
    have h1 : (e.key, e.val) ∈ ps.map pkv := by rw [← hl]; exact List.mem_map.2 ⟨e, by simpa using he, rfl⟩
    obtain ⟨f, hf, e2⟩ := List.mem_map.1 h1
    injection e2 with e3 e4
    exact ⟨f, hps f hf, e3.symm, e4.symm⟩
  have HK := Lib.hid hkeys
  have HOV := Lib.hid (hOV.alloc (.mapIter (some MP) clock #[] clock))
  have hVl2 : V.length ≤ s.n ∧ s.n ≤ V.length := by omega
  have HB3 := Lib.hid ((Turned.of_below (S := S) hb2).trans (Turned.of_below hb3))
  have hP4 := (heap_alloc_old w3 (.mapIter (some MP) clock #[] clock) (Array.getElem?_eq_some_iff.1 hP3).1).trans hP3
  have HX := Lib.hid (show ∀ k, k < w1.heap.size → w3.heap[k]? = w1.heap[k]? from fun k hk => (hb3.block k (by omega)).trans (hb2.block k hk))
  have hMl3 : MP < w3.heap.size := hM3.lt
  have hMl2 : MP < g := by omega
  clear hkeys hOV hV hVl hb2 hb3 hl
  go_frame
  go_loopw [4] (fun n wr => ∃ (seen : Array Nat) (l : List Value), n = .int .i64 0 ∧ l.length ≤ s.n ∧ s.n ≤ l.length ∧ IterAt wr w3.heap.size MP es clock seen ∧ Own (fun v : Value => v) 72 wr w2.heap.size (some ⟨g, 0, none⟩) cv l ∧ Below w2.heap.size w3 wr) (fun _ wr => match wr.heap[w3.heap.size]? with | some (.mapIter _ _ seen _) => (leftOf es seen).size | _ => 0)
  case atStart => exact ⟨#[], V, rfl, hVl2.1, hVl2.2, hI, HOV.out, (Below.refl _ _).alloc hs3 _⟩
  case round =>
    obtain ⟨seen, l, rfl, hl1, hl2, hI2, hOl, hB⟩ := hrel
    go_wp2_with (at_next; refine wpList_next_is rfl _ rfl w3.heap.size MP es clock seen rfl hI2 ?_ ?_)
    · intro _
      go_wp2
      refine wp_loop_rounds 1 ?_
      rw [rounds_succ]
      go_wp2
      go_ret
      have hT : Turned S w1 wr := HB3.out.below hB (by have := HB3.out.size; omega)
      have hb13 : ∀ k, k < W.heap.size → wr.heap[k]? = w1.heap[k]? := fun k hk => (hB.block k (by omega)).trans (HX.out k (by omega))
      obtain ⟨MP', A', c', hP', sP', sM', sA', hM', hO', hE', hN'⟩ := HLd.out
      rw [hP] at hP'
      have hq := congrArg (fun o => match o with | some (Obj.cells cs _ _) => cs.toList | _ => []) hP'
      simp only [lcells, List.cons.injEq, Value.map.injEq, Option.some.injEq, Value.slice.injEq, true_and, and_true] at hq
      obtain ⟨rfl, rfl, rfl⟩ := hq
      have hk : ∀ k, k ≠ P → k < W.heap.size → wr.heap[k]? = W.heap[k]? := fun k h1 h2 => (hb13 k h2).trans (ho1 k h1)
      refine ⟨rfl, ⟨MP, A, c, (hb13 P hPl).trans hP1, sP, sM, sA', hM'.of_block (hk MP hMP hMl), hO'.of_block fun k hkk => hk k (fun e => ?_) (hO'.lt k hkk).2, fun e he => (by cases he), List.nodup_nil⟩, HT1.out.trans hT⟩
      subst e
      rcases hO'.2 with ⟨h1, _⟩ | ⟨g2, cap, cur, hv, _, hh, _⟩
      · injection h1 with h1 _ _; rw [h1] at hkk; cases hkk
      · injection hv with hA _ _
        rw [hA] at hkk
        have e2 : g2 = k := by simpa [blk] using hkk
        rw [e2, hP] at hh
        injection hh with hh
        injection hh with _ ht _
        cases ht
    · intro e he w5 hI5 hen hlt hg5 hz5
      obtain ⟨f, hf, hk, hv⟩ := HK.out e (left_mem he)
      rw [hk, hv] at hen ⊢
      have hgr : g ≠ w3.heap.size := by omega
      have hO5 : Own (fun v : Value => v) 72 w5 w2.heap.size (some ⟨g, 0, none⟩) cv l := World.ownsRow.kept hOl hg5 (.inr (by simp [Value.ownBlock]; exact hgr))
      have hB5 : Below w2.heap.size w3 w5 := hB.grown hg5 (by have := hB.size; omega) (fun k hk => by cases hk; omega)
      have cf := hO5.cell f (by omega)
      have ff := hO5.free f
      have hfl : f < l.length := by omega
      have hI6 := hI5.of_blocks (w' := w5.setCell ⟨g, f, none⟩ (.slice none 0 0)) (heap_setCell_other _ _ _ _ (by simpa using hgr.symm)) (heap_setCell_other _ _ _ _ (by simp; omega))
      have HM := Lib.hid (show (match (w5.setCell ⟨g, f, none⟩ (.slice none 0 0)).heap[w3.heap.size]? with | some (.mapIter _ _ seen _) => (leftOf es seen).size | _ => 0) < (match wr.heap[w3.heap.size]? with | some (.mapIter _ _ seen _) => (leftOf es seen).size | _ => 0) by
        rw [hI6.it, hI2.it]; exact hlt)
      have HO6 := Lib.hid (hO5.set f (.slice none 0 0))
      have HB6 := Lib.hid (hB5.setCell (p := ⟨g, f, none⟩) (by simpa using hgb) (.slice none 0 0))
      have HI6 := Lib.hid hI6
      clear hI6 hO5 hB5 hI5
      go_wp2
      refine wp_loop_rounds 1 ?_
      rw [rounds_succ]
      go_wp2
      go_roundw
      case rel => exact ⟨seen.push e.born, l.set f (.slice none 0 0), rfl, by rw [List.length_set]; exact hl1, by rw [List.length_set]; exact hl2, HI6.out, HO6.out, HB6.out⟩
      case measure => exact HM.out
theorem clonev_nil (W : World) : Calls Tryz.prog 177 #[.slice none 0 0] W fun e W' => e = .returned (.slice none 0 0) ∧ W = W' := by
  have hq := fun w => Lib.run_eql_slice_nil (P := Tryz.prog) w 72 62 none 0 0 0 0 Tryz.underlying72
  go_enter Tryz.func177, Tryz.ntmps177
  go_wp2
  go_ret
  exact ⟨rfl, rfl⟩
def promMsg (f me b : Nat) : Mg := ⟨2, f, me, b, 0, vt0⟩
theorem ldpromised_late (S : Nat → Prop) (P : Nat) (s : Shp) (me b f : Nat) (ps : List Nat) (es : List Ent) (hf : f ∉ ps) (W : World) (h : LdAt W S P s me b ps es true) :
    Calls Tryz.prog 142 #[.pointer (some ⟨P, 0, none⟩), mgv (promMsg f me b)] W fun e W' => e = .returned (.slice none 0 0) ∧ Below W.heap.size W W' := by
  obtain ⟨MP, A, c, hP, _, _, _, hM, _⟩ := h
  have hPl := (Array.getElem?_eq_some_iff.1 hP).1
  obtain ⟨w0, hw0⟩ : ∃ w0, w0 = W.alloc (.cells (mcells (promMsg f me b)).toArray 133) := ⟨_, rfl⟩
  have hM0 := named_new hw0
  have hP0 := named_old hw0 hP
  have hMM := hM.of_block ((named_below hw0).block MP hM.lt)
  have hb0 := named_below hw0
  have c4 : w0.cell? ⟨P, 4, none⟩ = some (.map (some MP)) := cob hP0 4 rfl
  have c6 : w0.cell? ⟨P, 6, none⟩ = some (.bool true) := cob hP0 6 rfl
  have m1 : w0.cell? ⟨W.heap.size, 1, none⟩ = some (.int .i64 (f : Int)) := cob hM0 1 rfl
  have hnot : ∀ q ∈ ps.map pkv, q.1 ≠ .int .i64 (f : Int) := by
    intro q hq e
    obtain ⟨g, hg, rfl⟩ := List.mem_map.1 hq
    injection e with _ e
    exact hf (by have : g = f := by omega
                 rwa [← this])
  have hz : ∀ n, (zeroValue 72).run Tryz.prog (w0.drewN n) = .ok (.slice none 0 0) (w0.drewN n) := fun n => by kernel_rfl
  have hl3 := fun n => (hMM.of_block (w' := w0.drewN n) rfl).look_none (P := Tryz.prog) (key := .int .i64 (f : Int)) Tryz.underlying204 Tryz.underlying3 rfl true hnot (hz n)
  simp only [if_true] at hl3
  unfold mcells promMsg vt0 at hw0
  simp only [Int.natCast_zero, show ((2 : Nat) : Int) = 2 from rfl] at hw0
  clear hM hP hnot hMM
  unfold mgv mcells promMsg vt0
  simp only [Int.natCast_zero, show ((2 : Nat) : Int) = 2 from rfl]
  go_enter Tryz.func142, Tryz.ntmps142
  go_wp2
  rw [← hw0]
  clear hw0
  go_quiet (fail)
  go_wp2
  go_quiet (fail)
  go_wp2
  go_ret
  exact ⟨rfl, below_drewN (below_drewN hb0)⟩
theorem ldpromised_any (S : Nat → Prop) (P : Nat) (s : Shp) (hs : s.Ok) (me b f : Nat) (ps : List Nat) (hf : f ∉ ps) (hfn : f < s.n) (hps : ∀ g ∈ ps, g < s.n) (W : World) (h : LdAt W S P s me b ps [] false) (hS : Lt S W) :
    Calls Tryz.prog 142 #[.pointer (some ⟨P, 0, none⟩), mgv (promMsg f me b)] W fun e W' => e = .returned (.slice none 0 0) ∧ LdAt W' S P s me b (ps ++ [f]) [] (decide (s.q ≤ ps.length + 1)) ∧ Turned S W W' := by
  have Hn := Lib.hid (fun w => cn_any s hs w)
  have Hq := Lib.hid (fun w => quorum_any s hs w)
  have HS := Lib.hid hS
  obtain ⟨MP, A, c, hP, sP, sM, sA, hM, hO, _, _⟩ := h
  have hPl := hS P sP
  have hMP : MP ≠ P := fun e => by
    obtain ⟨es, clock, hb, _⟩ := hM
    rw [e, hP] at hb; cases hb
  obtain ⟨w0, hw0⟩ : ∃ w0, w0 = W.alloc (.cells (mcells (promMsg f me b)).toArray 133) := ⟨_, rfl⟩
  have hM0 := named_new hw0
  have hP0 := named_old hw0 hP
  have hMM := hM.of_block ((named_below hw0).block MP hM.lt)
  have hb0 := named_below hw0
  have hs0 := named_size hw0
  have c0 : w0.cell? ⟨P, 0, none⟩ = some (.int .i64 (s.K : Int)) := cob hP0 0 rfl
  have c1 : w0.cell? ⟨P, 1, none⟩ = some (.int .i64 (s.F : Int)) := cob hP0 1 rfl
  have c3 : w0.cell? ⟨P, 3, none⟩ = some (.int .i64 (b : Int)) := cob hP0 3 rfl
  have c4 : w0.cell? ⟨P, 4, none⟩ = some (.map (some MP)) := cob hP0 4 rfl
  have c6 : w0.cell? ⟨P, 6, none⟩ = some (.bool false) := cob hP0 6 rfl
  have m1 : w0.cell? ⟨W.heap.size, 1, none⟩ = some (.int .i64 (f : Int)) := cob hM0 1 rfl
  have m3 : w0.cell? ⟨W.heap.size, 3, none⟩ = some (.int .i64 (b : Int)) := cob hM0 3 rfl
  have m10 : w0.cell? ⟨W.heap.size, 10, none⟩ = some (.slice none 0 0) := cob hM0 10 rfl
  have hnot : ∀ q ∈ ps.map pkv, q.1 ≠ .int .i64 (f : Int) := by
    intro q hq e
    obtain ⟨g, hg, rfl⟩ := List.mem_map.1 hq
    injection e with _ e
    exact hf (by have : g = f := by omega
                 rwa [← this])
  have hz : ∀ n, (zeroValue 72).run Tryz.prog (w0.drewN n) = .ok (.slice none 0 0) (w0.drewN n) := fun n => by kernel_rfl
  have hl3 := fun n => (hMM.of_block (w' := w0.drewN n) rfl).look_none (P := Tryz.prog) (key := .int .i64 (f : Int)) Tryz.underlying204 Tryz.underlying3 rfl true hnot (hz n)
  simp only [if_true] at hl3
  unfold mcells promMsg vt0 at hw0
  simp only [Int.natCast_zero, show ((2 : Nat) : Int) = 2 from rfl] at hw0
  have HMM := Lib.hid hMM
  have Hnot := Lib.hid hnot
  clear hM hnot hMM hS
  unfold mgv mcells promMsg vt0
  simp only [Int.natCast_zero, show ((2 : Nat) : Int) = 2 from rfl]
  unfold shv at Hn Hq
  have hd1 : decide ((s.n : Int) ≤ (f : Int)) = false := by simp; omega
  go_enter Tryz.func142, Tryz.ntmps142
  go_wp2
  rw [← hw0]
  clear hw0
  go_quiet (fail)
  go_wp2
  obtain ⟨w1, hw1⟩ : ∃ w1, w1 = w0.drewN nq := ⟨_, rfl⟩
  rw [← hw1]
  have hh1 : w1.heap = w0.heap := by rw [hw1]; rfl
  have hP1 : w1.heap[P]? = _ := (congrArg (·[P]?) hh1).trans hP0
  have hM1 : w1.heap[W.heap.size]? = _ := (congrArg (·[W.heap.size]?) hh1).trans hM0
  have hz1 : w1.heap.size = W.heap.size + 1 := by rw [hh1]; exact hs0
  have HMM1 := Lib.hid (HMM.out.of_block (w' := w1) (congrArg (·[MP]?) hh1))
  have HB1 := Lib.hid (show Below W.heap.size W w1 by rw [hw1]; exact below_drewN hb0)
  clear hw1 hh1
  have d0 : w1.cell? ⟨P, 0, none⟩ = some (.int .i64 (s.K : Int)) := cob hP1 0 rfl
  have d1 : w1.cell? ⟨P, 1, none⟩ = some (.int .i64 (s.F : Int)) := cob hP1 1 rfl
  have d3 : w1.cell? ⟨P, 3, none⟩ = some (.int .i64 (b : Int)) := cob hP1 3 rfl
  have d6 : w1.cell? ⟨P, 6, none⟩ = some (.bool false) := cob hP1 6 rfl
  have n1 : w1.cell? ⟨W.heap.size, 1, none⟩ = some (.int .i64 (f : Int)) := cob hM1 1 rfl
  have n3 : w1.cell? ⟨W.heap.size, 3, none⟩ = some (.int .i64 (b : Int)) := cob hM1 3 rfl
  go_region_held3 (fun w' => w'.cell? ⟨P, 0, none⟩ = some (.int .i64 (s.K : Int)) ∧ w'.cell? ⟨P, 1, none⟩ = some (.int .i64 (s.F : Int)) ∧ w'.cell? ⟨P, 3, none⟩ = some (.int .i64 (b : Int)) ∧ w'.cell? ⟨P, 6, none⟩ = some (.bool false) ∧ w'.cell? ⟨W.heap.size, 1, none⟩ = some (.int .i64 (f : Int)) ∧ w'.cell? ⟨W.heap.size, 3, none⟩ = some (.int .i64 (b : Int)))
    (first | exact HS2 | exact ⟨d0, d1, d3, d6, n1, n3⟩)
    (first | (go_at_call 59; refine (Hn.out _).mono ?_; rintro e w2 ⟨rfl, hb2'⟩; have hb2 : Below w1.heap.size w1 w2 := below_undrew hb2'; have hP2 := (hb2.block P (by omega)).trans hP1; have hM2 := (hb2.block W.heap.size (by omega)).trans hM1; have HS2 : _ ∧ _ := And.intro (cob hP2 0 (v := .int .i64 (s.K : Int)) rfl) (And.intro (cob hP2 1 (v := .int .i64 (s.F : Int)) rfl) (And.intro (cob hP2 3 (v := .int .i64 (b : Int)) rfl) (And.intro (cob hP2 6 (v := .bool false) rfl) (And.intro (cob hM2 1 (v := .int .i64 (f : Int)) rfl) (cob hM2 3 (v := .int .i64 (b : Int)) rfl)))))))
  go_wp2
  have hz2 := hb2.size
  have HMM2 := Lib.hid (HMM1.out.of_block (hb2.block MP HMM1.out.lt))
  obtain ⟨w3, hst, hM3, hg3, hz3⟩ := (HMM2.out.of_block (w' := w2.drew) rfl).store_new (P := Tryz.prog) (key := .int .i64 (f : Int)) Tryz.underlying204 Tryz.underlying3 rfl Hnot.out (.slice none 0 0)
  have HM3 := Lib.hid hM3
  have HB2 := Lib.hid (show Below W.heap.size W w2 from below_next HB1.out hb2)
  have e4 : w2.cell? ⟨P, 4, none⟩ = some (.map (some MP)) := cob hP2 4 rfl
  have e1 : w2.cell? ⟨W.heap.size, 1, none⟩ = some (.int .i64 (f : Int)) := cob hM2 1 rfl
  have e10 : w2.cell? ⟨W.heap.size, 10, none⟩ = some (.slice none 0 0) := cob hM2 10 rfl
  clear hM3
  have hP3 := (hg3.block P (by show P < w2.heap.size; omega) (by simpa using hMP.symm)).trans hP2
  have hM3 := (hg3.block W.heap.size (by show W.heap.size < w2.heap.size; omega) (by have := HMM.out.lt; have := HS.out MP sM; simp; omega)).trans hM2
  have g4 : w3.cell? ⟨P, 4, none⟩ = some (.map (some MP)) := cob hP3 4 rfl
  have g1 : w3.cell? ⟨W.heap.size, 1, none⟩ = some (.int .i64 (f : Int)) := cob hM3 1 rfl
  have g10 : w3.cell? ⟨W.heap.size, 10, none⟩ = some (.slice none 0 0) := cob hM3 10 rfl
  go_region_held3 (fun w' => w'.cell? ⟨P, 4, none⟩ = some (.map (some MP)) ∧ w'.cell? ⟨W.heap.size, 1, none⟩ = some (.int .i64 (f : Int)) ∧ w'.cell? ⟨W.heap.size, 10, none⟩ = some (.slice none 0 0))
    (first | exact ⟨g4, g1, g10⟩ | exact ⟨e4, e1, e10⟩)
    (first | (go_at_call 177; refine (clonev_nil _).mono ?_; rintro e v2 ⟨rfl, rfl⟩))
  go_wp2
  have hz3' : w3.heap.size = w2.heap.size := hz3
  have g0 : w3.cell? ⟨P, 0, none⟩ = some (.int .i64 (s.K : Int)) := cob hP3 0 rfl
  have g0' : w3.cell? ⟨P, 1, none⟩ = some (.int .i64 (s.F : Int)) := cob hP3 1 rfl
  have hml : (ps.map pkv ++ [(Value.int .i64 (f : Int), Value.slice none 0 0)]).length = ps.length + 1 := by simp
  have hlen : ∀ w', w'.heap[MP]? = w3.heap[MP]? → (Builtin.len_ #[204] 3 #[.map (some MP)]).run Tryz.prog w' = .ok (.int .i64 ((ps.length + 1 : Nat) : Int)) w' := fun w' hw' => by
    have := (HM3.out.of_block hw').len (P := Tryz.prog) Tryz.underlying204 3
    rw [hml] at this; exact this
  have HLn := Lib.hid hlen
  have hl0 := hlen w3 rfl
  have hmp3 : MP < w3.heap.size := HM3.out.lt
  have hq7 : s.q ≤ 7 := by have := hs.n7; unfold Shp.q; omega
  clear hlen hml
  go_region_held3 (fun w' => w'.cell? ⟨P, 4, none⟩ = some (.map (some MP)) ∧ w'.cell? ⟨P, 0, none⟩ = some (.int .i64 (s.K : Int)) ∧ w'.cell? ⟨P, 1, none⟩ = some (.int .i64 (s.F : Int)) ∧ (Builtin.len_ #[204] 3 #[.map (some MP)]).run Tryz.prog w' = .ok (.int .i64 ((ps.length + 1 : Nat) : Int)) w')
    (first | exact HS4 | exact ⟨g4, g0, g0', HLn.out _ rfl⟩)
    (first | (go_at_call 157; refine (Hq.out _).mono ?_; rintro e w4 ⟨rfl, hb4'⟩; have hb4 : Below w3.heap.size w3 w4 := below_undrew hb4'; have hP4 := (hb4.block P (by omega)).trans hP3; have HS4 : _ ∧ _ := And.intro (cob hP4 4 (v := .map (some MP)) rfl) (And.intro (cob hP4 0 (v := .int .i64 (s.K : Int)) rfl) (And.intro (cob hP4 1 (v := .int .i64 (s.F : Int)) rfl) (HLn.out w4 (hb4.block MP hmp3))))))
  have hkeep : ∀ k, k < W.heap.size → k ≠ MP → w4.heap[k]? = W.heap[k]? := fun k hk hne =>
    (hb4.block k (by omega)).trans ((hg3.block k (by show k < w2.heap.size; omega) (by simpa using hne)).trans (HB2.out.block k hk))
  have hT4 : Turned S W w4 := (((Turned.of_below HB2.out).drew).grown hg3 (fun k hk => by cases hk; exact .inl sM)).below hb4 (by omega)
  have hL4 : LdAt w4 S P s me b (ps ++ [f]) [] false := by
    refine ⟨MP, A, c, hP4, sP, sM, sA, ?_, hO.of_block fun k hk => hkeep k (hO.lt k hk).2 (fun e => ?_), fun e he => (by cases he), List.nodup_nil⟩
    · rw [List.map_append]
      exact HM3.out.of_block (hb4.block MP hmp3)
    · subst e
      obtain ⟨es, clock, hmm, _⟩ := HMM.out
      rcases hO.2 with ⟨h1, _⟩ | ⟨g2, cap, cur, hv, _, hh, _⟩
      · injection h1 with h1 _ _; rw [h1] at hk; cases hk
      · injection hv with hA _ _
        rw [hA] at hk
        have e2 : g2 = k := by simpa [blk] using hk
        have := hb0.block g2 (Array.getElem?_eq_some_iff.1 hh).1
        rw [e2] at this hh
        rw [hmm, hh] at this
        cases this
  have HL4 := Lib.hid hL4
  have HT4 := Lib.hid hT4
  have hz4 := hb4.size
  have hlt4 : Lt S w4 := fun k hk => by have := HS.out k hk; omega
  have Hbg := Lib.hid (ldbegin_any S P s hs me b (ps ++ [f]) (fun g hg => by
    rcases List.mem_append.1 hg with hg | hg
    · exact hps g hg
    · obtain rfl := List.mem_singleton.1 hg; exact hfn) w4 hL4 hlt4)
  clear hL4 hT4 hlt4 hkeep
  by_cases hc : s.q ≤ ps.length + 1
  · have hd : decide (ps.length + 1 < s.q) = false := by simp; omega
    have hd' : decide (((ps.length + 1 : Nat) : Int) < (s.q : Int)) = false := by simp; omega
    have hd'' : decide ((ps.length : Int) + 1 < (s.q : Int)) = false := by simp; omega
    have hy : decide (s.q ≤ ps.length + 1) = true := by simpa using hc
    go_wp2_with fail
    refine (Hbg.out).mono ?_
    rintro e w5 ⟨rfl, hL5, hT5⟩
    go_wp2
    go_ret
    rw [hy]
    exact ⟨rfl, hL5, HT4.out.trans hT5⟩
  · have hd : decide (ps.length + 1 < s.q) = true := by simp; omega
    have hd' : decide (((ps.length + 1 : Nat) : Int) < (s.q : Int)) = true := by simp; omega
    have hd'' : decide ((ps.length : Int) + 1 < (s.q : Int)) = true := by simp; omega
    have hy : decide (s.q ≤ ps.length + 1) = false := by simpa using hc
    go_wp2
    go_ret
    rw [hy]
    exact ⟨rfl, HL4.out, HT4.out⟩
structure Cl where
  row : ByteArray
  col : ByteArray
  at_ : Int
  value : ByteArray
  gone : Bool
def clcells (c : Cl) : List Value := [.string c.row, .string c.col, .int .i64 c.at_, .string c.value, .bool c.gone]
def clv (c : Cl) : Value := .agg (clcells c).toArray
structure ClOk (c : Cl) : Prop where
  r1 : 1 ≤ c.row.size
  r2 : c.row.size ≤ 64
  c1 : 1 ≤ c.col.size
  c2 : c.col.size ≤ 64
  a1 : 0 ≤ c.at_
  a2 : c.at_ ≤ 4294967295
  v : c.value.size ≤ 256
  g : c.gone = true → c.value = ByteArray.empty
def nameB (s : ByteArray) : Bool := decide (1 ≤ s.size) && decide (s.size ≤ 64)
theorem name_any (s : ByteArray) (W : World) : Calls Tryz.prog 128 #[.string s] W fun e W' => e = .returned (.bool (nameB s)) ∧ W = W' := by
  unfold nameB
  by_cases h1 : 1 ≤ s.size
  · by_cases h2 : s.size ≤ 64
    · have d1 : decide ((1 : Int) ≤ (s.size : Int)) = true := by simp; omega
      have d2 : decide ((s.size : Int) ≤ 64) = true := by simp; omega
      have HC := Lib.hid (show (decide (1 ≤ s.size) && decide (s.size ≤ 64)) = true by simp [h1, h2])
      rw [HC.out]
      go_enter Tryz.func128, Tryz.ntmps128
      go_wp2
      go_ret
      exact ⟨rfl, rfl⟩
    · have d1 : decide ((1 : Int) ≤ (s.size : Int)) = true := by simp; omega
      have d2 : decide ((s.size : Int) ≤ 64) = false := by simp; omega
      have HC := Lib.hid (show (decide (1 ≤ s.size) && decide (s.size ≤ 64)) = false by simp [h2])
      rw [HC.out]
      go_enter Tryz.func128, Tryz.ntmps128
      go_wp2
      go_ret
      exact ⟨rfl, rfl⟩
  · have d1 : decide ((1 : Int) ≤ (s.size : Int)) = false := by simp; omega
    have HC := Lib.hid (show (decide (1 ≤ s.size) && decide (s.size ≤ 64)) = false by simp [h1])
    rw [HC.out]
    go_enter Tryz.func128, Tryz.ntmps128
    go_wp2
    go_ret
    exact ⟨rfl, rfl⟩
def rightB (c : Cl) : Bool := nameB c.row && nameB c.col && decide ((0 : Int) ≤ c.at_) && decide (c.at_ ≤ 4294967295) && decide ((c.value.size : Int) ≤ 256) && (!c.gone || c.value.toList.isEmpty)
theorem cellright_any (x : Cl) (W : World) : Calls Tryz.prog 89 #[clv x] W fun e W' => e = .returned (.bool (rightB x)) ∧ Below W.heap.size W W' := by
  have Hn := Lib.hid name_any
  obtain ⟨r, c, a, v, g⟩ := x
  unfold clv clcells
  simp only []
  have HB := Lib.hid (show Below W.heap.size W (W.alloc (.cells #[.string r, .string c, .int .i64 a, .string v, .bool g] 93)) from (Below.refl _ _).alloc (Nat.le_refl _) _)
  cases h1 : nameB r
  · have _ := h1
    have HC := Lib.hid (show rightB ⟨r, c, a, v, g⟩ = false by simp [rightB, *])
    rw [HC.out]
    go_enter Tryz.func89, Tryz.ntmps89
    go_wp2_with (first | (go_at_call 128; refine (Hn.out _ _).mono ?_; rintro e w1 ⟨rfl, rfl⟩))
    go_ret
    exact ⟨rfl, HB.out⟩
  · have _ := h1
    cases h2 : nameB c
    · have _ := h2
      have HC := Lib.hid (show rightB ⟨r, c, a, v, g⟩ = false by simp [rightB, *])
      rw [HC.out]
      go_enter Tryz.func89, Tryz.ntmps89
      go_wp2_with (first | (go_at_call 128; refine (Hn.out _ _).mono ?_; rintro e w1 ⟨rfl, rfl⟩))
      go_ret
      exact ⟨rfl, HB.out⟩
    · have _ := h2
      cases h3 : decide ((0 : Int) ≤ a)
      · have _ := h3
        have HC := Lib.hid (show rightB ⟨r, c, a, v, g⟩ = false by simp [rightB, *])
        rw [HC.out]
        go_enter Tryz.func89, Tryz.ntmps89
        go_wp2_with (first | (go_at_call 128; refine (Hn.out _ _).mono ?_; rintro e w1 ⟨rfl, rfl⟩))
        go_ret
        exact ⟨rfl, HB.out⟩
      · have _ := h3
        cases h4 : decide (a ≤ 4294967295)
        · have _ := h4
          have HC := Lib.hid (show rightB ⟨r, c, a, v, g⟩ = false by simp [rightB, *])
          rw [HC.out]
          go_enter Tryz.func89, Tryz.ntmps89
          go_wp2_with (first | (go_at_call 128; refine (Hn.out _ _).mono ?_; rintro e w1 ⟨rfl, rfl⟩))
          go_ret
          exact ⟨rfl, HB.out⟩
        · have _ := h4
          cases h5 : decide ((v.size : Int) ≤ 256)
          · have _ := h5
            have HC := Lib.hid (show rightB ⟨r, c, a, v, g⟩ = false by simp [rightB, *])
            rw [HC.out]
            go_enter Tryz.func89, Tryz.ntmps89
            go_wp2_with (first | (go_at_call 128; refine (Hn.out _ _).mono ?_; rintro e w1 ⟨rfl, rfl⟩))
            go_ret
            exact ⟨rfl, HB.out⟩
          · have _ := h5
            cases g
            · have HC := Lib.hid (show rightB ⟨r, c, a, v, false⟩ = true by simp [rightB, *])
              rw [HC.out]
              go_enter Tryz.func89, Tryz.ntmps89
              go_wp2_with (first | (go_at_call 128; refine (Hn.out _ _).mono ?_; rintro e w1 ⟨rfl, rfl⟩))
              go_ret
              exact ⟨rfl, HB.out⟩
            · go_enter Tryz.func89, Tryz.ntmps89
              go_wp2_with (first | (go_at_call 128; refine (Hn.out _ _).mono ?_; rintro e w1 ⟨rfl, rfl⟩))
              go_ret
              have HC : rightB ⟨r, c, a, v, true⟩ = v.toList.isEmpty := by simp [rightB, *]
              exact ⟨by rw [HC]; rfl, HB.out⟩
end Go.Proofs.YtoigogjmhkpdlaaGreat
