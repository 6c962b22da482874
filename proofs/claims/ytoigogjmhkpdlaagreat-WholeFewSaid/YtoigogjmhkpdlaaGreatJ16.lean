/- A part of the proof of WholeFew: the texts Pieces, Encode, Accepts. -/
import Derived.Test.YtoigogjmhkpdlaaGreatJ11
import Derived.Test.YtoigogjmhkpdlaaGreatJ14
import Derived.Test.YtoigogjmhkpdlaaGreatJ15
import Derived.AtR
import Derived.OwnWalkIn
import Derived.RangeFuncCalls
set_option maxHeartbeats 6400000
set_option maxRecDepth 100000
namespace Go.Proofs.YtoigogjmhkpdlaaGreat
open Go.RowKit
open Gf
def padM (k n : Nat) : Nat := (n + k - 1) / k
theorem pad_le {k n : Nat} (hk : 1 ≤ k) : n ≤ padM k n * k ∧ padM k n * k < n + k := by
  unfold padM
  have h1 := Nat.div_add_mod (n + k - 1) k
  have h2 := Nat.mod_lt (n + k - 1) (show 0 < k by omega)
  rw [Nat.mul_comm] at h1
  omega
theorem pad_step {k n L : Nat} (h : L ≤ padM k n * k) (hm : L % k ≠ 0) : L < padM k n * k := by
  rcases Nat.lt_or_eq_of_le h with h | h
  · exact h
  · exact absurd (by rw [h]; simp) hm
theorem pad_end {k n L : Nat} (hk : 1 ≤ k) (h1 : n ≤ L) (h : L ≤ padM k n * k) (hm : L % k = 0) : L = padM k n * k := by
  have h2 := (pad_le (n := n) hk).2
  obtain ⟨q, hq⟩ := Nat.dvd_of_mod_eq_zero hm
  rw [Nat.mul_comm] at hq
  have h3 : q ≤ padM k n := by
    rw [hq] at h
    exact Nat.le_of_mul_le_mul_right h (by omega)
  have h4 : padM k n < q + 1 := by
    have : padM k n * k < (q + 1) * k := by rw [Nat.add_mul, Nat.one_mul, ← hq]; omega
    exact Nat.lt_of_mul_lt_mul_right this
  rw [hq, show q = padM k n by omega]
theorem wpListIn_append_bytes {F : Fence} {n : Nat} {P : Program} (w : World) {ops : Array Oper} {rest : List Oper} {o : Oper} {a : Act} {Q : Exit → Act → World → Prop} (hgd : o.guard = none) (s x : Operand) (t : TypeId)
    (ho : o.op = .call { callee := .builtin .append, args := #[s, x], argTypes := #[t, t] })
    (base : Nat) (e : TypeId) (i : TypeInfo) (ht : P.underlying t = some (.slice e)) (hi : P.info? e = some i) (hz : i.zero = some (.int .u8 0))
    (hsize : i.size = 1) (hby : i.bytes = 1) (S : Option Addr) (d : Nat) (l : List Nat) (hs : a.eval s = .slice S l.length d) (hown : OwnB e w base S d l)
    (A : Option Addr) (c n0 : Nat) (m : List Nat) (hn0 : m.length = n0) (hx : a.eval x = .slice A n0 c) (hr : RdB w A m) (hb : l.length + m.length ≤ 140737488355328) (hbase : base ≤ w.heap.size)
    (h : ∀ L A' c' w', Hid (L = l ++ m) → OwnB e w' base A' c' L → Below base w w' → wpListIn F n P ops Q rest (a.put o.dst (.slice A' L.length c')) w') :
    wpListIn F n P ops Q (o :: rest) a w := by
  subst hn0
  refine wpListIn_plain hgd fun K hK => ?_
  obtain ⟨A', c', w', hrun, h2, h3, _, _⟩ := run_append_bytes (P := P) w base t o.type e i ht hi hz hsize hby S d l hown A c m hr hb hbase
  unfold Oper.wpIn
  refine ⟨?_, ?_⟩
  · simp [Oper.about, ho, resolve, Target.leads, Sem.run_pure]
  · rw [Oper.semAt_plain F _ _ (by rw [ho]; intro c hc'; cases hc')]
    unfold execOp
    simp only [ho, resolve, invoke, builtin, Sem.run_bind, Sem.run_pure, Result.andThen_ok, List.map_toArray, List.map_cons, List.map_nil, hs, hx, hrun]
    exact hK _ _ (h _ A' c' w' (Lib.hid rfl) h2 h3)
theorem stepIn_append_one {F : Fence} {n : Nat} {P : Program} {α : Type} (mk : α → Value) (w : World) (h1 : ∀ x, (mk x).oneCell' = true) {l : Nat} (hF : ∀ f, F.fn f) {ops : Array Oper} {o : Oper} {a : Act} {K : Act → World → Prop} {Q : Exit → Act → World → Prop} {E : Prop} (hgd : o.guard = none) (s x : Operand) (t : TypeId)
    (ho : o.op = .call { callee := .builtin .append, args := #[s, x], argTypes := #[t, t] })
    (base : Nat) (e : TypeId) (i : TypeInfo) (z : Value) (bsz : Nat) (ht : P.underlying t = some (.slice e)) (hi : P.info? e = some i) (hz : i.zero = some z)
    (hsize : i.size = 1) (hby : i.bytes = bsz) (hzs : z.cells.size = 1) (S : Option Addr) (d : Nat) (xs : List α) (hs : a.eval s = .slice S xs.length d) (hown : Own mk e w base S d xs)
    (ad : Addr) (c : Nat) (y : α) (hx : a.eval x = .slice (some ad) 1 c) (hr : w.cell? ad = some (mk y)) (h63 : xs.length + 1 ≤ maxLen) (hb : (xs.length + 1) * bsz ≤ 140737488355328) (hbase : base ≤ w.heap.size)
    (h : ∀ L A' c' w', Hid (L = xs ++ [y]) → Own mk e w' base A' c' L → Below base w w' → w.grownBy w' (blk S) → (blk A' = blk S ∨ blk A' = some w.heap.size) → K (a.put o.dst (.slice A' L.length c')) w') :
    if Region.wanted o (yielded ops a.tmps) = true then Oper.wpIn (F.inRound l) n P o a w K Q else E := by
  have hw : Region.wanted o (yielded ops a.tmps) = true := by simp [Region.wanted, hgd]
  rw [if_pos hw]
  obtain ⟨A', c', w', hrun, h2, h3, h4, h5⟩ := run_append_one (P := P) mk w h1 base t o.type e i z bsz ht hi hz hsize hby hzs S d xs hown ad c y hr h63 hb hbase
  refine ⟨fun f _ => hF f, ?_⟩
  rw [Oper.semAt_eq _ _ _ (fun c h => by rw [ho] at h; cases h)]
  unfold execOp
  simp only [ho, resolve, invoke, builtin, Sem.run_bind, Sem.run_pure, Result.andThen_ok, List.map_toArray, List.map_cons, List.map_nil, hs, hx, hrun]
  exact h _ A' c' w' (Lib.hid rfl) h2 h3 h4 h5
theorem keep_cells {W W' : World} {row : Option Nat} (hg : W.grownBy W' row) (hr : ∀ r, row = some r → ∃ o : Go.Obj, W.heap[r]? = some o ∧ o.isCells = false) {k : Nat} {cs : Array Value} {t : TypeId} {fr : Nat × Nat} (h : W.heap[k]? = some (.cells cs t fr)) : W'.heap[k]? = some (.cells cs t fr) :=
  (grownBy_keeps_cells hg hr h rfl).trans h
theorem rdb_keep {W W' : World} {row : Option Nat} (hg : W.grownBy W' row) (hr : ∀ r, row = some r → ∃ o : Go.Obj, W.heap[r]? = some o ∧ o.isCells = false) {A : Option Addr} {l : List Nat} (h : RdB W A l) : RdB W' A l := by
  intro hl
  obtain ⟨ad, rfl, hc⟩ := h hl
  exact ⟨ad, rfl, fun j hj => cell_kept (hc j hj) hg hr⟩
theorem own_keep {α : Type} {mk : α → Value} {e : TypeId} {base c : Nat} {A : Option Addr} {l : List α} {W W' : World} {row : Option Nat} (hg : W.grownBy W' row) (hr : ∀ r, row = some r → ∃ o : Go.Obj, W.heap[r]? = some o ∧ o.isCells = false) (h : Own mk e W base A c l) : Own mk e W' base A c l := by
  refine ⟨h.1, ?_⟩
  rcases h.2 with h0 | ⟨g, cap, cur, hv, hgb, hh, hrest⟩
  · exact .inl h0
  · exact .inr ⟨g, cap, cur, hv, hgb, keep_cells hg hr hh, hrest⟩
def PiecesAt (W0 : World) (T3 g6 m : Nat) (A : Option Addr) (L : List Nat) (n : Nat) (w : World) : Prop :=
  ∃ (xs : List Sl) (B : Option Addr) (d : Nat), xs.length = n ∧ w.heap[g6]? = some (.cells #[.slice B xs.length d] 111) ∧ Own slv 67 w T3 B d xs ∧ (∀ x ∈ xs, x.2.2.length = m ∧ SlOk w x ∧ Apart w B x.1 ∧ ∀ q, blk x.1 = some q → T3 ≤ q) ∧ RdB w A L ∧ T3 ≤ w.heap.size ∧ Below W0.heap.size W0 w
theorem PiecesAt.from (W0 : World) (T3 g6 m : Nat) (A : Option Addr) (L : List Nat) (k B : Nat) (hB : W0.heap.size ≤ B) : OwnFrom B (fun (pre : List (Fin k)) w => PiecesAt W0 T3 g6 m A L pre.length w) := by
  intro s W W' row h hg hr
  have hr' : ∀ r, row = some r → ∃ o : Go.Obj, W.heap[r]? = some o ∧ o.isCells = false := fun r e => (hr r e).2
  obtain ⟨xs, B1, d, h1, h2, h3, h4, h5, h6, h7⟩ := h
  exact ⟨xs, B1, d, h1, keep_cells hg hr' h2, own_keep hg hr' h3, fun x hx => ⟨(h4 x hx).1, ⟨rdb_keep hg hr' (h4 x hx).2.1.1, (h4 x hx).2.1.2⟩, (h4 x hx).2.2.1.wide hg.size, (h4 x hx).2.2.2⟩, rdb_keep hg hr' h5, Nat.le_trans h6 hg.size, h7.grown hg h7.size (fun k e => Nat.le_trans hB (hr k e).1)⟩
theorem pieces_step {W0 W2 w4 w6 : World} {T3 g6 bs bn m : Nat} {A : Option Addr} {L : List Nat} {xs X6 : List Sl} {B A4 A6 : Option Addr} {d c4 c6 : Nat} {L4 : List Nat}
    (hbox : W2.heap[g6]? = some (.cells #[.slice B xs.length d] 111)) (hOx : Own slv 67 W2 T3 B d xs) (hX : ∀ x ∈ xs, x.2.2.length = m ∧ SlOk W2 x ∧ Apart W2 B x.1 ∧ ∀ q, blk x.1 = some q → T3 ≤ q) (hRL : RdB W2 A L) (hA : ∀ q, blk A = some q → q < T3 ∧ q ≠ g6) (hT3 : T3 ≤ W2.heap.size) (hBW : Below W0.heap.size W0 W2)
    (h0 : W0.heap.size ≤ g6) (h6 : g6 < T3) (hs : bs < T3 ∧ bs ≠ g6) (hn : bn < T3 ∧ bn ≠ g6) (hb4 : Below W2.heap.size W2 w4) (hO4 : OwnB 5 w4 W2.heap.size A4 c4 L4) (hl4 : L4.length = m) (hLb : Bytes L4)
    (hO6 : Own slv 67 w6 T3 A6 c6 X6) (hX6 : X6 = xs ++ [(A4, c4, L4)]) (hg6 : (w4.alloc (.cells #[.slice A4 L4.length c4] 67)).grownBy w6 (blk B)) (ha6 : blk A6 = blk B ∨ blk A6 = some (w4.alloc (.cells #[.slice A4 L4.length c4] 67)).heap.size) :
    KeepsOthers W2 (w6.setCell ⟨g6, 0, none⟩ (.slice A6 X6.length c6)) ∧ KeptBoxes bs bn W2 (w6.setCell ⟨g6, 0, none⟩ (.slice A6 X6.length c6)) ∧ PiecesAt W0 T3 g6 m A L (xs.length + 1) (w6.setCell ⟨g6, 0, none⟩ (.slice A6 X6.length c6)) := by
  have hs4 := hb4.size
  have hs6 := hg6.size
  rw [World.size_alloc] at hs6
  have hkeep : ∀ k, k < W2.heap.size → k ≠ g6 → some k ≠ blk B → (w6.setCell ⟨g6, 0, none⟩ (.slice A6 X6.length c6)).heap[k]? = W2.heap[k]? := fun k h1 h2 h3 =>
    (heap_setCell_other _ _ _ _ h2).trans ((hg6.block k (by simp; omega) h3).trans ((heap_alloc_old _ _ (by omega)).trans (hb4.block k h1)))
  have hBT : ∀ q, blk B = some q → T3 ≤ q ∧ q < W2.heap.size := fun q hq => hOx.lt q hq
  have hg6B : some g6 ≠ blk B := fun e => by have := (hBT g6 e.symm).1; omega
  have hk6 : w6.heap[g6]? = some (.cells #[.slice B xs.length d] 111) := (hg6.block g6 (by simp; omega) hg6B).trans ((heap_alloc_old _ _ (by omega)).trans ((hb4.block g6 (by omega)).trans hbox))
  have hA6 : ∀ q, blk A6 = some q → T3 ≤ q ∧ q < w6.heap.size := fun q hq => hO6.lt q hq
  have hal := (Below.refl w4.heap.size w4).alloc (Nat.le_refl _) (.cells #[.slice A4 L4.length c4] 67)
  have hBelow : Below W0.heap.size W0 (w6.setCell ⟨g6, 0, none⟩ (.slice A6 X6.length c6)) :=
    (((hBW.trans (hb4.mono hBW.size)).alloc (by have := hBW.size; omega) _).grown hg6 (by have := hBW.size; simp; omega) (fun k hk => by have := (hBT k hk).1; omega)).setCell (p := ⟨g6, 0, none⟩) (by simpa using h0) _
  refine ⟨⟨by rw [World.size_setCell]; omega, fun k o hk ho => ?_⟩, ⟨hkeep bs (by omega) hs.2 (fun e => by have := (hBT bs e.symm).1; omega), hkeep bn (by omega) hn.2 (fun e => by have := (hBT bn e.symm).1; omega)⟩, ?_⟩
  · refine (hkeep k (Array.getElem?_eq_some_iff.1 hk).1 (fun e => ?_) (fun e => ?_)).trans hk
    · rw [e, hbox] at hk; cases hk; cases ho
    · rcases hOx.2 with ⟨h1, _⟩ | ⟨g, cap, cur, hv, _, hh, _⟩
      · injection h1 with h1 _ _; rw [h1] at e; cases e
      · injection hv with hv _ _
        rw [hv] at e
        have e2 : k = g := by simpa [blk] using e
        rw [e2, hh] at hk; cases hk; cases ho
  · refine ⟨X6, A6, c6, by rw [hX6, List.length_append]; rfl, heap_setCell_same w6 g6 0 _ _ _ hk6, ?_, ?_, ?_, by rw [World.size_setCell]; omega, hBelow⟩
    · refine ⟨hO6.1, ?_⟩
      rcases hO6.2 with h | ⟨g, cap, cur, hv, hgb, hh, hrest⟩
      · exact .inl h
      · exact .inr ⟨g, cap, cur, hv, hgb, (heap_setCell_other _ _ _ _ (by simp; omega)).trans hh, hrest⟩
    · have hApB : ∀ x, Apart (w4.alloc (.cells #[.slice A4 L4.length c4] 67)) B x → Apart w6 A6 x := fun x h => h.step hg6.size ha6
      intro x hx
      rw [hX6] at hx
      have hfin : ∀ y : Sl, SlOk (w4.alloc (.cells #[.slice A4 L4.length c4] 67)) y → Apart (w4.alloc (.cells #[.slice A4 L4.length c4] 67)) B y.1 → (∀ q, blk y.1 = some q → T3 ≤ q) → SlOk (w6.setCell ⟨g6, 0, none⟩ (.slice A6 X6.length c6)) y ∧ Apart (w6.setCell ⟨g6, 0, none⟩ (.slice A6 X6.length c6)) A6 y.1 := fun y h1 h2 h3 =>
        ⟨⟨(h1.1.kept hg6 h2.1).of_block (fun q hq => heap_setCell_other _ _ _ _ (by have := h3 q hq; simp; omega)), h1.2⟩, (hApB _ h2).wide (by rw [World.size_setCell]; exact Nat.le_refl _)⟩
      rcases List.mem_append.1 hx with hx | hx
      · have h := hX x hx
        have h2 := hfin x ⟨(h.2.1.1.below hb4 (Nat.le_refl _)).below hal (Nat.le_refl _), h.2.1.2⟩ (h.2.2.1.wide (by simp; omega)) h.2.2.2
        exact ⟨h.1, h2.1, h2.2, h.2.2.2⟩
      · obtain rfl := List.mem_singleton.1 hx
        have hlt := hO4.lt
        have hap : Apart (w4.alloc (.cells #[.slice A4 L4.length c4] 67)) B A4 := by
          refine ⟨?_, fun k hk => by have := (hlt k hk).2; simp; omega⟩
          rcases hA4 : blk A4 with _ | q
          · exact .inl hA4
          · refine .inr (fun e => ?_)
            rw [hA4] at e
            have h1 := (hBT q e.symm).2
            have h2 := (hlt q hA4).1
            omega
        have h2 := hfin (A4, c4, L4) ⟨hO4.rd.below hal (Nat.le_refl _), hLb, hO4.cap, by have := hO4.capmax; unfold maxLen at this; exact this⟩ hap (fun q hq => by have := (hlt q hq).1; omega)
        exact ⟨hl4, h2.1, h2.2, fun q hq => by have := (hlt q hq).1; omega⟩
    · refine hRL.of_block fun q hq => hkeep q (by have := (hA q hq).1; omega) (hA q hq).2 (fun e => by have := (hBT q e.symm).1; have := (hA q hq).1; omega)
theorem pieces_any (k : Nat) (hk1 : 1 ≤ k) (hk7 : k ≤ 7) (v : ByteArray) (hv : v.size ≤ 512) (W : World) :
    Calls Tryz.prog 214 #[.int .i64 (k : Int), .string v] W fun e W' => ∃ (xs : List Sl) (B : Option Addr) (d : Nat), Hid (xs.length = k) ∧ e = .returned (.slice B xs.length d) ∧ Rd slv W' B xs ∧ RowsOk W' (padM k (4 + v.size)) xs ∧ Below W.heap.size W W' := by
  obtain ⟨i0, hi, hz0, hz1, hz2⟩ := info_parts Tryz.infoB
  obtain ⟨i1, hi1, hy0, hy1, hy2⟩ := info_parts Tryz.infoSl
  have hpl := pad_le (n := 4 + v.size) hk1
  obtain ⟨T, hT⟩ : ∃ T, T = padM k (4 + v.size) * k := ⟨_, rfl⟩
  rw [← hT] at hpl
  have HT := Lib.hid hT
  clear hT
  refine (callsIn_wide (n := 6)).1 ?_
  have hf1 : Fence.wide.fn 56 := trivial
  have hf2 : Fence.wide.fn 247 := trivial
  have hf3 : Fence.wide.fn 47 := trivial
  refine callsIn_of_wp_marks Tryz.func214 rfl trivial ?_ rfl
  simp only [Tryz.ntmps214, List.size_toArray, List.length_cons, List.length_nil, Nat.reduceAdd, Nat.reduceSub, Array.replicate_succ, Array.replicate_zero, List.push_toArray, List.append_toArray, List.nil_append, List.cons_append]
  gi_wp2_with (gi_at_call 56; refine (callsIn_wide.2 (text_any v (by omega) _)).mono ?_; rintro e w1 ⟨L1, A1, c1, hL1, rfl, hO1, hc1, hb1⟩)
  have hl1 : L1.length = 4 + v.size := by rw [hL1.out]; simp [textN, numN_length, keyN_length]
  have hL1b : Bytes L1 := by
    rw [hL1.out]; intro x hx
    rcases List.mem_append.1 hx with h | h
    · exact numN_bytes _ x h
    · exact keyN_bytes _ x h
  have hle : 4 + v.size ≤ L1.length ∧ L1.length ≤ T := by omega
  clear hl1
  gi_wp2
  gi_loopw [5] (fun b wr => ∃ (L : List Nat) (A : Option Addr) (c : Nat), b = .slice A L.length c ∧ 4 + v.size ≤ L.length ∧ L.length ≤ T ∧ Bytes L ∧ OwnB 5 wr W.heap.size A c L ∧ Below W.heap.size W wr) (fun b _ => T - slLen b)
  case atStart => exact ⟨L1, A1, c1, rfl, hle.1, hle.2, hL1b, hO1, hb1⟩
  case round =>
    obtain ⟨L, A, c, rfl, hla, hlb, hLb, hO, hB⟩ := hrel
    by_cases hm : L.length % k = 0
    · obtain ⟨ga, rfl, hga⟩ := hO.form (by omega)
      have hLT : L.length = T := by rw [HT.out]; exact pad_end hk1 hla (by rw [← HT.out]; exact hlb) hm
      obtain ⟨m, hmm⟩ : ∃ m, m = padM k (4 + v.size) := ⟨_, rfl⟩
      have hTm : T = k * m := by rw [HT.out, hmm, Nat.mul_comm]
      have hm1 : 1 ≤ m := by
        rcases Nat.eq_zero_or_pos m with h | h
        · rw [h] at hTm; omega
        · exact h
      have hm7 : m ≤ T := by rw [hTm]; exact Nat.le_mul_of_pos_left m (by omega)
      have hT6 : T ≤ 600 := by omega
      have hLm : L.length ≤ 600 := Nat.le_trans hlb hT6
      have hm6 : m ≤ 600 := Nat.le_trans hm7 hT6
      have hq : wrap64 ((L.length : Int) / (k : Int)) = (m : Int) := by
        rw [hLT, hTm]
        have : ((k * m : Nat) : Int) / (k : Int) = (m : Int) := by
          rw [Int.natCast_mul, Int.mul_ediv_cancel_left _ (by omega)]
        rw [this]
        exact wrap_id _ (by omega) (by omega)
      have HLT := Lib.hid hLT
      have HTm := Lib.hid hTm
      have Hmm := Lib.hid hmm
      have Hq := Lib.hid hq
      have hcap := hO.cap
      have hcm := hO.capmax
      unfold maxLen at hcm
      clear hLT hTm hmm hq
      gi_wp2_with fail
      rw [Hq.out]
      refine (callsIn_wide.2 (chunk_any (some ⟨ga, 0, none⟩) L.length c m hm1 _)).mono ?_
      rintro e w3 ⟨rfl, hw3⟩
      gi_wp2
      rw [← hw3]
      have hz3 : w3.heap.size = wr.heap.size + 3 := by rw [hw3]; simp
      have hsw := hB.size
      have hb3 : Below wr.heap.size wr w3 := by rw [hw3]; exact (((Below.refl _ _).alloc (Nat.le_refl _) _).alloc (by simp) _).alloc (by simp; omega) _
      have hk6 : w3.heap[wr.heap.size]? = some (.cells #[.slice none 0 0] 111) := by
        rw [hw3]; exact (heap_alloc_old _ _ (by simp; omega)).trans ((heap_alloc_old _ _ (by simp)).trans (heap_alloc_new _ _))
      have hks : w3.heap[wr.heap.size + 1]? = some (.cells #[.slice (some ⟨ga, 0, none⟩) L.length c] 67) := by
        rw [hw3]
        have := heap_alloc_new (wr.alloc (.cells #[.slice none 0 0] 111)) (.cells #[.slice (some ⟨ga, 0, none⟩) L.length c] 67)
        rw [World.size_alloc] at this
        exact (heap_alloc_old _ _ (by simp)).trans this
      have hkn : w3.heap[wr.heap.size + 2]? = some (.cells #[.int .i64 (m : Int)] 3) := by
        rw [hw3]
        have := heap_alloc_new ((wr.alloc (.cells #[.slice none 0 0] 111)).alloc (.cells #[.slice (some ⟨ga, 0, none⟩) L.length c] 67)) (.cells #[.int .i64 (m : Int)] 3)
        rw [World.size_alloc, World.size_alloc] at this
        exact this
      have hTL : L.length = k * m := by rw [HLT.out, HTm.out]
      have HTL := Lib.hid hTL
      rw [hTL] at hks
      have Hst := Lib.hid (chunk_stops Fence.wide 5 trivial rfl (by decide) ⟨ga, 0, none⟩ k m c hk1 hm1 (by rw [← hTL]; omega) (by rw [← hTL]; exact hcap) hcm (wr.heap.size + 1) (wr.heap.size + 2) w3 (by omega) hks hkn)
      have hP0 : PiecesAt W w3.heap.size wr.heap.size m (some ⟨ga, 0, none⟩) L 0 w3 := ⟨[], none, 0, rfl, hk6, Own.nil _ _ _ _, fun x hx => (by cases hx), hO.rd.below hb3 (Nat.le_refl _), Nat.le_refl _, hB.trans (hb3.mono hsw)⟩
      clear hw3 hTL
      refine wpIn_rangeFunc_ownF rfl (by decide) (gf := 278) (lb := #[.pointer (some ⟨wr.heap.size + 1, 0, none⟩), .pointer (some ⟨wr.heap.size + 2, 0, none⟩)]) rfl trivial (enters_of Tryz.func278 (by kernel_rfl) rfl)
        Hst.out (fun h1 h2 => ⟨h2.1.trans h1.1, h2.2.trans h1.2⟩) (fun w l o o' hl _ _ _ => ⟨World.putObj_heap_other (by omega), World.putObj_heap_other (by omega)⟩) (Below.refl _ _) (fun _ => rfl)
        (fun pre w => PiecesAt W w3.heap.size wr.heap.size m (some ⟨ga, 0, none⟩) L pre.length w)
        (fun _ _ _ => False)
        (PiecesAt.from W _ _ _ _ _ k _ (by omega))
        (fun _ _ _ _ _ hs _ _ => hs)
        hP0
        ?a1 ?assign ?body ?done ?stop
      case assign =>
        intro l x W2 K hK
        have hsem := @Oper.semAt_some
        gi_wp2
        exact hK
      case body =>
        rintro l pre x W2 ⟨xs, B, d, hxl, hbox, hOx, hX, hRL, hT3, hBW⟩ hlt
        have Hxl := Lib.hid hxl
        have hxk : xs.length < k := by omega
        clear hxl
        have HOx := Lib.hid hOx
        have hw6 : wr.heap.size < W2.heap.size := by omega
        have hsem := @Oper.semAt_some
        have hmx : Tryz.prog.follows .mixedOrders = true := by kernel_rfl
        have b0 : W2.cell? ⟨wr.heap.size, 0, none⟩ = some (.slice B xs.length d) := cob hbox 0 rfl
        have bf : W2.frozen? ⟨wr.heap.size, 0, none⟩ = false := by simp [World.frozen?, hbox]
        have hjm : x.val * m + m ≤ L.length := by
          have h1 : (x.val + 1) * m ≤ k * m := Nat.mul_le_mul_right _ x.isLt
          rw [Nat.add_mul, Nat.one_mul] at h1
          rw [HTL.out]; exact h1
        have hpl : ((L.drop (x.val * m)).take m).length = m := by rw [List.length_take, List.length_drop]; omega
        have hpr : RdB W2 (some ((⟨ga, 0, none⟩ : Addr).add (x.val * m))) ((L.drop (x.val * m)).take m) := (RdB.drop hRL _).take m
        rw [show (⟨ga, 0, none⟩ : Addr).add (x.val * m) = ⟨ga, x.val * m, none⟩ by rw [Addr.add_lit, Nat.zero_add]] at hpr
        have HpB := Lib.hid (show Bytes ((L.drop (x.val * m)).take m) from fun y hy => hLb y (List.mem_of_mem_drop (List.mem_of_mem_take hy)))
        have HAq := Lib.hid (show ∀ q, blk (some (⟨ga, 0, none⟩ : Addr)) = some q → q < w3.heap.size ∧ q ≠ wr.heap.size from fun q hq => by have := (hO.lt q hq).2; omega)
        have Hcl := Lib.hid (fun (w : World) (hw : w.heap = W2.heap) => (callsIn_wide (n := 3)).2 (clone_n (some ⟨ga, x.val * m, none⟩) ((L.drop (x.val * m)).take m) m m hpl (by omega) w (hpr.of_block (fun k _ => by rw [hw]))))
        have hf3' : (Fence.wide.inRound l).fn 47 := trivial
        unfold piece
        gi_wp2
        refine wpIn_region_any hmx ?_
        change wpAnyIn _ _ _ _ _ _ _ _ _ (World.drew _)
        refine wpAnyIn_ready (rs := [0, 1]) (by kernel_rfl) (by simp) ?_
        refine AllReadyIn.cons rfl (fun K hK => ?_) ?_
        · go_simp
          refine hK _ _ ?_
          clear hK K
          refine wpAnyIn_ready (rs := [1]) (by kernel_rfl) (by simp) ?_
          refine AllReadyIn.cons rfl (fun K hK => ?_) ?_
          · go_simp
            refine hK _ _ ?_
            clear hK K
            refine wpAnyIn_ready (rs := [2]) (by kernel_rfl) (by simp) ?_
            refine AllReadyIn.cons rfl (fun K hK => ?_) ?_
            · go_simp
              refine (CallsIn.inRound l (Hcl.out W2.drew rfl)).mono ?_
              rintro e w4 ⟨L4, A4, c4, hL4, rfl, hO4, hc4, hb4'⟩
              refine hK _ _ ?_
              clear hK K
              have hb4 : Below W2.heap.size W2 w4 := below_undrew hb4'
              have hs4 := hb4.size
              have hk4 := (hb4.block wr.heap.size hw6).trans hbox
              have b4 : w4.cell? ⟨wr.heap.size, 0, none⟩ = some (.slice B xs.length d) := cob hk4 0 rfl
              have hw64 : wr.heap.size < w4.heap.size := by omega
              have HO4 := Lib.hid hO4
              have HL4 := Lib.hid (hL4.out)
              clear hO4 hL4
              refine wpAnyIn_ready (rs := [3]) (by kernel_rfl) (by simp) ?_
              refine AllReadyIn.cons rfl (fun K hK => ?_) ?_
              · go_simp
                refine hK _ _ ?_
                clear hK K
                refine wpAnyIn_ready (rs := [4]) (by kernel_rfl) (by simp) ?_
                refine AllReadyIn.cons rfl (fun K hK => ?_) ?_
                · refine stepIn_append_one slv _ slv_one (fun _ => trivial) rfl (.tmp 25) (.tmp 28) _ rfl w3.heap.size 67 i1 _ 24 Tryz.underlying111 hi1 hy0 hy1 hy2 rfl B d xs rfl ((HOx.out.below hb4 (Nat.le_refl _)).alloc _) _ _ (A4, c4, L4) rfl (cell_alloc_one _ _ _ _ rfl) (by unfold maxLen; omega) (by omega) (by simp; omega) ?_
                  intro X6 A6 c6 w6 hX6 hO6 hb6 hg6 ha6
                  refine hK _ _ ?_
                  clear hK K
                  have hk5 := (heap_alloc_old w4 (.cells #[.slice A4 L4.length c4] 67) hw64).trans hk4
                  have hk6 := (hb6.block wr.heap.size (by omega)).trans hk5
                  have bb : w6.cell? ⟨wr.heap.size, 0, none⟩ = some (.slice B xs.length d) := cob hk6 0 rfl
                  have bg : w6.frozen? ⟨wr.heap.size, 0, none⟩ = false := by simp [World.frozen?, hk6]
                  refine wpAnyIn_ready (rs := [5]) (by kernel_rfl) (by simp) ?_
                  refine AllReadyIn.cons rfl (fun K hK => ?_) ?_
                  · go_simp
                    refine hK _ _ ?_
                    clear hK K
                    refine wpAnyIn_done (by kernel_rfl) ?_ _
                    have hL4l : L4.length = m := by rw [HL4.out]; exact hpl
                    have hst := pieces_step (m := m) (bs := wr.heap.size + 1) (bn := wr.heap.size + 2) hbox HOx.out hX hRL HAq.out hT3 hBW hsw (by omega) (by omega) (by omega) hb4 HO4.out hL4l (by rw [HL4.out]; exact HpB.out) hO6 hX6.out hg6 ha6
                    refine ⟨hst.1, hst.2.1, ?_⟩
                    show PiecesAt W w3.heap.size wr.heap.size m (some ⟨ga, 0, none⟩) L (pre ++ [x]).length _
                    rw [List.length_append, ← Hxl.out]
                    exact hst.2.2
                  exact AllReadyIn.nil
                exact AllReadyIn.nil
              exact AllReadyIn.nil
            exact AllReadyIn.nil
          exact AllReadyIn.nil
        refine AllReadyIn.cons rfl (fun K hK => ?_) ?_
        · go_simp
          refine hK _ _ ?_
          clear hK K
          refine wpAnyIn_ready (rs := [0, 2]) (by kernel_rfl) (by simp) ?_
          refine AllReadyIn.cons rfl (fun K hK => ?_) ?_
          · go_simp
            refine hK _ _ ?_
            clear hK K
            refine wpAnyIn_ready (rs := [2]) (by kernel_rfl) (by simp) ?_
            refine AllReadyIn.cons rfl (fun K hK => ?_) ?_
            · go_simp
              refine (CallsIn.inRound l (Hcl.out W2.drew rfl)).mono ?_
              rintro e w4 ⟨L4, A4, c4, hL4, rfl, hO4, hc4, hb4'⟩
              refine hK _ _ ?_
              clear hK K
              have hb4 : Below W2.heap.size W2 w4 := below_undrew hb4'
              have hs4 := hb4.size
              have hk4 := (hb4.block wr.heap.size hw6).trans hbox
              have b4 : w4.cell? ⟨wr.heap.size, 0, none⟩ = some (.slice B xs.length d) := cob hk4 0 rfl
              have hw64 : wr.heap.size < w4.heap.size := by omega
              have HO4 := Lib.hid hO4
              have HL4 := Lib.hid (hL4.out)
              clear hO4 hL4
              refine wpAnyIn_ready (rs := [3]) (by kernel_rfl) (by simp) ?_
              refine AllReadyIn.cons rfl (fun K hK => ?_) ?_
              · go_simp
                refine hK _ _ ?_
                clear hK K
                refine wpAnyIn_ready (rs := [4]) (by kernel_rfl) (by simp) ?_
                refine AllReadyIn.cons rfl (fun K hK => ?_) ?_
                · refine stepIn_append_one slv _ slv_one (fun _ => trivial) rfl (.tmp 25) (.tmp 28) _ rfl w3.heap.size 67 i1 _ 24 Tryz.underlying111 hi1 hy0 hy1 hy2 rfl B d xs rfl ((HOx.out.below hb4 (Nat.le_refl _)).alloc _) _ _ (A4, c4, L4) rfl (cell_alloc_one _ _ _ _ rfl) (by unfold maxLen; omega) (by omega) (by simp; omega) ?_
                  intro X6 A6 c6 w6 hX6 hO6 hb6 hg6 ha6
                  refine hK _ _ ?_
                  clear hK K
                  have hk5 := (heap_alloc_old w4 (.cells #[.slice A4 L4.length c4] 67) hw64).trans hk4
                  have hk6 := (hb6.block wr.heap.size (by omega)).trans hk5
                  have bb : w6.cell? ⟨wr.heap.size, 0, none⟩ = some (.slice B xs.length d) := cob hk6 0 rfl
                  have bg : w6.frozen? ⟨wr.heap.size, 0, none⟩ = false := by simp [World.frozen?, hk6]
                  refine wpAnyIn_ready (rs := [5]) (by kernel_rfl) (by simp) ?_
                  refine AllReadyIn.cons rfl (fun K hK => ?_) ?_
                  · go_simp
                    refine hK _ _ ?_
                    clear hK K
                    refine wpAnyIn_done (by kernel_rfl) ?_ _
                    have hL4l : L4.length = m := by rw [HL4.out]; exact hpl
                    have hst := pieces_step (m := m) (bs := wr.heap.size + 1) (bn := wr.heap.size + 2) hbox HOx.out hX hRL HAq.out hT3 hBW hsw (by omega) (by omega) (by omega) hb4 HO4.out hL4l (by rw [HL4.out]; exact HpB.out) hO6 hX6.out hg6 ha6
                    refine ⟨hst.1, hst.2.1, ?_⟩
                    show PiecesAt W w3.heap.size wr.heap.size m (some ⟨ga, 0, none⟩) L (pre ++ [x]).length _
                    rw [List.length_append, ← Hxl.out]
                    exact hst.2.2
                  exact AllReadyIn.nil
                exact AllReadyIn.nil
              exact AllReadyIn.nil
            exact AllReadyIn.nil
          refine AllReadyIn.cons rfl (fun K hK => ?_) ?_
          · go_simp
            refine (CallsIn.inRound l (Hcl.out W2.drew rfl)).mono ?_
            rintro e w4 ⟨L4, A4, c4, hL4, rfl, hO4, hc4, hb4'⟩
            refine hK _ _ ?_
            clear hK K
            have hb4 : Below W2.heap.size W2 w4 := below_undrew hb4'
            have hs4 := hb4.size
            have hk4 := (hb4.block wr.heap.size hw6).trans hbox
            have b4 : w4.cell? ⟨wr.heap.size, 0, none⟩ = some (.slice B xs.length d) := cob hk4 0 rfl
            have hw64 : wr.heap.size < w4.heap.size := by omega
            have HO4 := Lib.hid hO4
            have HL4 := Lib.hid (hL4.out)
            clear hO4 hL4
            refine wpAnyIn_ready (rs := [0, 3]) (by kernel_rfl) (by simp) ?_
            refine AllReadyIn.cons rfl (fun K hK => ?_) ?_
            · go_simp
              refine hK _ _ ?_
              clear hK K
              refine wpAnyIn_ready (rs := [3]) (by kernel_rfl) (by simp) ?_
              refine AllReadyIn.cons rfl (fun K hK => ?_) ?_
              · go_simp
                refine hK _ _ ?_
                clear hK K
                refine wpAnyIn_ready (rs := [4]) (by kernel_rfl) (by simp) ?_
                refine AllReadyIn.cons rfl (fun K hK => ?_) ?_
                · refine stepIn_append_one slv _ slv_one (fun _ => trivial) rfl (.tmp 25) (.tmp 28) _ rfl w3.heap.size 67 i1 _ 24 Tryz.underlying111 hi1 hy0 hy1 hy2 rfl B d xs rfl ((HOx.out.below hb4 (Nat.le_refl _)).alloc _) _ _ (A4, c4, L4) rfl (cell_alloc_one _ _ _ _ rfl) (by unfold maxLen; omega) (by omega) (by simp; omega) ?_
                  intro X6 A6 c6 w6 hX6 hO6 hb6 hg6 ha6
                  refine hK _ _ ?_
                  clear hK K
                  have hk5 := (heap_alloc_old w4 (.cells #[.slice A4 L4.length c4] 67) hw64).trans hk4
                  have hk6 := (hb6.block wr.heap.size (by omega)).trans hk5
                  have bb : w6.cell? ⟨wr.heap.size, 0, none⟩ = some (.slice B xs.length d) := cob hk6 0 rfl
                  have bg : w6.frozen? ⟨wr.heap.size, 0, none⟩ = false := by simp [World.frozen?, hk6]
                  refine wpAnyIn_ready (rs := [5]) (by kernel_rfl) (by simp) ?_
                  refine AllReadyIn.cons rfl (fun K hK => ?_) ?_
                  · go_simp
                    refine hK _ _ ?_
                    clear hK K
                    refine wpAnyIn_done (by kernel_rfl) ?_ _
                    have hL4l : L4.length = m := by rw [HL4.out]; exact hpl
                    have hst := pieces_step (m := m) (bs := wr.heap.size + 1) (bn := wr.heap.size + 2) hbox HOx.out hX hRL HAq.out hT3 hBW hsw (by omega) (by omega) (by omega) hb4 HO4.out hL4l (by rw [HL4.out]; exact HpB.out) hO6 hX6.out hg6 ha6
                    refine ⟨hst.1, hst.2.1, ?_⟩
                    show PiecesAt W w3.heap.size wr.heap.size m (some ⟨ga, 0, none⟩) L (pre ++ [x]).length _
                    rw [List.length_append, ← Hxl.out]
                    exact hst.2.2
                  exact AllReadyIn.nil
                exact AllReadyIn.nil
              exact AllReadyIn.nil
            refine AllReadyIn.cons rfl (fun K hK => ?_) ?_
            · go_simp
              refine hK _ _ ?_
              clear hK K
              refine wpAnyIn_ready (rs := [0]) (by kernel_rfl) (by simp) ?_
              refine AllReadyIn.cons rfl (fun K hK => ?_) ?_
              · go_simp
                refine hK _ _ ?_
                clear hK K
                refine wpAnyIn_ready (rs := [4]) (by kernel_rfl) (by simp) ?_
                refine AllReadyIn.cons rfl (fun K hK => ?_) ?_
                · refine stepIn_append_one slv _ slv_one (fun _ => trivial) rfl (.tmp 25) (.tmp 28) _ rfl w3.heap.size 67 i1 _ 24 Tryz.underlying111 hi1 hy0 hy1 hy2 rfl B d xs rfl ((HOx.out.below hb4 (Nat.le_refl _)).alloc _) _ _ (A4, c4, L4) rfl (cell_alloc_one _ _ _ _ rfl) (by unfold maxLen; omega) (by omega) (by simp; omega) ?_
                  intro X6 A6 c6 w6 hX6 hO6 hb6 hg6 ha6
                  refine hK _ _ ?_
                  clear hK K
                  have hk5 := (heap_alloc_old w4 (.cells #[.slice A4 L4.length c4] 67) hw64).trans hk4
                  have hk6 := (hb6.block wr.heap.size (by omega)).trans hk5
                  have bb : w6.cell? ⟨wr.heap.size, 0, none⟩ = some (.slice B xs.length d) := cob hk6 0 rfl
                  have bg : w6.frozen? ⟨wr.heap.size, 0, none⟩ = false := by simp [World.frozen?, hk6]
                  refine wpAnyIn_ready (rs := [5]) (by kernel_rfl) (by simp) ?_
                  refine AllReadyIn.cons rfl (fun K hK => ?_) ?_
                  · go_simp
                    refine hK _ _ ?_
                    clear hK K
                    refine wpAnyIn_done (by kernel_rfl) ?_ _
                    have hL4l : L4.length = m := by rw [HL4.out]; exact hpl
                    have hst := pieces_step (m := m) (bs := wr.heap.size + 1) (bn := wr.heap.size + 2) hbox HOx.out hX hRL HAq.out hT3 hBW hsw (by omega) (by omega) (by omega) hb4 HO4.out hL4l (by rw [HL4.out]; exact HpB.out) hO6 hX6.out hg6 ha6
                    refine ⟨hst.1, hst.2.1, ?_⟩
                    show PiecesAt W w3.heap.size wr.heap.size m (some ⟨ga, 0, none⟩) L (pre ++ [x]).length _
                    rw [List.length_append, ← Hxl.out]
                    exact hst.2.2
                  exact AllReadyIn.nil
                exact AllReadyIn.nil
              exact AllReadyIn.nil
            exact AllReadyIn.nil
          exact AllReadyIn.nil
        exact AllReadyIn.nil
      case done =>
        rintro D ys W2 hD hys ⟨xs, B, d, hxl, hbox, hOx, hX, hRL, hT3, hBW⟩ hK
        have b0 : W2.cell? ⟨wr.heap.size, 0, none⟩ = some (.slice B xs.length d) := cob hbox 0 rfl
        have Hxl := Lib.hid hxl
        clear hxl
        gi_wp2
        refine ⟨by simp, .inl ⟨_, _, rfl, run_takeDeferred hK, ?_⟩⟩
        have hg := grownBy_putObj' W2 D (.deferred none)
        have hr : ∀ r, some D = some r → ∃ o : Go.Obj, W2.heap[r]? = some o ∧ o.isCells = false := fun r e => by cases e; exact ⟨_, hK, rfl⟩
        refine ⟨_, results_tmp rfl _ _ _, xs, B, d, Lib.hid (Hxl.out.trans hys), rfl, (own_keep hg hr hOx).rd, fun x hx => ⟨by rw [← Hmm.out]; exact (hX x hx).1, ⟨rdb_keep hg hr (hX x hx).2.1.1, (hX x hx).2.1.2⟩⟩, ?_⟩
        exact hBW.trans (belowK_b (w := w3) (by omega) W2 D _ _ hD hK rfl rfl)
      case stop =>
        rintro D cc pre W2 _ _ h _
        exact h.elim
    · have hlt : L.length < T := by rw [HT.out]; exact pad_step (by rw [← HT.out]; exact hlb) hm
      have hqn : ((L.length : Int) % (k : Int) = 0) = False := by
        rw [show (L.length : Int) % (k : Int) = ((L.length % k : Nat) : Int) from rfl]
        simp only [eq_iff_iff, iff_false]; omega
      have hL6 : L.length < 600 := by have := HT.out; omega
      have hs1 : W.heap.size ≤ wr.heap.size := hB.size
      have hOa := hO.alloc (.cells #[.int .u8 0] 5)
      have hBa := hB.alloc hs1 (.cells #[.int .u8 0] 5)
      have hR0 : RdB (wr.alloc (.cells #[.int .u8 0] 5)) (some ⟨wr.heap.size, 0, none⟩) [0] := by
        intro _; refine ⟨_, rfl, fun j hj => ?_⟩
        obtain rfl : j = 0 := by simpa using hj
        exact cell_alloc_one _ _ _ _ rfl
      gi_wp2_with (gi_at_builtin; (refine wpListIn_append_bytes _ rfl (.tmp 15) (.tmp 16) _ rfl W.heap.size 5 i0 Tryz.underlying67 hi hz0 hz1 hz2 _ _ L rfl hOa _ _ _ [0] rfl rfl hR0 (by simp; omega) (by simp; omega) ?_; intro L2 A2 c2 w2 HL ho2 hb2))
      have hl2 : L2.length = L.length + 1 := by rw [HL.out]; simp
      have hLb2 : Bytes L2 := by
        rw [HL.out]; intro x hx
        rcases List.mem_append.1 hx with h | h
        · exact hLb x h
        · rw [List.mem_singleton.1 h]; decide
      go_roundw
      case rel => exact ⟨L2, A2, c2, rfl, by omega, by omega, hLb2, ho2, hBa.trans hb2⟩
      case measure => simp [slLen, hl2]; omega
def BoxK (W0 : World) (s : Shp) (w : World) : Prop := Below W0.heap.size W0 w ∧ W0.heap.size < w.heap.size ∧ w.heap[W0.heap.size]? = some (.cells #[.int .i64 (s.K : Int), .int .i64 (s.F : Int)] 25)
theorem BoxK.next {W0 w w' : World} {s : Shp} (h : BoxK W0 s w) (hb : Below w.heap.size w w') : BoxK W0 s w' :=
  ⟨below_next h.1 hb, Nat.lt_of_lt_of_le h.2.1 hb.size, (hb.block _ h.2.1).trans h.2.2⟩
theorem BoxK.c0 {W0 w : World} {s : Shp} (h : BoxK W0 s w) : w.cell? ⟨W0.heap.size, 0, none⟩ = some (.int .i64 (s.K : Int)) := cob h.2.2 0 rfl
theorem BoxK.c1 {W0 w : World} {s : Shp} (h : BoxK W0 s w) : w.cell? ⟨W0.heap.size, 1, none⟩ = some (.int .i64 (s.F : Int)) := cob h.2.2 1 rfl
def shardN (s : Shp) (n : Nat) : Nat := padM s.K (4 + n)
theorem shardN_le {s : Shp} (h : s.Ok) {n : Nat} (hn : n ≤ 512) : shardN s n ≤ 516 := by
  unfold shardN
  have h1 := (pad_le (k := s.K) (n := 4 + n) h.k1).2
  rcases Nat.eq_or_lt_of_le h.k1 with h2 | h2
  · rw [← h2] at h1 ⊢
    omega
  · have h3 : padM s.K (4 + n) * 2 ≤ padM s.K (4 + n) * s.K := Nat.mul_le_mul_left _ h2
    have := h.n7
    omega
theorem shardN_pos {s : Shp} (h : s.Ok) {n : Nat} : 1 ≤ shardN s n := by
  have h1 := (pad_le (k := s.K) (n := 4 + n) h.k1).1
  rcases Nat.eq_zero_or_pos (padM s.K (4 + n)) with h2 | h2
  · rw [h2] at h1; omega
  · exact h2
theorem encode_any (s : Shp) (hs : s.Ok) (v : ByteArray) (hv : v.size ≤ 512) (W : World) :
    Calls Tryz.prog 176 #[shv s, .string v] W fun e W' => ∃ (xs : List Sl) (B : Option Addr) (d : Nat), Hid (xs.length = s.n) ∧ e = .returned (.tuple #[.slice B xs.length d, .int .i64 0]) ∧ Rd slv W' B xs ∧ RowsOk W' (shardN s v.size) xs ∧ Below W.heap.size W W' := by
  have Hr := Lib.hid (fun w => cright_yes s hs w)
  have Hn := Lib.hid (fun w => cn_any s hs w)
  have Hc := Lib.hid (fun w => coding_any s.K s.n hs.k1 (by unfold Shp.n; omega) hs.n7 w)
  have Hp := Lib.hid (fun w => pieces_any s.K hs.k1 (by have := hs.n7; omega) v hv w)
  have Hm := Lib.hid (fun us vs ha hb A0 B0 ca cb w => mmul_any s.n s.K (shardN s v.size) (by have := hs.k1; unfold Shp.n; omega) hs.n7 hs.k1 (by have := hs.n7; omega) (shardN_pos hs) (Nat.le_trans (shardN_le hs hv) (by omega)) us vs ha hb A0 B0 ca cb w)
  have h512 : decide ((v.size : Int) > 512) = false := by simp; omega
  have hB0 : BoxK W s (W.alloc (.cells #[.int .i64 (s.K : Int), .int .i64 (s.F : Int)] 25)) := ⟨(Below.refl W.heap.size W).alloc (Nat.le_refl _) _, by simp, heap_alloc_new _ _⟩
  unfold shv at Hr Hn ⊢
  obtain ⟨w0, hw0⟩ : ∃ w0, w0 = W.alloc (.cells #[.int .i64 (s.K : Int), .int .i64 (s.F : Int)] 25) := ⟨_, rfl⟩
  rw [← hw0] at hB0
  have c0 := hB0.c0
  have c1 := hB0.c1
  go_enter Tryz.func176, Tryz.ntmps176
  go_wp2_with fail
  rw [← hw0]
  clear hw0
  go_wp2_with (first | (go_at_call 57; refine (Hr.out _).mono ?_; rintro e w1 ⟨rfl, hb1⟩; have hB1 := hB0.next hb1; have d0 := hB1.c0; have d1 := hB1.c1))
  clear c0 c1 hb1
  have hBd : BoxK W s w1.drew := ⟨hB1.1.drew, hB1.2.1, hB1.2.2⟩
  go_region_held3 (fun w' => w'.cell? ⟨W.heap.size, 0, none⟩ = some (.int .i64 (s.K : Int)) ∧ w'.cell? ⟨W.heap.size, 1, none⟩ = some (.int .i64 (s.F : Int)))
    (first | exact HSm | exact HSp | exact HSc | exact HSn | exact ⟨d0, d1⟩)
    (first
      | (go_at_call 59; refine (Hn.out _).mono ?_; rintro e wn ⟨rfl, hbn⟩; have hBn : BoxK W s wn := (by first | exact hBp.next hbn | exact hBd.next hbn); have HSn := And.intro hBn.c0 hBn.c1; try have HPn := And.intro (HPp.1.below hbn (Nat.le_refl _)) (HPp.2.below hbn (Nat.le_refl _)))
      | (go_at_call 213; refine (Hc.out _).mono ?_; rintro e wc ⟨xc, Bc, dc, Hxc, rfl, hRc, hOc, hbc⟩; have hBc : BoxK W s wc := (by first | exact hBn.next hbc | exact hBp.next hbc); have HSc := And.intro hBc.c0 hBc.c1; have HCc := And.intro hRc hOc; try have HPc := And.intro (HPn.1.below hbc (Nat.le_refl _)) (HPn.2.below hbc (Nat.le_refl _)); try have HPc := And.intro (HPp.1.below hbc (Nat.le_refl _)) (HPp.2.below hbc (Nat.le_refl _)))
      | (go_at_call 214; refine (Hp.out _).mono ?_; rintro e wp ⟨xp, Bp, dp, Hxp, rfl, hRp, hOp, hbp⟩; have hBp : BoxK W s wp := (by first | exact hBc.next hbp | exact hBn.next hbp | exact hBd.next hbp); have HSp := And.intro hBp.c0 hBp.c1; have HPp := And.intro hRp hOp; try have HCp := And.intro (HCc.1.below hbp (Nat.le_refl _)) (HCc.2.below hbp (Nat.le_refl _)))
      | (go_at_call 212; refine (Hm.out xc xp Hxc.out Hxp.out Bc Bp dc dp _ (by first | exact HCp.1 | exact HCc.1) (by first | exact HCp.2 | exact HCc.2) (by first | exact HPc.1 | exact HPp.1) (by first | exact HPc.2 | exact HPp.2)).mono ?_; rintro e wm ⟨xm, Bm, dm, Hxm, rfl, hRm, hOm, hbm⟩; have hBm : BoxK W s wm := (by first | exact hBp.next hbm | exact hBc.next hbm); have HSm := And.intro hBm.c0 hBm.c1; have HRm := hRm.rd))
  all_goals (go_wp2; go_ret2; exact ⟨xm, Bm, dm, Hxm, rfl, HRm, hOm, hBm.1⟩)
structure Am where
  kind : Nat
  frm : Nat
  to : Nat
  ballot : Nat
  slot : Nat
  vslot : Nat
  vballot : Nat
  vorigin : Nat
def absM (m : Mg) : Am := ⟨m.kind, m.frm, m.to, m.ballot, m.slot, m.vote.slot, m.vote.ballot, m.vote.origin⟩
def accA (me b at_ o i : Nat) : Am := ⟨3, me, i, b, 0, at_, b, o⟩
def accL (me b at_ o : Nat) (acks : List Nat) (k : Nat) : List Am := ((List.range k).filter (fun i => !acks.contains i)).map (accA me b at_ o)
theorem accL_succ (me b at_ o : Nat) (acks : List Nat) (k : Nat) : accL me b at_ o acks (k + 1) = if acks.contains k then accL me b at_ o acks k else accL me b at_ o acks k ++ [accA me b at_ o k] := by
  unfold accL
  rw [List.range_succ, List.filter_append]
  by_cases h : acks.contains k <;> simp_all
theorem RdB.ltb {w : World} {A : Option Addr} {l : List Nat} (h : RdB w A l) (hl : 0 < l.length) : ∀ k, blk A = some k → k < w.heap.size := by
  obtain ⟨ad, rfl, hc⟩ := h hl
  intro k hk
  have := lt_of_cell (hc 0 hl)
  have e : ad.block = k := by simpa [blk] using hk
  rw [← e]
  simpa [Addr.add] using this
theorem strN_size {l : List Nat} : (strN l).size = l.length := by
  unfold strN
  rw [ByteArray.size, ← Array.length_toList, strOfNums_data]
  simp
def accM (me b k o j : Nat) (full : Bool) (y : ByteArray) : Mg := ⟨3, me, j, b, 0, ⟨k, b, o, full, y⟩⟩
theorem accM_ok {me b k o j : Nat} (full : Bool) {y : ByteArray} (h1 : me < 7) (h2 : j < 7) (hb1 : 1 ≤ b) (hb2 : b ≤ 2147483647) (hk : k < 64) (ho1 : 1 ≤ o) (ho2 : o ≤ b) (hy : y.size ≤ 520) : MgOk (accM me b k o j full y) :=
  ⟨h1, h2, hb1, hb2, Or.inr (Or.inr (Or.inl ⟨rfl, rfl, ⟨hk, hb1, hb2, ho1, ho2, hy⟩, rfl⟩))⟩
theorem accL_len (me b at_ o : Nat) (acks : List Nat) (k : Nat) : (accL me b at_ o acks k).length ≤ k := by
  unfold accL
  rw [List.length_map]
  exact Nat.le_trans (List.length_filter_le _ _) (by simp)
theorem ldaccepts_any (S : Nat → Prop) (P : Nat) (s : Shp) (hs : s.Ok) (me b : Nat) (hme : me < s.n) (hb1 : 1 ≤ b) (hb2 : b ≤ 2147483647) (ps : List Nat) (es : List Ent) (lead full : Bool) (W : World) (h : LdAt W S P s me b ps es lead) (hS : Lt S W) (k : Nat) (e0 : Ent) (hk : es[k]? = some e0) (hk64 : k < 64) (hv : e0.value.size ≤ 512) (ho1 : 1 ≤ e0.origin) (ho2 : e0.origin ≤ b) :
    Calls Tryz.prog 132 #[.pointer (some ⟨P, 0, none⟩), .int .i64 (k : Int), .bool full] W fun e W' => ∃ (L : List Mg) (A : Option Addr) (c : Nat), Hid (L.map absM = accL me b k e0.origin e0.acks s.n) ∧ (∀ m ∈ L, MgOk m) ∧ e = .returned (.slice A L.length c) ∧ OwnT mcells 133 11 W' W.heap.size A c L ∧ Below W.heap.size W W' := by
  have Henc := Lib.hid (fun w => encode_any s hs e0.value hv w)
  obtain ⟨i1, hi1, hy0, hy1, hy2⟩ := info_parts Tryz.infoM
  obtain ⟨MP, A, c, hP, sP, sM, sA, hM, hO, hE, _⟩ := h
  have hPl := hS P sP
  have hn7 : s.n ≤ 7 := hs.n7
  have hkl : k < es.length := (List.getElem?_eq_some_iff.1 hk).1
  have hke : es[k] = e0 := (List.getElem?_eq_some_iff.1 hk).2
  obtain ⟨g, rfl, _, hgl, hcl⟩ := hO.form (by omega)
  have q0 := hO.cell ecells_len k 0 hkl (.string e0.value) (by rw [hke]; rfl)
  rw [Nat.add_zero] at q0
  have q1 := hO.cell ecells_len k 1 hkl (.int .i64 (e0.origin : Int)) (by rw [hke]; rfl)
  have q2 := hO.cell ecells_len k 2 hkl (.map (some e0.map)) (by rw [hke]; rfl)
  have c0 : W.cell? ⟨P, 0, none⟩ = some (.int .i64 (s.K : Int)) := cob hP 0 rfl
  have c1 : W.cell? ⟨P, 1, none⟩ = some (.int .i64 (s.F : Int)) := cob hP 1 rfl
  have c5 : W.cell? ⟨P, 5, none⟩ = some (.slice (some ⟨g, 0, none⟩) es.length c) := cob hP 5 rfl
  obtain ⟨sE, _, hME⟩ := hE e0 (List.mem_of_getElem? hk)
  unfold shv at Henc
  unfold lcells at hP
  go_enter Tryz.func132, Tryz.ntmps132
  go_wp2_with fail
  obtain ⟨w0, hw0⟩ : ∃ w0, w0 = W.alloc (.cells #[.string e0.value, .int .i64 (e0.origin : Int), .map (some e0.map)] 217) := ⟨_, rfl⟩
  rw [← hw0]
  have hE0 := named_new hw0
  have hP0 := named_old hw0 hP
  have hb0 := named_below hw0
  have hs0 := named_size hw0
  clear hw0 c0 c1 c5 q0 q1 q2
  have d0 : w0.cell? ⟨P, 0, none⟩ = some (.int .i64 (s.K : Int)) := cob hP0 0 rfl
  have d1 : w0.cell? ⟨P, 1, none⟩ = some (.int .i64 (s.F : Int)) := cob hP0 1 rfl
  have p0 : w0.cell? ⟨W.heap.size, 0, none⟩ = some (.string e0.value) := cob hE0 0 rfl
  go_region_held3 (fun w' => w'.cell? ⟨P, 0, none⟩ = some (.int .i64 (s.K : Int)) ∧ w'.cell? ⟨P, 1, none⟩ = some (.int .i64 (s.F : Int)) ∧ w'.cell? ⟨W.heap.size, 0, none⟩ = some (.string e0.value))
    (first | exact HS1 | exact ⟨d0, d1, p0⟩)
    (first | (go_at_call 176; refine (Henc.out _).mono ?_; rintro e w1 ⟨xs, B1, e1, HX1, rfl, hR1, hX1, hb1'⟩; have hb1 : Below w0.heap.size w0 w1 := below_undrew hb1'; have hP1 := (hb1.block P (by omega)).trans hP0; have hE1 := (hb1.block W.heap.size (by omega)).trans hE0; have HS1 : _ ∧ _ := And.intro (cob hP1 0 (v := .int .i64 (s.K : Int)) rfl) (And.intro (cob hP1 1 (v := .int .i64 (s.F : Int)) rfl) (cob hE1 0 (v := .string e0.value) rfl))))
  have hs1 := hb1.size
  have hxl : xs.length = s.n := HX1.out
  have hxl2 : xs.length ≤ s.n ∧ s.n ≤ xs.length := by omega
  have hn1 : 1 ≤ s.n := by have := hs.k1; unfold Shp.n; omega
  obtain ⟨ab, rfl, hcb⟩ := hR1 (by omega)
  have HME := Lib.hid (hME.of_block (w' := w1) ((hb1.block _ (by have := hS _ sE; omega)).trans (hb0.block _ (hS _ sE))))
  have HX := Lib.hid hX1
  have Hcb := Lib.hid hcb
  have HB1 := Lib.hid (hb0.trans (hb1.mono (by omega)))
  have HL0 := Lib.hid (show ([] : List Mg).map absM = accL me b k e0.origin e0.acks 0 from rfl)
  clear hxl hcb hX1 hb0 hb1 hME d0 d1 p0
  go_wp2
  go_loopw [10, 33] (fun o i wr => ∃ (j : Nat) (L : List Mg) (A2 : Option Addr) (c2 : Nat), j ≤ s.n ∧ i = .int .i64 j ∧ o = .slice A2 L.length c2 ∧ Hid (L.map absM = accL me b k e0.origin e0.acks j) ∧ Hid (∀ m ∈ L, MgOk m) ∧ L.length ≤ j ∧ OwnT mcells 133 11 wr w1.heap.size A2 c2 L ∧ Below w1.heap.size w1 wr) (fun _ i _ => s.n - (intOf i).toNat)
  case atStart => exact ⟨0, [], none, 0, Nat.zero_le _, rfl, rfl, HL0, Lib.hid (fun m hm => (by cases hm)), Nat.le_refl _, OwnT.nil _ _ _ _ _, Below.refl _ _⟩
  case round =>
    obtain ⟨j, L, A2, c2, hj, rfl, rfl, hL, hLm, hlj, hO2, hB⟩ := hrel
    have hsw := hB.size
    by_cases hjn : j < s.n
    · have hcj := Hcb.out j (by omega)
      have hP3 := (hB.block P (by omega)).trans hP1
      have hE3 := (hB.block W.heap.size (by omega)).trans hE1
      have hM3 := HME.out.of_block (hB.block _ HME.out.lt)
      obtain ⟨xj, hxj⟩ : ∃ xj, xj = xs[j]'(by omega) := ⟨_, rfl⟩
      rw [← hxj] at hcj
      have hSj : SlOk wr xj := by rw [hxj]; exact (HX.out _ (List.getElem_mem _)).2.below hB (Nat.le_refl _)
      have hSl : xj.2.2.length = shardN s e0.value.size := by rw [hxj]; exact (HX.out _ (List.getElem_mem _)).1
      have hcj3 := (hB.cell (lt_of_cell hcj)).trans hcj
      have p2 : wr.cell? ⟨W.heap.size, 2, none⟩ = some (.map (some e0.map)) := cob hE3 2 rfl
      clear hxj hcj
      have hz : (zeroValue 4).run Tryz.prog wr = .ok (.bool false) wr := by kernel_rfl
      by_cases hac : j ∈ e0.acks
      · have hlk := hM3.look (P := Tryz.prog) (key := .int .i64 (j : Int)) Tryz.underlying215 Tryz.underlying3 rfl false (v := .bool true) (List.mem_map.2 ⟨j, hac, rfl⟩)
        simp only [Bool.false_eq_true, if_false] at hlk
        have HL2 := Lib.hid (show L.map absM = accL me b k e0.origin e0.acks (j + 1) by rw [hL.out, accL_succ, if_pos (by simpa using hac)])
        clear hL hac
        go_wp2
        go_roundw
        case rel => exact ⟨j + 1, L, A2, c2, by omega, by go_num, rfl, HL2, hLm, by omega, hO2, hB⟩
        case measure => simp [intOf]; omega
      · have hnot : ∀ q ∈ e0.acks.map akv, q.1 ≠ .int .i64 (j : Int) := by
          intro q hq e
          obtain ⟨g2, hg2, rfl⟩ := List.mem_map.1 hq
          injection e with _ e
          exact hac (by have : g2 = j := by omega
                        rwa [← this])
        have hlk := hM3.look_none (P := Tryz.prog) (key := .int .i64 (j : Int)) Tryz.underlying215 Tryz.underlying3 rfl false hnot hz
        simp only [Bool.false_eq_true, if_false] at hlk
        have Hac := Lib.hid hac
        clear hac hnot
        go_wp2
        obtain ⟨A3, c3, l3⟩ := xj
        simp only [slv] at hcj3 ⊢
        simp only at hSl
        have Hsl := Lib.hid hSl
        have hq2 : wr.cell? ⟨P, 2, none⟩ = some (.int .i64 (me : Int)) := cob hP3 2 rfl
        have hq3 : wr.cell? ⟨P, 3, none⟩ = some (.int .i64 (b : Int)) := cob hP3 3 rfl
        have HSS := Lib.hid (show ∀ w' : World, (∀ k, k < wr.heap.size → w'.heap[k]? = wr.heap[k]?) → w'.cell? ⟨P, 3, none⟩ = some (.int .i64 (b : Int)) ∧ w'.cell? ⟨W.heap.size, 1, none⟩ = some (.int .i64 (e0.origin : Int)) ∧ (convert 67 9 (.slice A3 l3.length c3)).run Tryz.prog w' = .ok (.string (strN l3)) w' from
          fun w' hw' => ⟨cob ((hw' P (by omega)).trans hP3) 3 rfl, cob ((hw' W.heap.size (by omega)).trans hE3) 1 rfl, run_conv_bytes w' _ _ 5 Tryz.underlying67 Tryz.underlying5 Tryz.underlying9 A3 l3 c3 (hSj.1.of_block fun k hk => hw' k (hSj.1.ltb (by rw [hSl]; exact shardN_pos hs) k hk))⟩)
        clear hSl
        go_region_held3 (fun w' => w'.cell? ⟨P, 3, none⟩ = some (.int .i64 (b : Int)) ∧ w'.cell? ⟨W.heap.size, 1, none⟩ = some (.int .i64 (e0.origin : Int)) ∧ (convert 67 9 (.slice A3 l3.length c3)).run Tryz.prog w' = .ok (.string (strN l3)) w')
          (first | exact HSS.out _ (fun k hk => rfl) | exact HSS.out _ (fun k hk => heap_alloc_old _ _ hk) | go_keep)
          (fail)
        have hyl : (strN l3).size ≤ 520 := by rw [strN_size, Hsl.out]; exact Nat.le_trans (shardN_le hs hv) (by omega)
        have hBa := ((Below.refl wr.heap.size wr).alloc (Nat.le_refl _) (.cells #[.int .i64 (k : Int), .int .i64 (b : Int), .int .i64 (e0.origin : Int), .bool full, .string (strN l3)] 62)).drew
        have hVa : (wr.alloc (.cells #[.int .i64 (k : Int), .int .i64 (b : Int), .int .i64 (e0.origin : Int), .bool full, .string (strN l3)] 62)).drew.heap[wr.heap.size]? = some (.cells #[.int .i64 (k : Int), .int .i64 (b : Int), .int .i64 (e0.origin : Int), .bool full, .string (strN l3)] 62) := heap_alloc_new _ _
        have hSa := HSS.out _ hBa.block
        have hXa : (wr.alloc (.cells #[.int .i64 (k : Int), .int .i64 (b : Int), .int .i64 (e0.origin : Int), .bool full, .string (strN l3)] 62)).drew.cell? ⟨W.heap.size, 0, none⟩ = some (.string e0.value) := cob ((hBa.block W.heap.size (by omega)).trans hE3) 0 rfl
        obtain ⟨w8, hw8⟩ : ∃ w8, w8 = (wr.alloc (.cells #[.int .i64 (k : Int), .int .i64 (b : Int), .int .i64 (e0.origin : Int), .bool full, .string (strN l3)] 62)).drew := ⟨_, rfl⟩
        rw [← hw8] at hBa hVa hSa hXa ⊢
        clear hw8
        have f4 : w8.frozen? ⟨wr.heap.size, 4, none⟩ = false := by simp [World.frozen?, hVa]
        have g4 : w8.cell? ⟨wr.heap.size, 4, none⟩ = some (.string (strN l3)) := cob hVa 4 rfl
        have ha0 := hSa.1
        have ha1 := hSa.2.1
        clear hSa
        have Hcore := Lib.hid (show ∀ (w9 : World) (y : ByteArray), y.size ≤ 520 → Below wr.heap.size wr w9 → w9.heap[wr.heap.size]? = some (.cells #[.int .i64 (k : Int), .int .i64 (b : Int), .int .i64 (e0.origin : Int), .bool full, .string y] 62) →
            w9.heap[P]? = some (.cells (#[.int .i64 (s.K : Int), .int .i64 (s.F : Int), .int .i64 (me : Int), .int .i64 (b : Int), .map (some MP), .slice (some ⟨g, 0, none⟩) es.length c, .bool lead, .bool false]) 207) ∧ OwnT mcells 133 11 w9 w1.heap.size A2 c2 L ∧ Below w1.heap.size w1 w9 ∧ wr.heap.size < w9.heap.size ∧ MgOk (accM me b k e0.origin j full y) ∧ (L ++ [accM me b k e0.origin j full y]).map absM = accL me b k e0.origin e0.acks (j + 1) from
          fun w9 y hy hB9 hV9 => ⟨(hB9.block P (by omega)).trans hP3, hO2.below hB9 (Nat.le_refl _), hB.trans (hB9.mono hsw), (Array.getElem?_eq_some_iff.1 hV9).1, accM_ok full (by omega) (by omega) hb1 hb2 hk64 ho1 ho2 hy, by
            rw [List.map_append, hL.out, accL_succ, if_neg (by simpa using Hac.out)]; rfl⟩)
        cases full
        · obtain ⟨y, hy⟩ : ∃ y, y = strN l3 := ⟨_, rfl⟩
          rw [← hy] at hyl hVa g4
          clear hy
          obtain ⟨hP9, hO9, hB9, hlt9, hok9, hab9⟩ := Hcore.out w8 y hyl hBa hVa
          go_wp2
          have HT := Lib.hid (show ∀ w' : World, (∀ q, q < w8.heap.size → (blk A2 ≠ some q) → w'.heap[q]? = w8.heap[q]?) → w'.cell? ⟨P, 2, none⟩ = some (.int .i64 (me : Int)) ∧ w'.cell? ⟨P, 3, none⟩ = some (.int .i64 (b : Int)) ∧ w'.cell? ⟨wr.heap.size, 0, none⟩ = some (.int .i64 (k : Int)) ∧ w'.cell? ⟨wr.heap.size, 1, none⟩ = some (.int .i64 (b : Int)) ∧ w'.cell? ⟨wr.heap.size, 2, none⟩ = some (.int .i64 (e0.origin : Int)) ∧ w'.cell? ⟨wr.heap.size, 3, none⟩ = some (.bool false) ∧ w'.cell? ⟨wr.heap.size, 4, none⟩ = some (.string y) from
            fun w' hw' => by
              have e1 := (hw' P (by omega) (fun e => by have := hO9.lt P e; omega)).trans hP9
              have e2 := (hw' wr.heap.size hlt9 (fun e => by have := hO2.lt wr.heap.size e; omega)).trans hVa
              exact ⟨cob e1 2 rfl, cob e1 3 rfl, cob e2 0 rfl, cob e2 1 rfl, cob e2 2 rfl, cob e2 3 rfl, cob e2 4 rfl⟩)
          have hT0 := HT.out w8 (fun _ _ _ => rfl)
          go_region_held3 (fun w' => w'.cell? ⟨P, 2, none⟩ = some (.int .i64 (me : Int)) ∧ w'.cell? ⟨P, 3, none⟩ = some (.int .i64 (b : Int)) ∧ w'.cell? ⟨wr.heap.size, 0, none⟩ = some (.int .i64 (k : Int)) ∧ w'.cell? ⟨wr.heap.size, 1, none⟩ = some (.int .i64 (b : Int)) ∧ w'.cell? ⟨wr.heap.size, 2, none⟩ = some (.int .i64 (e0.origin : Int)) ∧ w'.cell? ⟨wr.heap.size, 3, none⟩ = some (.bool false) ∧ w'.cell? ⟨wr.heap.size, 4, none⟩ = some (.string y))
            (first | exact HS4 | exact hT0 | exact HT.out _ (fun q hq _ => heap_alloc_old _ _ hq) | go_keep)
            (go_must (refine step_append_st mcells _ mcells_one (by rfl) _ _ _ (by rfl) w1.heap.size 133 i1 _ 11 112 mcells_len (by decide) Tryz.underlying127 hi1 hy0 hy1 hy2 (by rfl) _ _ L (by rfl) ((hO9.alloc _).drew) w8.heap.size _ (accM me b k e0.origin j false y) (0, 0) _ (by rfl) (heap_alloc_new _ _) (by unfold maxLen; omega) (by omega) (by have := hB9.size; simp; omega) ?_; intro X2 B4 d4 w4 hX2 ho4 hb4 hg4 ha4; have hgw := grown_undrew hg4; have hB4 : Below w1.heap.size w1 w4 := ((hB9.alloc hB9.size _).drew).trans hb4; have HS4 := HT.out w4 (fun q hq hn => (hg4.block q (by simp; omega) (fun e => hn e.symm)).trans (heap_alloc_old _ _ hq))))
          have hl4 : X2.length ≤ j + 1 := by rw [hX2.out, List.length_append]; simp; omega
          have hl5 : X2.map absM = accL me b k e0.origin e0.acks (j + 1) := by rw [hX2.out]; exact hab9
          have hl6 : ∀ m ∈ X2, MgOk m := by
            rw [hX2.out]; intro m hm
            rcases List.mem_append.1 hm with h | h
            · exact hLm.out m h
            · rw [List.mem_singleton.1 h]; exact hok9
          go_wp2
          go_roundw
          case rel => exact ⟨j + 1, X2, B4, d4, by omega, by go_num, rfl, Lib.hid hl5, Lib.hid hl6, hl4, ho4, hB4⟩
          case measure => simp [intOf]; omega
        · go_wp2
          obtain ⟨y, hy⟩ : ∃ y, y = e0.value := ⟨_, rfl⟩
          have hyl : y.size ≤ 520 := by rw [hy]; omega
          have hVb := heap_setCell_same w8 wr.heap.size 4 _ _ (.string e0.value) hVa
          have hBb := hBa.setCell (p := ⟨wr.heap.size, 4, none⟩) (Nat.le_refl _) (.string e0.value)
          obtain ⟨w9, hw9⟩ : ∃ w9, w9 = w8.setCell ⟨wr.heap.size, 4, none⟩ (.string e0.value) := ⟨_, rfl⟩
          rw [← hw9] at hVb hBb ⊢
          clear hw9
          rw [← hy] at hVb
          obtain ⟨hP9, hO9, hB9, hlt9, hok9, hab9⟩ := Hcore.out w9 y hyl hBb hVb
          clear hy
          have HT := Lib.hid (show ∀ w' : World, (∀ q, q < w9.heap.size → (blk A2 ≠ some q) → w'.heap[q]? = w9.heap[q]?) → w'.cell? ⟨P, 2, none⟩ = some (.int .i64 (me : Int)) ∧ w'.cell? ⟨P, 3, none⟩ = some (.int .i64 (b : Int)) ∧ w'.cell? ⟨wr.heap.size, 0, none⟩ = some (.int .i64 (k : Int)) ∧ w'.cell? ⟨wr.heap.size, 1, none⟩ = some (.int .i64 (b : Int)) ∧ w'.cell? ⟨wr.heap.size, 2, none⟩ = some (.int .i64 (e0.origin : Int)) ∧ w'.cell? ⟨wr.heap.size, 3, none⟩ = some (.bool true) ∧ w'.cell? ⟨wr.heap.size, 4, none⟩ = some (.string y) from
            fun w' hw' => by
              have e1 := (hw' P (by omega) (fun e => by have := hO9.lt P e; omega)).trans hP9
              have e2 := (hw' wr.heap.size hlt9 (fun e => by have := hO2.lt wr.heap.size e; omega)).trans hVb
              exact ⟨cob e1 2 rfl, cob e1 3 rfl, cob e2 0 rfl, cob e2 1 rfl, cob e2 2 rfl, cob e2 3 rfl, cob e2 4 rfl⟩)
          have hT0 := HT.out w9 (fun _ _ _ => rfl)
          go_region_held3 (fun w' => w'.cell? ⟨P, 2, none⟩ = some (.int .i64 (me : Int)) ∧ w'.cell? ⟨P, 3, none⟩ = some (.int .i64 (b : Int)) ∧ w'.cell? ⟨wr.heap.size, 0, none⟩ = some (.int .i64 (k : Int)) ∧ w'.cell? ⟨wr.heap.size, 1, none⟩ = some (.int .i64 (b : Int)) ∧ w'.cell? ⟨wr.heap.size, 2, none⟩ = some (.int .i64 (e0.origin : Int)) ∧ w'.cell? ⟨wr.heap.size, 3, none⟩ = some (.bool true) ∧ w'.cell? ⟨wr.heap.size, 4, none⟩ = some (.string y))
            (first | exact HS4 | exact hT0 | exact HT.out _ (fun q hq _ => heap_alloc_old _ _ hq) | go_keep)
            (go_must (refine step_append_st mcells _ mcells_one (by rfl) _ _ _ (by rfl) w1.heap.size 133 i1 _ 11 112 mcells_len (by decide) Tryz.underlying127 hi1 hy0 hy1 hy2 (by rfl) _ _ L (by rfl) ((hO9.alloc _).drew) w9.heap.size _ (accM me b k e0.origin j true y) (0, 0) _ (by rfl) (heap_alloc_new _ _) (by unfold maxLen; omega) (by omega) (by have := hB9.size; simp; omega) ?_; intro X2 B4 d4 w4 hX2 ho4 hb4 hg4 ha4; have hgw := grown_undrew hg4; have hB4 : Below w1.heap.size w1 w4 := ((hB9.alloc hB9.size _).drew).trans hb4; have HS4 := HT.out w4 (fun q hq hn => (hg4.block q (by simp; omega) (fun e => hn e.symm)).trans (heap_alloc_old _ _ hq))))
          have hl4 : X2.length ≤ j + 1 := by rw [hX2.out, List.length_append]; simp; omega
          have hl5 : X2.map absM = accL me b k e0.origin e0.acks (j + 1) := by rw [hX2.out]; exact hab9
          have hl6 : ∀ m ∈ X2, MgOk m := by
            rw [hX2.out]; intro m hm
            rcases List.mem_append.1 hm with h | h
            · exact hLm.out m h
            · rw [List.mem_singleton.1 h]; exact hok9
          go_wp2
          go_roundw
          case rel => exact ⟨j + 1, X2, B4, d4, by omega, by go_num, rfl, Lib.hid hl5, Lib.hid hl6, hl4, ho4, hB4⟩
          case measure => simp [intOf]; omega
    · obtain rfl : j = s.n := by omega
      go_wp2
      go_ret
      exact ⟨L, A2, c2, hL, hLm.out, rfl, hO2.low (by omega), HB1.out.trans (hB.mono (by omega))⟩
end Go.Proofs.YtoigogjmhkpdlaaGreat
