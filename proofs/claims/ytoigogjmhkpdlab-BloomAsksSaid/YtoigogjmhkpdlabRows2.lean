/- Rows of one-cell elements of whatever kind: a slice that reads as a list; a row of the call's own; appending one element; making one whole. Strings as bytes. -/
import Derived.Test.YtoigogjmhkpdlabWords
import Derived.Lib.AppendStr
import Derived.Lib.ConvBytes
import Derived.Laws.MakeOwn
namespace Go.Proofs.Ytoigogjmhkpdlab
open Go.RowKit

section
variable {α : Type}
/-- A slice's address (if it has one) reads as a list, element by element. -/
def Rd (mk : α → Value) (W : World) (A : Option Addr) (l : List α) : Prop :=
  0 < l.length → ∃ ad, A = some ad ∧ ∀ j (h : j < l.length), W.cell? (ad.add j) = some (mk l[j])
/-- A row of the call's own. -/
def Own (mk : α → Value) (e : TypeId) (w : World) (base : Nat) (A : Option Addr) (c : Nat) (l : List α) : Prop := w.ownsRow base e 1 (.slice A l.length c) l.length (l.map mk)
variable {mk : α → Value} {e : TypeId} {w w' : World} {base B c g : Nat} {A S T : Option Addr} {l : List α}
theorem Rd.nil (mk : α → Value) (W : World) (A : Option Addr) : Rd mk W A [] := fun h => absurd h (by simp)
theorem Rd.below (h : Rd mk w A l) (hb : Below B w w') (hB : w.heap.size ≤ B) : Rd mk w' A l := by
  intro hl
  obtain ⟨ad, rfl, hc⟩ := h hl
  exact ⟨ad, rfl, fun j hj => (hb.cell (Nat.lt_of_lt_of_le (lt_of_cell (hc j hj)) hB)).trans (hc j hj)⟩
theorem Rd.alloc (h : Rd mk w A l) (o : Obj) : Rd mk (w.alloc o) A l := h.below ((Below.refl w.heap.size w).alloc (Nat.le_refl _) o) (Nat.le_refl _)
theorem Rd.drewN (h : Rd mk w A l) (n : Nat) : Rd mk (w.drewN n) A l := h
theorem Rd.drew (h : Rd mk w A l) : Rd mk w.drew A l := h
theorem rd_lit (w : World) (cs : Array Value) (e : TypeId) (fr : Nat × Nat) (l : List α) (g : Nat) (hg : g = w.heap.size) (h : cs.toList = l.map mk) : Rd mk (w.alloc (.cells cs e fr)) (some ⟨g, 0, none⟩) l := by
  subst hg
  intro _
  refine ⟨_, rfl, fun j hj => ?_⟩
  have hh : (w.alloc (.cells cs e fr)).heap[w.heap.size]? = some (.cells cs e fr) := heap_alloc_new w _
  have hc : cs[j]? = some (mk l[j]) := by rw [← Array.getElem?_toList, h]; simp [hj]
  unfold Addr.add
  split
  · subst_vars; simp only [World.cell?, hh]; exact hc
  · simp only [World.cell?, hh]; simpa using hc
theorem Own.rd (h : Own mk e w base A c l) : Rd mk w A l := by
  intro hl
  rcases h.2 with ⟨_, h0⟩ | ⟨g, cap, cur, hv, _, _⟩
  · omega
  · have hA : A = some ⟨g, 0, none⟩ := by injection hv
    subst hA
    exact ⟨_, rfl, fun j hj => World.ownsRow.cells h rfl j (mk l[j]) (by simp [hj])⟩
theorem Own.nil (mk : α → Value) (e : TypeId) (w : World) (base : Nat) : Own mk e w base none 0 [] := World.ownsRow_nil w base e 1
theorem Own.lit (mk : α → Value) (e : TypeId) (w : World) (base : Nat) (cs : Array Value) (l : List α) (hb : base ≤ w.heap.size) (hm : l.length ≤ maxLen) (hs : cs.toList = l.map mk) :
    Own mk e (w.alloc (.cells cs e)) base (some ⟨w.heap.size, 0, none⟩) l.length l := by
  have h := World.ownsRow_lit (base := base) (e := e) (size := 1) w cs l.length hb hm (by rw [← Array.length_toList, hs]; simp)
  rw [hs] at h
  exact h
theorem Own.alloc (h : Own mk e w base A c l) (o : Obj) : Own mk e (w.alloc o) base A c l := World.ownsRow.alloc h o
theorem Own.drew (h : Own mk e w base A c l) : Own mk e w.drew base A c l := h
theorem Own.drewN (h : Own mk e w base A c l) (n : Nat) : Own mk e (w.drewN n) base A c l := h
theorem Own.below (h : Own mk e w base A c l) (hb : Below B w w') (hB : w.heap.size ≤ B) : Own mk e w' base A c l := by
  refine ⟨h.1, ?_⟩
  rcases h.2 with h0 | ⟨g, cap, cur, hv, hg, hh, hr⟩
  · exact .inl h0
  · refine .inr ⟨g, cap, cur, hv, hg, ?_, hr⟩
    have hlt : g < w.heap.size := by
      rcases Nat.lt_or_ge g w.heap.size with h' | h'
      · exact h'
      · rw [Array.getElem?_eq_none h'] at hh; cases hh
    rw [hb.block g (by omega)]; exact hh
theorem Own.form (h : Own mk e w base A c l) (hl : 0 < l.length) : ∃ g, A = some ⟨g, 0, none⟩ ∧ base ≤ g := by
  rcases h.2 with ⟨_, h0⟩ | ⟨g, cap, cur, hv, hb, _⟩
  · omega
  · have hA : A = some ⟨g, 0, none⟩ := by injection hv
    exact ⟨g, hA, hb⟩
theorem Own.cell (h : Own mk e w base (some ⟨g, 0, none⟩) c l) (j : Nat) (hj : j < l.length) : w.cell? ⟨g, j, none⟩ = some (mk l[j]) := by
  rw [World.ownsRow.cellAt h j (by omega)]
  simp [hj]
theorem Own.free (h : Own mk e w base (some ⟨g, 0, none⟩) c l) (j : Nat) : w.frozen? ⟨g, j, none⟩ = false := World.ownsRow.frozenAt h j
theorem Own.set (h : Own mk e w base (some ⟨g, 0, none⟩) c l) (j : Nat) (v : α) : Own mk e (w.setCell ⟨g, j, none⟩ (mk v)) base (some ⟨g, 0, none⟩) c (l.set j v) := by
  have := World.ownsRow.stored h j (mk v)
  unfold Own
  rw [List.length_set, List.map_set]
  exact this.1
theorem Own.far (h : Own mk e w base A c l) {p : Addr} (hp : p.block < base) (u : Value) : Own mk e (w.setCell p u) base A c l := ownsRow_setCell_below h hp u
theorem Own.lt (h : Own mk e w base A c l) : ∀ k, blk A = some k → base ≤ k ∧ k < w.heap.size := fun k hk => World.ownsRow.lt h k (by rw [ownBlock_blk]; exact hk)
theorem Own.kept (h : Own mk e w base A c l) (hg : w.grownBy w' (blk S)) (hd : Dist A S) : Own mk e w' base A c l :=
  World.ownsRow.kept h hg (by rw [ownBlock_blk]; exact hd)
theorem Dist.stepR (h : blk T = blk S ∨ blk T = some w.heap.size) (hd : Dist S A) (hB : Own mk e w base A c l) : Dist T A := by
  rcases h with h | h
  · unfold Dist; rw [h]; exact hd
  · refine .inr (fun e2 => ?_)
    have := (hB.lt w.heap.size (by rw [← e2, h])).2
    omega
end

section
variable {P : Program} {α : Type} (mk : α → Value) (w : World)
/-- 'append(out, x)': one element more. -/
theorem run_append_one (h1 : ∀ x, (mk x).oneCell' = true) (base : Nat) (t ty e : TypeId) (i : TypeInfo) (z : Value) (bsz : Nat) (ht : P.underlying t = some (.slice e)) (hi : P.info? e = some i) (hz : i.zero = some z)
    (hsize : i.size = 1) (hby : i.bytes = bsz) (hzs : z.cells.size = 1) (S : Option Addr) (d : Nat) (l : List α) (hown : Own mk e w base S d l)
    (ad : Addr) (c : Nat) (x : α) (hr : w.cell? ad = some (mk x)) (h63 : l.length + 1 ≤ maxLen) (hb : (l.length + 1) * bsz ≤ 140737488355328) (hbase : base ≤ w.heap.size) :
    ∃ A' c' w', (Builtin.append_ #[t, t] ty #[.slice S l.length d, .slice (some ad) 1 c]).run P w = .ok (.slice A' (l ++ [x]).length c') w' ∧ Own mk e w' base A' c' (l ++ [x]) ∧ Below base w w' ∧ w.grownBy w' (blk S) ∧ (blk A' = blk S ∨ blk A' = some w.heap.size) := by
  obtain ⟨v', w', hrun, h2, h3, _, h5⟩ := run_append_own_at (P := P) w base t ty e i z 1 bsz ht hi hz hsize hby hzs (by decide) (.slice S l.length d) l.length (l.map mk) hown ad 1 c [mk x] (by simp)
    (fun j u hu => by
      match j, hu with
      | 0, hu => simp at hu; subst hu; simpa [Addr.add] using hr) (fun u hu => by simp at hu; subst hu; exact h1 x)
    h63 hb hbase
  have hshape : ∃ A' c', v' = .slice A' (l ++ [x]).length c' := by
    rcases h2.2 with ⟨e1, e2⟩ | ⟨g, cap, cur, e1, _⟩
    · omega
    · exact ⟨_, _, by rw [e1, List.length_append]; rfl⟩
  obtain ⟨A', c', rfl⟩ := hshape
  rw [ownBlock_blk] at h3; rw [ownBlock_blk, ownBlock_blk] at h5
  refine ⟨A', c', w', hrun, ?_, ?_, h3, h5⟩
  · unfold Own; rw [List.map_append, List.length_append]; rw [List.length_append] at h2; exact h2
  · refine (Below.refl base w).grown h3 hbase fun k hk => ?_
    exact (World.ownsRow.lt hown k (by rw [ownBlock_blk]; exact hk)).1
theorem wpList_append_one (h1 : ∀ x, (mk x).oneCell' = true) {ops : Array Oper} {rest : List Oper} {o : Oper} {a : Act} {Q : Exit → Act → World → Prop} (hgd : o.guard = none) (s x : Operand) (t : TypeId)
    (ho : o.op = .call { callee := .builtin .append, args := #[s, x], argTypes := #[t, t] })
    (base : Nat) (e : TypeId) (i : TypeInfo) (z : Value) (bsz : Nat) (ht : P.underlying t = some (.slice e)) (hi : P.info? e = some i) (hz : i.zero = some z)
    (hsize : i.size = 1) (hby : i.bytes = bsz) (hzs : z.cells.size = 1) (S : Option Addr) (d : Nat) (l : List α) (hs : a.eval s = .slice S l.length d) (hown : Own mk e w base S d l)
    (ad : Addr) (c : Nat) (y : α) (hx : a.eval x = .slice (some ad) 1 c) (hr : w.cell? ad = some (mk y)) (h63 : l.length + 1 ≤ maxLen) (hb : (l.length + 1) * bsz ≤ 140737488355328) (hbase : base ≤ w.heap.size)
    (h : ∀ L A' c' w', Hid (L = l ++ [y]) → Own mk e w' base A' c' L → Below base w w' → w.grownBy w' (blk S) → (blk A' = blk S ∨ blk A' = some w.heap.size) → wpList P ops Q rest (a.put o.dst (.slice A' L.length c')) w') :
    wpList P ops Q (o :: rest) a w := by
  refine wpList_plain hgd fun K hK => ?_
  obtain ⟨A', c', w', hrun, h2, h3, h4, h5⟩ := run_append_one (P := P) mk w h1 base t o.type e i z bsz ht hi hz hsize hby hzs S d l hown ad c y hr h63 hb hbase
  unfold Oper.wp execOp
  simp only [ho, resolve, invoke, builtin, Sem.run_bind, Sem.run_pure, Result.andThen_ok, List.map_toArray, List.map_cons, List.map_nil, hs, hx, hrun]
  exact hK _ _ (h _ A' c' w' (Lib.hid rfl) h2 h3 h4 h5)
/-- 'make([]T, n)': n zero elements. -/
theorem wpList_make_list {ops : Array Oper} {rest : List Oper} {o : Oper} {a : Act} {Q : Exit → Act → World → Prop}
    (hg : o.guard = none) (l c : Operand) (t : TypeId) (hop : o.op = Op.makeSlice t l c)
    (base : Nat) (e : TypeId) (i : TypeInfo) (z : α) (ht : P.underlying t = some (.slice e)) (hi : P.info? e = some i) (hz : i.zero = some (mk z)) (hsize : i.size = 1) (hone : (mk z).cells = #[mk z])
    (kl kc : IntKind) (L C : Int) (n : Nat) (hl : a.eval l = .int kl L) (hc : a.eval c = .int kc C) (hL : L = (n : Int)) (hC : C = (n : Int)) (b2 : i.bytes * n ≤ 281474976710656) (b3 : n ≤ maxLen) (b4 : base ≤ w.heap.size)
    (h : ∀ M A' c' w', Hid (M = List.replicate n z) → Own mk e w' base A' c' M → Below w.heap.size w w' → wpList P ops Q rest (a.put o.dst (.slice A' M.length c')) w') : wpList P ops Q (o :: rest) a w := by
  refine wpList_make_full w hg l c t hop base e i (mk z) 1 ht hi hz hsize kl kc L C n hl hc hL hC b2 b3 b4 fun w' hown hgr => ?_
  have := h (List.replicate n z) (some ⟨w.heap.size, 0, none⟩) n w' (Lib.hid rfl) (by
    unfold Own
    rw [List.length_replicate, List.map_replicate]
    rw [hone, Nat.mul_one, toList_madeCells_one] at hown
    exact hown) ((Below.refl _ _).grown hgr (Nat.le_refl _) (by simp))
  rw [List.length_replicate] at this
  exact this
end

theorem cell_alloc_one (w : World) (v : Value) (e : TypeId) (g : Nat) (hg : g = w.heap.size) : (w.alloc (.cells #[v] e)).cell? ⟨g, 0, none⟩ = some v := by
  subst hg
  have hh : (w.alloc (.cells #[v] e)).heap[w.heap.size]? = some (.cells #[v] e (0, 0)) := heap_alloc_new w _
  simp only [World.cell?, hh]; rfl

/-! Strings. -/
def keyN (s : ByteArray) : List Nat := s.data.toList.map UInt8.toNat
theorem keyN_length (s : ByteArray) : (keyN s).length = s.size := by unfold keyN; rw [List.length_map, Array.length_toList]; rfl
theorem keyN_bytes (s : ByteArray) : Bytes (keyN s) := by
  intro b hb
  obtain ⟨x, _, rfl⟩ := List.mem_map.1 hb
  exact x.toNat_lt
theorem keyN_cells (s : ByteArray) : Lib.strCells s = (keyN s).map bv := by simp [Lib.strCells, keyN, bv]
/-- '[]byte(s)': the new row reads as the string's bytes, and nothing that was there has turned. -/
theorem bytesWorld_below (w : World) (e : TypeId) (s : ByteArray) : Below w.heap.size w (Lib.bytesWorld w e s) :=
  ⟨rfl, rfl, rfl, by rw [Lib.bytesWorld_size]; omega, fun k hk => Lib.bytesWorld_at_old w e s k hk⟩
theorem bytesWorld_rd (w : World) (e : TypeId) (s : ByteArray) : RdB (Lib.bytesWorld w e s) (some ⟨w.heap.size, 0, none⟩) (keyN s) := by
  intro _
  refine ⟨_, rfl, fun j hj => ?_⟩
  rw [keyN_length] at hj
  have hadd : (⟨w.heap.size, 0, none⟩ : Addr).add j = ⟨w.heap.size, j, none⟩ := by
    unfold Addr.add; split
    · subst_vars; rfl
    · simp
  rw [hadd, Lib.bytesWorld_cell w e s j hj]
  have hjl : j < s.data.toList.length := by rw [Array.length_toList]; exact hj
  simp [keyN, List.getD, List.getElem?_eq_getElem hjl]
/-- 'append(out, s...)', s a string. -/
theorem wpList_append_key {P : Program} (w : World) {ops : Array Oper} {rest : List Oper} {o : Oper} {a : Act} {Q : Exit → Act → World → Prop} (hgd : o.guard = none) (sl x : Operand) (t u : TypeId)
    (ho : o.op = .call { callee := .builtin .append, args := #[sl, x], argTypes := #[t, u] })
    (base : Nat) (e : TypeId) (i : TypeInfo) (ht : P.underlying t = some (.slice e)) (hu : P.underlying u = some .string) (hi : P.info? e = some i) (hz : i.zero = some (.int .u8 0))
    (hsize : i.size = 1) (hby : i.bytes = 1) (S : Option Addr) (d : Nat) (l : List Nat) (hs : a.eval sl = .slice S l.length d) (hown : OwnB e w base S d l) (s : ByteArray) (hx : a.eval x = .string s)
    (hb : l.length + s.size ≤ 140737488355328) (hbase : base ≤ w.heap.size)
    (h : ∀ L A' c' w', Hid (L = l ++ keyN s) → OwnB e w' base A' c' L → Below base w w' → wpList P ops Q rest (a.put o.dst (.slice A' L.length c')) w') : wpList P ops Q (o :: rest) a w := by
  refine Lib.wpList_append_own_string w hgd sl x t u ho base e i ht hu hi hz hsize hby (.slice S l.length d) l.length (l.map bv) hs hown s hx (by unfold maxLen; omega) hb hbase fun v' w' h2 h3 _ => ?_
  have hshape : ∃ A' c', v' = .slice A' (l ++ keyN s).length c' := by
    rcases h2.2 with ⟨e1, e2⟩ | ⟨g, cap, cur, e1, _⟩
    · exact ⟨none, 0, by rw [e1, List.length_append, keyN_length, e2]⟩
    · exact ⟨_, _, by rw [e1, List.length_append, keyN_length]⟩
  obtain ⟨A', c', rfl⟩ := hshape
  rw [ownBlock_blk] at h3
  refine h _ A' c' w' (Lib.hid rfl) ?_ ?_
  · unfold OwnB; rw [List.map_append, ← keyN_cells]
    have hl : (l ++ keyN s).length = l.length + s.size := by rw [List.length_append, keyN_length]
    rw [hl] at h2 ⊢
    exact h2
  · refine (Below.refl base w).grown h3 hbase fun k hk => ?_
    exact (World.ownsRow.lt hown k (by rw [ownBlock_blk]; exact hk)).1
end Go.Proofs.Ytoigogjmhkpdlab
