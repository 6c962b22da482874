/- Words of this seat's walks: a slice that reads as bytes; a row of bytes of the call's own; appending bytes to it. -/
import Derived.Below
import Derived.Laws.OwnMore
import Derived.Maps.AppendAt
import Derived.OwnWalk
import Derived.WalkKit
import Derived.Lib.Hide
import Derived.OpenShut
import Derived.Deep.Draws
namespace Go.Proofs.Ytoigogjmhkpdlab
open Go.RowKit

/-- A slice's address (if it has one) reads as bytes. -/
def RdB (W : World) (A : Option Addr) (l : List Nat) : Prop :=
  0 < l.length → ∃ ad, A = some ad ∧ ∀ j (h : j < l.length), W.cell? (ad.add j) = some (.int .u8 (l[j] : Nat))
def Bytes (l : List Nat) : Prop := ∀ b ∈ l, b < 256
/-- A byte's value. -/
def bv (b : Nat) : Value := .int .u8 (b : Int)

theorem lt_of_cell {w : World} {a : Addr} {v : Value} (h : w.cell? a = some v) : a.block < w.heap.size := by
  rcases Nat.lt_or_ge a.block w.heap.size with h' | h'
  · exact h'
  · simp [World.cell?, Array.getElem?_eq_none h'] at h
theorem RdB.nil (W : World) (A : Option Addr) : RdB W A [] := fun h => absurd h (by simp)
theorem RdB.below {W W' : World} {A : Option Addr} {l : List Nat} {B : Nat} (h : RdB W A l) (hb : Below B W W') (hB : W.heap.size ≤ B) : RdB W' A l := by
  intro hl
  obtain ⟨ad, rfl, hc⟩ := h hl
  exact ⟨ad, rfl, fun j hj => (hb.cell (Nat.lt_of_lt_of_le (lt_of_cell (hc j hj)) hB)).trans (hc j hj)⟩
theorem RdB.alloc {W : World} {A : Option Addr} {l : List Nat} (h : RdB W A l) (o : Obj) : RdB (W.alloc o) A l :=
  h.below ((Below.refl W.heap.size W).alloc (Nat.le_refl _) o) (Nat.le_refl _)
theorem rd_new (w : World) (cs : Array Value) (e : TypeId) (mk : Nat × Nat) (l : List Nat) (g : Nat) (hg : g = w.heap.size) (h : cs.toList = l.map bv) : RdB (w.alloc (.cells cs e mk)) (some ⟨g, 0, none⟩) l := by
  subst hg
  intro _
  refine ⟨_, rfl, fun j hj => ?_⟩
  have hh : (w.alloc (.cells cs e mk)).heap[w.heap.size]? = some (.cells cs e mk) := heap_alloc_new w _
  have hc : cs[j]? = some (bv l[j]) := by rw [← Array.getElem?_toList, h]; simp [hj]
  unfold Addr.add
  split
  · subst_vars; simp only [World.cell?, hh]; exact hc
  · simp only [World.cell?, hh]; simpa [bv] using hc
theorem add_block (a : Addr) (n : Nat) : (a.add n).block = a.block := by unfold Addr.add; split <;> rfl

/-- What a row's frame tells of a slice of bytes that came in, as bytes. -/
theorem bytes_of_row {w : World} {a : Option Addr} {len cap : Nat} {zs : List Int}
    (h : (a = none ∧ len = 0 ∧ cap = 0 ∧ zs = []) ∨
      ∃ x, a = some x ∧ len ≤ cap ∧ cap ≤ maxLen ∧ zs.length = cap ∧ (∀ i, i < zs.length → w.cell? (x.add i) = some (.int .u8 (zs.getD i 0))) ∧ ∀ n ∈ zs, (Lit.int .u8 n).wf = true) :
    ∃ l : List Nat, l.length = len ∧ Bytes l ∧ RdB w a l := by
  rcases h with ⟨rfl, rfl, rfl, rfl⟩ | ⟨x, rfl, hl, _, hz, hc, hw⟩
  · exact ⟨[], rfl, fun b hb => by simp at hb, RdB.nil _ _⟩
  · have hb : ∀ n ∈ zs, 0 ≤ n ∧ n < 256 := by
      intro n hn
      have := bounds_u8 (hw n hn)
      omega
    refine ⟨(zs.take len).map Int.toNat, by simp; omega, ?_, ?_⟩
    · intro b h
      obtain ⟨n, hn, rfl⟩ := List.mem_map.1 h
      have := hb n (List.mem_of_mem_take hn)
      omega
    · intro h0
      refine ⟨x, rfl, fun j hj => ?_⟩
      simp only [List.length_map, List.length_take] at hj
      rw [hc j (by omega)]
      have h1 := hb zs[j] (List.getElem_mem _)
      have hg : zs.getD j 0 = zs[j] := by simp [show j < zs.length by omega]
      rw [hg]
      simp [List.getElem_take]
      omega
theorem below_next {W w1 w2 : World} (h : Below W.heap.size W w1) (k : Below w1.heap.size w1 w2) : Below W.heap.size W w2 := h.trans (k.mono h.size)

/-- A row of bytes of the call's own. -/
def OwnB (e : TypeId) (w : World) (base : Nat) (A : Option Addr) (c : Nat) (l : List Nat) : Prop := w.ownsRow base e 1 (.slice A l.length c) l.length (l.map bv)

theorem OwnB.rd {e : TypeId} {w : World} {base : Nat} {A : Option Addr} {c : Nat} {l : List Nat} (h : OwnB e w base A c l) : RdB w A l := by
  intro hl
  rcases h.2 with ⟨_, h0⟩ | ⟨g, cap, cur, hv, _, _⟩
  · omega
  · have hA : A = some ⟨g, 0, none⟩ := by injection hv
    subst hA
    refine ⟨_, rfl, fun j hj => ?_⟩
    exact World.ownsRow.cells h rfl j (bv l[j]) (by simp [hj])
theorem OwnB.nil (e : TypeId) (w : World) (base : Nat) : OwnB e w base none 0 [] := World.ownsRow_nil w base e 1
theorem OwnB.lit (e : TypeId) (w : World) (base : Nat) (cs : Array Value) (l : List Nat) (hb : base ≤ w.heap.size) (hm : l.length ≤ maxLen) (hs : cs.toList = l.map bv) :
    OwnB e (w.alloc (.cells cs e)) base (some ⟨w.heap.size, 0, none⟩) l.length l := by
  have h := World.ownsRow_lit (base := base) (e := e) (size := 1) w cs l.length hb hm (by rw [← Array.length_toList, hs]; simp)
  rw [hs] at h
  exact h
theorem OwnB.alloc {e : TypeId} {w : World} {base : Nat} {A : Option Addr} {c : Nat} {l : List Nat} (h : OwnB e w base A c l) (o : Obj) : OwnB e (w.alloc o) base A c l := World.ownsRow.alloc h o
theorem OwnB.drew {e : TypeId} {w : World} {base : Nat} {A : Option Addr} {c : Nat} {l : List Nat} (h : OwnB e w base A c l) : OwnB e w.drew base A c l := h
theorem RdB.drew {w : World} {A : Option Addr} {l : List Nat} (h : RdB w A l) : RdB w.drew A l := h
theorem OwnB.drewN {e : TypeId} {w : World} {base : Nat} {A : Option Addr} {c : Nat} {l : List Nat} (h : OwnB e w base A c l) (n : Nat) : OwnB e (w.drewN n) base A c l := h
theorem RdB.drewN {w : World} {A : Option Addr} {l : List Nat} (h : RdB w A l) (n : Nat) : RdB (w.drewN n) A l := h
theorem below_undrewN {B n : Nat} {w w' : World} (h : Below B (w.drewN n) w') : Below B w w' := ⟨h.os, h.tape, h.output, h.size, h.block⟩
theorem below_drewN {B n : Nat} {w w' : World} (h : Below B w w') : Below B w (w'.drewN n) := ⟨h.os, h.tape, h.output, h.size, h.block⟩
theorem below_undrew {B : Nat} {w w' : World} (h : Below B w.drew w') : Below B w w' := ⟨h.os, h.tape, h.output, h.size, h.block⟩
theorem grown_undrew {w w' : World} {r : Option Nat} (h : w.drew.grownBy w' r) : w.grownBy w' r := ⟨h.os, h.tape, h.output, h.size, h.block⟩
/-- A new block below which all is as it was keeps a row that lies below it. -/
theorem OwnB.below {e : TypeId} {w w' : World} {base B : Nat} {A : Option Addr} {c : Nat} {l : List Nat} (h : OwnB e w base A c l) (hb : Below B w w') (hB : w.heap.size ≤ B) : OwnB e w' base A c l := by
  refine ⟨h.1, ?_⟩
  rcases h.2 with h0 | ⟨g, cap, cur, hv, hg, hh, hr⟩
  · exact .inl h0
  · refine .inr ⟨g, cap, cur, hv, hg, ?_, hr⟩
    have hlt : g < w.heap.size := by
      rcases Nat.lt_or_ge g w.heap.size with h' | h'
      · exact h'
      · rw [Array.getElem?_eq_none h'] at hh; cases hh
    rw [hb.block g (by omega)]; exact hh

theorem OwnB.form {e : TypeId} {w : World} {base : Nat} {A : Option Addr} {c : Nat} {l : List Nat} (h : OwnB e w base A c l) (hl : 0 < l.length) : ∃ g, A = some ⟨g, 0, none⟩ ∧ base ≤ g := by
  rcases h.2 with ⟨_, h0⟩ | ⟨g, cap, cur, hv, hb, _⟩
  · omega
  · have hA : A = some ⟨g, 0, none⟩ := by injection hv
    exact ⟨g, hA, hb⟩
theorem OwnB.cell {e : TypeId} {w : World} {base g c : Nat} {l : List Nat} (h : OwnB e w base (some ⟨g, 0, none⟩) c l) (j : Nat) (hj : j < l.length) : w.cell? ⟨g, j, none⟩ = some (.int .u8 (l[j] : Nat)) := by
  rw [World.ownsRow.cellAt h j (by omega)]
  simp [hj, bv]
theorem OwnB.free {e : TypeId} {w : World} {base g c : Nat} {l : List Nat} (h : OwnB e w base (some ⟨g, 0, none⟩) c l) (j : Nat) : w.frozen? ⟨g, j, none⟩ = false := World.ownsRow.frozenAt h j
theorem OwnB.set {e : TypeId} {w : World} {base g c : Nat} {l : List Nat} (h : OwnB e w base (some ⟨g, 0, none⟩) c l) (j v : Nat) : OwnB e (w.setCell ⟨g, j, none⟩ (.int .u8 (v : Int))) base (some ⟨g, 0, none⟩) c (l.set j v) := by
  have := World.ownsRow.stored h j (.int .u8 (v : Int))
  unfold OwnB
  rw [List.length_set, List.map_set]
  exact this.1
theorem bytes_set {l : List Nat} (h : Bytes l) (j v : Nat) (hv : v < 256) : Bytes (l.set j v) := by
  intro b hb
  rcases List.mem_or_eq_of_mem_set hb with h' | h'
  · exact h b h'
  · omega

/-- A slice's block, if it has one. -/
def blk (A : Option Addr) : Option Nat := A.map (·.block)
theorem ownBlock_blk (A : Option Addr) (n c : Nat) : (Value.slice A n c).ownBlock = blk A := by cases A <;> rfl
/-- Two slices don't lie in one block. -/
def Dist (A B : Option Addr) : Prop := blk A = none ∨ blk A ≠ blk B
theorem Dist.symm {A B : Option Addr} (h : Dist A B) : Dist B A := by
  rcases h with h | h
  · rcases hb : blk B with _ | b
    · exact .inl hb
    · exact .inr (by rw [hb, h]; simp)
  · exact .inr (fun e => h e.symm)
theorem OwnB.lt {e : TypeId} {w : World} {base : Nat} {A : Option Addr} {c : Nat} {l : List Nat} (h : OwnB e w base A c l) : ∀ k, blk A = some k → base ≤ k ∧ k < w.heap.size := fun k hk => World.ownsRow.lt h k (by rw [ownBlock_blk]; exact hk)
theorem OwnB.kept {e : TypeId} {w w' : World} {base : Nat} {A S : Option Addr} {c : Nat} {l : List Nat} (h : OwnB e w base A c l) (hg : w.grownBy w' (blk S)) (hd : Dist A S) : OwnB e w' base A c l :=
  World.ownsRow.kept h hg (by rw [ownBlock_blk]; exact hd)
theorem Dist.step {e : TypeId} {w : World} {base : Nat} {A' S B : Option Addr} {c : Nat} {l : List Nat} (h : blk A' = blk S ∨ blk A' = some w.heap.size) (hd : Dist S B) (hB : OwnB e w base B c l) : Dist A' B := by
  rcases h with h | h
  · unfold Dist; rw [h]; exact hd
  · refine .inr (fun e2 => ?_)
    have := (hB.lt w.heap.size (by rw [← e2, h])).2
    omega

section
variable {P : Program} (w : World)
theorem run_append_nothing (base : Nat) (t ty e : TypeId) (i : TypeInfo) (size : Nat) (ht : P.underlying t = some (.slice e)) (hi : P.info? e = some i)
    (v : Value) (n : Nat) (xs : List Value) (hown : w.ownsRow base e size v n xs) (c : Nat) : (Builtin.append_ #[t, t] ty #[v, .slice none 0 c]).run P w = .ok v w := by
  rcases hown.2 with ⟨rfl, rfl⟩ | ⟨g, cap, cur, rfl, _, _, hnc, _⟩
  · simp [Builtin.append_, run_underlying ht, sizeOf, typeInfo, hi, Builtin.lenOf, Builtin.firstCells]
  · simp [Builtin.append_, run_underlying ht, sizeOf, typeInfo, hi, Builtin.lenOf, Builtin.firstCells, hnc, storeCells]

theorem run_append_bytes (base : Nat) (t ty e : TypeId) (i : TypeInfo) (ht : P.underlying t = some (.slice e)) (hi : P.info? e = some i) (hz : i.zero = some (.int .u8 0))
    (hsize : i.size = 1) (hby : i.bytes = 1) (S : Option Addr) (d : Nat) (l : List Nat) (hown : OwnB e w base S d l)
    (A : Option Addr) (c : Nat) (m : List Nat) (hr : RdB w A m) (hb : l.length + m.length ≤ 140737488355328) (hbase : base ≤ w.heap.size) :
    ∃ A' c' w', (Builtin.append_ #[t, t] ty #[.slice S l.length d, .slice A m.length c]).run P w = .ok (.slice A' (l ++ m).length c') w' ∧ OwnB e w' base A' c' (l ++ m) ∧ Below base w w' ∧ w.grownBy w' (blk S) ∧ (blk A' = blk S ∨ blk A' = some w.heap.size) := by
  have h1 : ∀ u ∈ m.map bv, u.oneCell' = true := by
    intro u hu
    obtain ⟨b, _, rfl⟩ := List.mem_map.1 hu
    rfl
  rcases A with _ | ad
  · have hm : m = [] := by
      rcases m with _ | ⟨b, m⟩
      · rfl
      · obtain ⟨ad, h, _⟩ := hr (by simp)
        cases h
    subst hm
    refine ⟨S, d, w, ?_, by simpa using hown, Below.refl _ _, World.grownBy.refl _ _, .inl rfl⟩
    have := run_append_nothing (P := P) w base t ty e i 1 ht hi _ _ _ hown c
    simpa using this
  · have hcells : ∀ j u, (m.map bv)[j]? = some u → w.cell? (ad.add j) = some u := by
      intro j u hu
      have hj : j < m.length := by
        rcases Nat.lt_or_ge j m.length with h' | h'
        · exact h'
        · rw [List.getElem?_eq_none (by simpa using h')] at hu; cases hu
      obtain ⟨ad', h, hc⟩ := hr (by omega)
      injection h with h
      subst h
      rw [hc j hj]
      simpa [hj, bv] using hu
    obtain ⟨v', w', hrun, h2, h3, _, h5⟩ := run_append_own_at (P := P) w base t ty e i (.int .u8 0) 1 1 ht hi hz hsize hby rfl (by decide) (.slice S l.length d) l.length (l.map bv) hown ad m.length c (m.map bv) (by simp) hcells h1
      (by unfold maxLen; omega) (by omega) hbase
    have hshape : ∃ A' c', v' = .slice A' (l ++ m).length c' := by
      rcases h2.2 with ⟨e1, e2⟩ | ⟨g, cap, cur, e1, _⟩
      · exact ⟨none, 0, by rw [e1, List.length_append, e2]⟩
      · exact ⟨_, _, by rw [e1, List.length_append]⟩
    obtain ⟨A', c', rfl⟩ := hshape
    rw [ownBlock_blk] at h3; rw [ownBlock_blk, ownBlock_blk] at h5
    refine ⟨A', c', w', hrun, ?_, ?_, h3, h5⟩
    · unfold OwnB; rw [List.map_append, List.length_append]; rw [List.length_append] at h2; exact h2
    · refine (Below.refl base w).grown h3 hbase fun k hk => ?_
      exact (World.ownsRow.lt hown k (by rw [ownBlock_blk]; exact hk)).1

theorem wpList_append_bytes {ops : Array Oper} {rest : List Oper} {o : Oper} {a : Act} {Q : Exit → Act → World → Prop} (hgd : o.guard = none) (s x : Operand) (t : TypeId)
    (ho : o.op = .call { callee := .builtin .append, args := #[s, x], argTypes := #[t, t] })
    (base : Nat) (e : TypeId) (i : TypeInfo) (ht : P.underlying t = some (.slice e)) (hi : P.info? e = some i) (hz : i.zero = some (.int .u8 0))
    (hsize : i.size = 1) (hby : i.bytes = 1) (S : Option Addr) (d : Nat) (l : List Nat) (hs : a.eval s = .slice S l.length d) (hown : OwnB e w base S d l)
    (A : Option Addr) (c : Nat) (m : List Nat) (hx : a.eval x = .slice A m.length c) (hr : RdB w A m) (hb : l.length + m.length ≤ 140737488355328) (hbase : base ≤ w.heap.size)
    (h : ∀ L A' c' w', Hid (L = l ++ m) → OwnB e w' base A' c' L → Below base w w' → wpList P ops Q rest (a.put o.dst (.slice A' L.length c')) w') :
    wpList P ops Q (o :: rest) a w := by
  refine wpList_plain hgd fun K hK => ?_
  obtain ⟨A', c', w', hrun, h2, h3, _, _⟩ := run_append_bytes (P := P) w base t o.type e i ht hi hz hsize hby S d l hown A c m hr hb hbase
  unfold Oper.wp execOp
  simp only [ho, resolve, invoke, builtin, Sem.run_bind, Sem.run_pure, Result.andThen_ok, List.map_toArray, List.map_cons, List.map_nil, hs, hx, hrun]
  exact hK _ _ (h _ A' c' w' (Lib.hid rfl) h2 h3)
theorem wpList_append_bytes_at {ops : Array Oper} {rest : List Oper} {o : Oper} {a : Act} {Q : Exit → Act → World → Prop} (hgd : o.guard = none) (s x : Operand) (t : TypeId)
    (ho : o.op = .call { callee := .builtin .append, args := #[s, x], argTypes := #[t, t] })
    (base : Nat) (e : TypeId) (i : TypeInfo) (ht : P.underlying t = some (.slice e)) (hi : P.info? e = some i) (hz : i.zero = some (.int .u8 0))
    (hsize : i.size = 1) (hby : i.bytes = 1) (S : Option Addr) (d : Nat) (l : List Nat) (hs : a.eval s = .slice S l.length d) (hown : OwnB e w base S d l)
    (A : Option Addr) (c : Nat) (m : List Nat) (hx : a.eval x = .slice A m.length c) (hr : RdB w A m) (hb : l.length + m.length ≤ 140737488355328) (hbase : base ≤ w.heap.size)
    (h : ∀ L A' c' w', Hid (L = l ++ m) → OwnB e w' base A' c' L → Below base w w' → w.grownBy w' (blk S) → (blk A' = blk S ∨ blk A' = some w.heap.size) → wpList P ops Q rest (a.put o.dst (.slice A' L.length c')) w') :
    wpList P ops Q (o :: rest) a w := by
  refine wpList_plain hgd fun K hK => ?_
  obtain ⟨A', c', w', hrun, h2, h3, h4, h5⟩ := run_append_bytes (P := P) w base t o.type e i ht hi hz hsize hby S d l hown A c m hr hb hbase
  unfold Oper.wp execOp
  simp only [ho, resolve, invoke, builtin, Sem.run_bind, Sem.run_pure, Result.andThen_ok, List.map_toArray, List.map_cons, List.map_nil, hs, hx, hrun]
  exact hK _ _ (h _ A' c' w' (Lib.hid rfl) h2 h3 h4 h5)
/-- The same, for a region that draws its order. -/
theorem step_append_bytes_at {ops : Array Oper} {o : Oper} {a : Act} {K : Act → World → Prop} {Q : Exit → Act → World → Prop} {E : Prop} (hgd : o.guard = none) (s x : Operand) (t : TypeId)
    (ho : o.op = .call { callee := .builtin .append, args := #[s, x], argTypes := #[t, t] })
    (base : Nat) (e : TypeId) (i : TypeInfo) (ht : P.underlying t = some (.slice e)) (hi : P.info? e = some i) (hz : i.zero = some (.int .u8 0))
    (hsize : i.size = 1) (hby : i.bytes = 1) (S : Option Addr) (d : Nat) (l : List Nat) (hs : a.eval s = .slice S l.length d) (hown : OwnB e w base S d l)
    (A : Option Addr) (c : Nat) (m : List Nat) (hx : a.eval x = .slice A m.length c) (hr : RdB w A m) (hb : l.length + m.length ≤ 140737488355328) (hbase : base ≤ w.heap.size)
    (h : ∀ L A' c' w', Hid (L = l ++ m) → OwnB e w' base A' c' L → Below base w w' → w.grownBy w' (blk S) → (blk A' = blk S ∨ blk A' = some w.heap.size) → K (a.put o.dst (.slice A' L.length c')) w') :
    if Region.wanted o (yielded ops a.tmps) = true then Oper.wp P o a w K Q else E := by
  have hw : Region.wanted o (yielded ops a.tmps) = true := by simp [Region.wanted, hgd]
  rw [if_pos hw]
  obtain ⟨A', c', w', hrun, h2, h3, h4, h5⟩ := run_append_bytes (P := P) w base t o.type e i ht hi hz hsize hby S d l hown A c m hr hb hbase
  unfold Oper.wp execOp
  simp only [ho, resolve, invoke, builtin, Sem.run_bind, Sem.run_pure, Result.andThen_ok, List.map_toArray, List.map_cons, List.map_nil, hs, hx, hrun]
  exact h _ A' c' w' (Lib.hid rfl) h2 h3 h4 h5
/-- The same, with the source's length under a name of its own. -/
theorem wpList_append_bytes_n {ops : Array Oper} {rest : List Oper} {o : Oper} {a : Act} {Q : Exit → Act → World → Prop} (hgd : o.guard = none) (s x : Operand) (t : TypeId)
    (ho : o.op = .call { callee := .builtin .append, args := #[s, x], argTypes := #[t, t] })
    (base : Nat) (e : TypeId) (i : TypeInfo) (ht : P.underlying t = some (.slice e)) (hi : P.info? e = some i) (hz : i.zero = some (.int .u8 0))
    (hsize : i.size = 1) (hby : i.bytes = 1) (S : Option Addr) (d : Nat) (l : List Nat) (hs : a.eval s = .slice S l.length d) (hown : OwnB e w base S d l)
    (A : Option Addr) (c n : Nat) (m : List Nat) (hn : m.length = n) (hx : a.eval x = .slice A n c) (hr : RdB w A m) (hb : l.length + m.length ≤ 140737488355328) (hbase : base ≤ w.heap.size)
    (h : ∀ L A' c' w', Hid (L = l ++ m) → OwnB e w' base A' c' L → Below base w w' → wpList P ops Q rest (a.put o.dst (.slice A' L.length c')) w') :
    wpList P ops Q (o :: rest) a w := by
  subst hn
  exact wpList_append_bytes w hgd s x t ho base e i ht hi hz hsize hby S d l hs hown A c m hx hr hb hbase h
end
end Go.Proofs.Ytoigogjmhkpdlab
