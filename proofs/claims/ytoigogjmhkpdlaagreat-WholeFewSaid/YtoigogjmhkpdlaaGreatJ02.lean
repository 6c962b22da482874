/- A part of the proof of WholeFew: the texts Words, Rows2, CheckA, Same, CheckB. -/
import Derived.Test.YtoigogjmhkpdlaaGreatJ01
import Derived.Below
import Derived.Deep.Draws
import Derived.Laws.OwnMore
import Derived.Lib.Hide
import Derived.Maps.AppendAt
import Derived.OpenShut
import Derived.OwnWalk
import Derived.WalkKit
import Derived.Laws.MakeOwn
import Derived.Lib.AppendStr
import Derived.Lib.ConvBytes
import Derived.Outline
import Derived.Test.YtoigogjmhkpdlaaGreatProg
import Derived.WalkLawsBesides
import Derived.WalkSpells
namespace Go.Proofs.YtoigogjmhkpdlaaGreat
open Go.RowKit
def RdB (W : World) (A : Option Addr) (l : List Nat) : Prop :=
  0 < l.length → ∃ ad, A = some ad ∧ ∀ j (h : j < l.length), W.cell? (ad.add j) = some (.int .u8 (l[j] : Nat))
def Bytes (l : List Nat) : Prop := ∀ b ∈ l, b < 256
def bv (b : Nat) : Value := .int .u8 (b : Int)
theorem lt_of_cell {w : World} {a : Addr} {v : Value} (h : w.cell? a = some v) : a.block < w.heap.size := by
  rcases Nat.lt_or_ge a.block w.heap.size with h' | h'
  · exact h'
  · simp [World.cell?, Array.getElem?_eq_none h'] at h
theorem RdB.nil (W : World) (A : Option Addr) : RdB W A [] := fun h => absurd h (by simp)
theorem RdB.below {W W' : World} {A : Option Addr} {l : List Nat} {B : Nat} (h : RdB W A l) (hb : Below B W W') (hB : W.heap.size ≤ B) : RdB W' A l := by
  intro hl
  obtain ⟨ad, rfl, hc⟩ := h hl
  exact ⟨ad, rfl, fun j hj => (hb.cell (Nat.lt_of_lt_of_le (lt_of_cell (hc j hj)) hB)).trans (hc j hj)⟩
theorem RdB.alloc {W : World} {A : Option Addr} {l : List Nat} (h : RdB W A l) (o : Obj) : RdB (W.alloc o) A l :=
  h.below ((Below.refl W.heap.size W).alloc (Nat.le_refl _) o) (Nat.le_refl _)
theorem rd_new (w : World) (cs : Array Value) (e : TypeId) (mk : Nat × Nat) (l : List Nat) (g : Nat) (hg : g = w.heap.size) (h : cs.toList = l.map bv) : RdB (w.alloc (.cells cs e mk)) (some ⟨g, 0, none⟩) l := by
  subst hg
  intro _
  refine ⟨_, rfl, fun j hj => ?_⟩
  have hh : (w.alloc (.cells cs e mk)).heap[w.heap.size]? = some (.cells cs e mk) := heap_alloc_new w _
  have hc : cs[j]? = some (bv l[j]) := by rw [← Array.getElem?_toList, h]; simp [hj]
  unfold Addr.add
  split
  · subst_vars; simp only [World.cell?, hh]; exact hc
  · simp only [World.cell?, hh]; simpa [bv] using hc
theorem add_block (a : Addr) (n : Nat) : (a.add n).block = a.block := by unfold Addr.add; split <;> rfl
theorem below_next {W w1 w2 : World} (h : Below W.heap.size W w1) (k : Below w1.heap.size w1 w2) : Below W.heap.size W w2 := h.trans (k.mono h.size)
def OwnB (e : TypeId) (w : World) (base : Nat) (A : Option Addr) (c : Nat) (l : List Nat) : Prop := w.ownsRow base e 1 (.slice A l.length c) l.length (l.map bv)
theorem OwnB.rd {e : TypeId} {w : World} {base : Nat} {A : Option Addr} {c : Nat} {l : List Nat} (h : OwnB e w base A c l) : RdB w A l := by
  intro hl
  rcases h.2 with ⟨_, h0⟩ | ⟨g, cap, cur, hv, _, _⟩
  · omega
  · have hA : A = some ⟨g, 0, none⟩ := by injection hv
    subst hA
    refine ⟨_, rfl, fun j hj => ?_⟩
    exact World.ownsRow.cells h rfl j (bv l[j]) (by simp [hj])
theorem OwnB.nil (e : TypeId) (w : World) (base : Nat) : OwnB e w base none 0 [] := World.ownsRow_nil w base e 1
theorem OwnB.lit (e : TypeId) (w : World) (base : Nat) (cs : Array Value) (l : List Nat) (hb : base ≤ w.heap.size) (hm : l.length ≤ maxLen) (hs : cs.toList = l.map bv) :
    OwnB e (w.alloc (.cells cs e)) base (some ⟨w.heap.size, 0, none⟩) l.length l := by
  have h := World.ownsRow_lit (base := base) (e := e) (size := 1) w cs l.length hb hm (by rw [← Array.length_toList, hs]; simp)
  rw [hs] at h
  exact h
theorem OwnB.alloc {e : TypeId} {w : World} {base : Nat} {A : Option Addr} {c : Nat} {l : List Nat} (h : OwnB e w base A c l) (o : Obj) : OwnB e (w.alloc o) base A c l := World.ownsRow.alloc h o
theorem RdB.drew {w : World} {A : Option Addr} {l : List Nat} (h : RdB w A l) : RdB w.drew A l := h
theorem OwnB.drewN {e : TypeId} {w : World} {base : Nat} {A : Option Addr} {c : Nat} {l : List Nat} (h : OwnB e w base A c l) (n : Nat) : OwnB e (w.drewN n) base A c l := h
theorem RdB.drewN {w : World} {A : Option Addr} {l : List Nat} (h : RdB w A l) (n : Nat) : RdB (w.drewN n) A l := h
theorem below_undrewN {B n : Nat} {w w' : World} (h : Below B (w.drewN n) w') : Below B w w' := ⟨h.os, h.tape, h.output, h.size, h.block⟩
theorem below_drewN {B n : Nat} {w w' : World} (h : Below B w w') : Below B w (w'.drewN n) := ⟨h.os, h.tape, h.output, h.size, h.block⟩
theorem below_undrew {B : Nat} {w w' : World} (h : Below B w.drew w') : Below B w w' := ⟨h.os, h.tape, h.output, h.size, h.block⟩
theorem grown_undrew {w w' : World} {r : Option Nat} (h : w.drew.grownBy w' r) : w.grownBy w' r := ⟨h.os, h.tape, h.output, h.size, h.block⟩
theorem OwnB.below {e : TypeId} {w w' : World} {base B : Nat} {A : Option Addr} {c : Nat} {l : List Nat} (h : OwnB e w base A c l) (hb : Below B w w') (hB : w.heap.size ≤ B) : OwnB e w' base A c l := by
  refine ⟨h.1, ?_⟩
  rcases h.2 with h0 | ⟨g, cap, cur, hv, hg, hh, hr⟩
  · exact .inl h0
  · refine .inr ⟨g, cap, cur, hv, hg, ?_, hr⟩
    have hlt : g < w.heap.size := by
      rcases Nat.lt_or_ge g w.heap.size with h' | h'
      · exact h'
      · rw [Array.getElem?_eq_none h'] at hh; cases hh
    rw [hb.block g (by omega)]; exact hh
theorem OwnB.form {e : TypeId} {w : World} {base : Nat} {A : Option Addr} {c : Nat} {l : List Nat} (h : OwnB e w base A c l) (hl : 0 < l.length) : ∃ g, A = some ⟨g, 0, none⟩ ∧ base ≤ g := by
  rcases h.2 with ⟨_, h0⟩ | ⟨g, cap, cur, hv, hb, _⟩
  · omega
  · have hA : A = some ⟨g, 0, none⟩ := by injection hv
    exact ⟨g, hA, hb⟩
theorem OwnB.cell {e : TypeId} {w : World} {base g c : Nat} {l : List Nat} (h : OwnB e w base (some ⟨g, 0, none⟩) c l) (j : Nat) (hj : j < l.length) : w.cell? ⟨g, j, none⟩ = some (.int .u8 (l[j] : Nat)) := by
  rw [World.ownsRow.cellAt h j (by omega)]
  simp [hj, bv]
theorem OwnB.free {e : TypeId} {w : World} {base g c : Nat} {l : List Nat} (h : OwnB e w base (some ⟨g, 0, none⟩) c l) (j : Nat) : w.frozen? ⟨g, j, none⟩ = false := World.ownsRow.frozenAt h j
theorem OwnB.set {e : TypeId} {w : World} {base g c : Nat} {l : List Nat} (h : OwnB e w base (some ⟨g, 0, none⟩) c l) (j v : Nat) : OwnB e (w.setCell ⟨g, j, none⟩ (.int .u8 (v : Int))) base (some ⟨g, 0, none⟩) c (l.set j v) := by
  have := World.ownsRow.stored h j (.int .u8 (v : Int))
  unfold OwnB
  rw [List.length_set, List.map_set]
  exact this.1
theorem bytes_set {l : List Nat} (h : Bytes l) (j v : Nat) (hv : v < 256) : Bytes (l.set j v) := by
  intro b hb
  rcases List.mem_or_eq_of_mem_set hb with h' | h'
  · exact h b h'
  · omega
def blk (A : Option Addr) : Option Nat := A.map (·.block)
theorem ownBlock_blk (A : Option Addr) (n c : Nat) : (Value.slice A n c).ownBlock = blk A := by cases A <;> rfl
def Dist (A B : Option Addr) : Prop := blk A = none ∨ blk A ≠ blk B
theorem Dist.symm {A B : Option Addr} (h : Dist A B) : Dist B A := by
  rcases h with h | h
  · rcases hb : blk B with _ | b
    · exact .inl hb
    · exact .inr (by rw [hb, h]; simp)
  · exact .inr (fun e => h e.symm)
theorem OwnB.lt {e : TypeId} {w : World} {base : Nat} {A : Option Addr} {c : Nat} {l : List Nat} (h : OwnB e w base A c l) : ∀ k, blk A = some k → base ≤ k ∧ k < w.heap.size := fun k hk => World.ownsRow.lt h k (by rw [ownBlock_blk]; exact hk)
section
variable {P : Program} (w : World)
theorem run_append_nothing (base : Nat) (t ty e : TypeId) (i : TypeInfo) (size : Nat) (ht : P.underlying t = some (.slice e)) (hi : P.info? e = some i)
    (v : Value) (n : Nat) (xs : List Value) (hown : w.ownsRow base e size v n xs) (c : Nat) : (Builtin.append_ #[t, t] ty #[v, .slice none 0 c]).run P w = .ok v w := by
  rcases hown.2 with ⟨rfl, rfl⟩ | ⟨g, cap, cur, rfl, _, _, hnc, _⟩
  · simp [Builtin.append_, run_underlying ht, sizeOf, typeInfo, hi, Builtin.lenOf, Builtin.firstCells]
  · simp [Builtin.append_, run_underlying ht, sizeOf, typeInfo, hi, Builtin.lenOf, Builtin.firstCells, hnc, storeCells]
theorem run_append_bytes (base : Nat) (t ty e : TypeId) (i : TypeInfo) (ht : P.underlying t = some (.slice e)) (hi : P.info? e = some i) (hz : i.zero = some (.int .u8 0))
    (hsize : i.size = 1) (hby : i.bytes = 1) (S : Option Addr) (d : Nat) (l : List Nat) (hown : OwnB e w base S d l)
    (A : Option Addr) (c : Nat) (m : List Nat) (hr : RdB w A m) (hb : l.length + m.length ≤ 140737488355328) (hbase : base ≤ w.heap.size) :
    ∃ A' c' w', (Builtin.append_ #[t, t] ty #[.slice S l.length d, .slice A m.length c]).run P w = .ok (.slice A' (l ++ m).length c') w' ∧ OwnB e w' base A' c' (l ++ m) ∧ Below base w w' ∧ w.grownBy w' (blk S) ∧ (blk A' = blk S ∨ blk A' = some w.heap.size) := by
  have h1 : ∀ u ∈ m.map bv, u.oneCell' = true := by
    intro u hu
    obtain ⟨b, _, rfl⟩ := List.mem_map.1 hu
    rfl
  rcases A with _ | ad
  · have hm : m = [] := by
      rcases m with _ | ⟨b, m⟩
      · rfl
      · obtain ⟨ad, h, _⟩ := hr (by simp)
        cases h
    subst hm
    refine ⟨S, d, w, ?_, by simpa using hown, Below.refl _ _, World.grownBy.refl _ _, .inl rfl⟩
    have := run_append_nothing (P := P) w base t ty e i 1 ht hi _ _ _ hown c
    simpa using this
  · have hcells : ∀ j u, (m.map bv)[j]? = some u → w.cell? (ad.add j) = some u := by
      intro j u hu
      have hj : j < m.length := by
        rcases Nat.lt_or_ge j m.length with h' | h'
        · exact h'
        · rw [List.getElem?_eq_none (by simpa using h')] at hu; cases hu
      obtain ⟨ad', h, hc⟩ := hr (by omega)
      injection h with h
      subst h
      rw [hc j hj]
      simpa [hj, bv] using hu
    obtain ⟨v', w', hrun, h2, h3, _, h5⟩ := run_append_own_at (P := P) w base t ty e i (.int .u8 0) 1 1 ht hi hz hsize hby rfl (by decide) (.slice S l.length d) l.length (l.map bv) hown ad m.length c (m.map bv) (by simp) hcells h1
      (by unfold maxLen; omega) (by omega) hbase
    have hshape : ∃ A' c', v' = .slice A' (l ++ m).length c' := by
      rcases h2.2 with ⟨e1, e2⟩ | ⟨g, cap, cur, e1, _⟩
      · exact ⟨none, 0, by rw [e1, List.length_append, e2]⟩
      · exact ⟨_, _, by rw [e1, List.length_append]⟩
    obtain ⟨A', c', rfl⟩ := hshape
    rw [ownBlock_blk] at h3; rw [ownBlock_blk, ownBlock_blk] at h5
    refine ⟨A', c', w', hrun, ?_, ?_, h3, h5⟩
    · unfold OwnB; rw [List.map_append, List.length_append]; rw [List.length_append] at h2; exact h2
    · refine (Below.refl base w).grown h3 hbase fun k hk => ?_
      exact (World.ownsRow.lt hown k (by rw [ownBlock_blk]; exact hk)).1
theorem wpList_append_bytes {ops : Array Oper} {rest : List Oper} {o : Oper} {a : Act} {Q : Exit → Act → World → Prop} (hgd : o.guard = none) (s x : Operand) (t : TypeId)
    (ho : o.op = .call { callee := .builtin .append, args := #[s, x], argTypes := #[t, t] })
    (base : Nat) (e : TypeId) (i : TypeInfo) (ht : P.underlying t = some (.slice e)) (hi : P.info? e = some i) (hz : i.zero = some (.int .u8 0))
    (hsize : i.size = 1) (hby : i.bytes = 1) (S : Option Addr) (d : Nat) (l : List Nat) (hs : a.eval s = .slice S l.length d) (hown : OwnB e w base S d l)
    (A : Option Addr) (c : Nat) (m : List Nat) (hx : a.eval x = .slice A m.length c) (hr : RdB w A m) (hb : l.length + m.length ≤ 140737488355328) (hbase : base ≤ w.heap.size)
    (h : ∀ L A' c' w', Hid (L = l ++ m) → OwnB e w' base A' c' L → Below base w w' → wpList P ops Q rest (a.put o.dst (.slice A' L.length c')) w') :
    wpList P ops Q (o :: rest) a w := by
  refine wpList_plain hgd fun K hK => ?_
  obtain ⟨A', c', w', hrun, h2, h3, _, _⟩ := run_append_bytes (P := P) w base t o.type e i ht hi hz hsize hby S d l hown A c m hr hb hbase
  unfold Oper.wp execOp
  simp only [ho, resolve, invoke, builtin, Sem.run_bind, Sem.run_pure, Result.andThen_ok, List.map_toArray, List.map_cons, List.map_nil, hs, hx, hrun]
  exact hK _ _ (h _ A' c' w' (Lib.hid rfl) h2 h3)
theorem wpList_append_bytes_at {ops : Array Oper} {rest : List Oper} {o : Oper} {a : Act} {Q : Exit → Act → World → Prop} (hgd : o.guard = none) (s x : Operand) (t : TypeId)
    (ho : o.op = .call { callee := .builtin .append, args := #[s, x], argTypes := #[t, t] })
    (base : Nat) (e : TypeId) (i : TypeInfo) (ht : P.underlying t = some (.slice e)) (hi : P.info? e = some i) (hz : i.zero = some (.int .u8 0))
    (hsize : i.size = 1) (hby : i.bytes = 1) (S : Option Addr) (d : Nat) (l : List Nat) (hs : a.eval s = .slice S l.length d) (hown : OwnB e w base S d l)
    (A : Option Addr) (c : Nat) (m : List Nat) (hx : a.eval x = .slice A m.length c) (hr : RdB w A m) (hb : l.length + m.length ≤ 140737488355328) (hbase : base ≤ w.heap.size)
    (h : ∀ L A' c' w', Hid (L = l ++ m) → OwnB e w' base A' c' L → Below base w w' → w.grownBy w' (blk S) → (blk A' = blk S ∨ blk A' = some w.heap.size) → wpList P ops Q rest (a.put o.dst (.slice A' L.length c')) w') :
    wpList P ops Q (o :: rest) a w := by
  refine wpList_plain hgd fun K hK => ?_
  obtain ⟨A', c', w', hrun, h2, h3, h4, h5⟩ := run_append_bytes (P := P) w base t o.type e i ht hi hz hsize hby S d l hown A c m hr hb hbase
  unfold Oper.wp execOp
  simp only [ho, resolve, invoke, builtin, Sem.run_bind, Sem.run_pure, Result.andThen_ok, List.map_toArray, List.map_cons, List.map_nil, hs, hx, hrun]
  exact hK _ _ (h _ A' c' w' (Lib.hid rfl) h2 h3 h4 h5)
end
section
variable {α : Type}
def Rd (mk : α → Value) (W : World) (A : Option Addr) (l : List α) : Prop :=
  0 < l.length → ∃ ad, A = some ad ∧ ∀ j (h : j < l.length), W.cell? (ad.add j) = some (mk l[j])
def Own (mk : α → Value) (e : TypeId) (w : World) (base : Nat) (A : Option Addr) (c : Nat) (l : List α) : Prop := w.ownsRow base e 1 (.slice A l.length c) l.length (l.map mk)
variable {mk : α → Value} {e : TypeId} {w w' : World} {base B c g : Nat} {A S T : Option Addr} {l : List α}
theorem Rd.below (h : Rd mk w A l) (hb : Below B w w') (hB : w.heap.size ≤ B) : Rd mk w' A l := by
  intro hl
  obtain ⟨ad, rfl, hc⟩ := h hl
  exact ⟨ad, rfl, fun j hj => (hb.cell (Nat.lt_of_lt_of_le (lt_of_cell (hc j hj)) hB)).trans (hc j hj)⟩
theorem rd_lit (w : World) (cs : Array Value) (e : TypeId) (fr : Nat × Nat) (l : List α) (g : Nat) (hg : g = w.heap.size) (h : cs.toList = l.map mk) : Rd mk (w.alloc (.cells cs e fr)) (some ⟨g, 0, none⟩) l := by
  subst hg
  intro _
  refine ⟨_, rfl, fun j hj => ?_⟩
  have hh : (w.alloc (.cells cs e fr)).heap[w.heap.size]? = some (.cells cs e fr) := heap_alloc_new w _
  have hc : cs[j]? = some (mk l[j]) := by rw [← Array.getElem?_toList, h]; simp [hj]
  unfold Addr.add
  split
  · subst_vars; simp only [World.cell?, hh]; exact hc
  · simp only [World.cell?, hh]; simpa using hc
theorem Own.rd (h : Own mk e w base A c l) : Rd mk w A l := by
  intro hl
  rcases h.2 with ⟨_, h0⟩ | ⟨g, cap, cur, hv, _, _⟩
  · omega
  · have hA : A = some ⟨g, 0, none⟩ := by injection hv
    subst hA
    exact ⟨_, rfl, fun j hj => World.ownsRow.cells h rfl j (mk l[j]) (by simp [hj])⟩
theorem Own.nil (mk : α → Value) (e : TypeId) (w : World) (base : Nat) : Own mk e w base none 0 [] := World.ownsRow_nil w base e 1
theorem Own.lit (mk : α → Value) (e : TypeId) (w : World) (base : Nat) (cs : Array Value) (l : List α) (hb : base ≤ w.heap.size) (hm : l.length ≤ maxLen) (hs : cs.toList = l.map mk) :
    Own mk e (w.alloc (.cells cs e)) base (some ⟨w.heap.size, 0, none⟩) l.length l := by
  have h := World.ownsRow_lit (base := base) (e := e) (size := 1) w cs l.length hb hm (by rw [← Array.length_toList, hs]; simp)
  rw [hs] at h
  exact h
theorem Own.alloc (h : Own mk e w base A c l) (o : Obj) : Own mk e (w.alloc o) base A c l := World.ownsRow.alloc h o
theorem Own.drew (h : Own mk e w base A c l) : Own mk e w.drew base A c l := h
theorem Own.below (h : Own mk e w base A c l) (hb : Below B w w') (hB : w.heap.size ≤ B) : Own mk e w' base A c l := by
  refine ⟨h.1, ?_⟩
  rcases h.2 with h0 | ⟨g, cap, cur, hv, hg, hh, hr⟩
  · exact .inl h0
  · refine .inr ⟨g, cap, cur, hv, hg, ?_, hr⟩
    have hlt : g < w.heap.size := by
      rcases Nat.lt_or_ge g w.heap.size with h' | h'
      · exact h'
      · rw [Array.getElem?_eq_none h'] at hh; cases hh
    rw [hb.block g (by omega)]; exact hh
theorem Own.form (h : Own mk e w base A c l) (hl : 0 < l.length) : ∃ g, A = some ⟨g, 0, none⟩ ∧ base ≤ g := by
  rcases h.2 with ⟨_, h0⟩ | ⟨g, cap, cur, hv, hb, _⟩
  · omega
  · have hA : A = some ⟨g, 0, none⟩ := by injection hv
    exact ⟨g, hA, hb⟩
theorem Own.cell (h : Own mk e w base (some ⟨g, 0, none⟩) c l) (j : Nat) (hj : j < l.length) : w.cell? ⟨g, j, none⟩ = some (mk l[j]) := by
  rw [World.ownsRow.cellAt h j (by omega)]
  simp [hj]
theorem Own.free (h : Own mk e w base (some ⟨g, 0, none⟩) c l) (j : Nat) : w.frozen? ⟨g, j, none⟩ = false := World.ownsRow.frozenAt h j
theorem Own.set (h : Own mk e w base (some ⟨g, 0, none⟩) c l) (j : Nat) (v : α) : Own mk e (w.setCell ⟨g, j, none⟩ (mk v)) base (some ⟨g, 0, none⟩) c (l.set j v) := by
  have := World.ownsRow.stored h j (mk v)
  unfold Own
  rw [List.length_set, List.map_set]
  exact this.1
theorem Own.far (h : Own mk e w base A c l) {p : Addr} (hp : p.block < base) (u : Value) : Own mk e (w.setCell p u) base A c l := ownsRow_setCell_below h hp u
theorem Own.lt (h : Own mk e w base A c l) : ∀ k, blk A = some k → base ≤ k ∧ k < w.heap.size := fun k hk => World.ownsRow.lt h k (by rw [ownBlock_blk]; exact hk)
end
section
variable {P : Program} {α : Type} (mk : α → Value) (w : World)
theorem run_append_one (h1 : ∀ x, (mk x).oneCell' = true) (base : Nat) (t ty e : TypeId) (i : TypeInfo) (z : Value) (bsz : Nat) (ht : P.underlying t = some (.slice e)) (hi : P.info? e = some i) (hz : i.zero = some z)
    (hsize : i.size = 1) (hby : i.bytes = bsz) (hzs : z.cells.size = 1) (S : Option Addr) (d : Nat) (l : List α) (hown : Own mk e w base S d l)
    (ad : Addr) (c : Nat) (x : α) (hr : w.cell? ad = some (mk x)) (h63 : l.length + 1 ≤ maxLen) (hb : (l.length + 1) * bsz ≤ 140737488355328) (hbase : base ≤ w.heap.size) :
    ∃ A' c' w', (Builtin.append_ #[t, t] ty #[.slice S l.length d, .slice (some ad) 1 c]).run P w = .ok (.slice A' (l ++ [x]).length c') w' ∧ Own mk e w' base A' c' (l ++ [x]) ∧ Below base w w' ∧ w.grownBy w' (blk S) ∧ (blk A' = blk S ∨ blk A' = some w.heap.size) := by
  obtain ⟨v', w', hrun, h2, h3, _, h5⟩ := run_append_own_at (P := P) w base t ty e i z 1 bsz ht hi hz hsize hby hzs (by decide) (.slice S l.length d) l.length (l.map mk) hown ad 1 c [mk x] (by simp)
    (fun j u hu => by
      match j, hu with
      | 0, hu => simp at hu; subst hu; simpa [Addr.add] using hr) (fun u hu => by simp at hu; subst hu; exact h1 x)
    h63 hb hbase
  have hshape : ∃ A' c', v' = .slice A' (l ++ [x]).length c' := by
    rcases h2.2 with ⟨e1, e2⟩ | ⟨g, cap, cur, e1, _⟩
    · omega
    · exact ⟨_, _, by rw [e1, List.length_append]; rfl⟩
  obtain ⟨A', c', rfl⟩ := hshape
  rw [ownBlock_blk] at h3; rw [ownBlock_blk, ownBlock_blk] at h5
  refine ⟨A', c', w', hrun, ?_, ?_, h3, h5⟩
  · unfold Own; rw [List.map_append, List.length_append]; rw [List.length_append] at h2; exact h2
  · refine (Below.refl base w).grown h3 hbase fun k hk => ?_
    exact (World.ownsRow.lt hown k (by rw [ownBlock_blk]; exact hk)).1
theorem wpList_append_one (h1 : ∀ x, (mk x).oneCell' = true) {ops : Array Oper} {rest : List Oper} {o : Oper} {a : Act} {Q : Exit → Act → World → Prop} (hgd : o.guard = none) (s x : Operand) (t : TypeId)
    (ho : o.op = .call { callee := .builtin .append, args := #[s, x], argTypes := #[t, t] })
    (base : Nat) (e : TypeId) (i : TypeInfo) (z : Value) (bsz : Nat) (ht : P.underlying t = some (.slice e)) (hi : P.info? e = some i) (hz : i.zero = some z)
    (hsize : i.size = 1) (hby : i.bytes = bsz) (hzs : z.cells.size = 1) (S : Option Addr) (d : Nat) (l : List α) (hs : a.eval s = .slice S l.length d) (hown : Own mk e w base S d l)
    (ad : Addr) (c : Nat) (y : α) (hx : a.eval x = .slice (some ad) 1 c) (hr : w.cell? ad = some (mk y)) (h63 : l.length + 1 ≤ maxLen) (hb : (l.length + 1) * bsz ≤ 140737488355328) (hbase : base ≤ w.heap.size)
    (h : ∀ L A' c' w', Hid (L = l ++ [y]) → Own mk e w' base A' c' L → Below base w w' → w.grownBy w' (blk S) → (blk A' = blk S ∨ blk A' = some w.heap.size) → wpList P ops Q rest (a.put o.dst (.slice A' L.length c')) w') :
    wpList P ops Q (o :: rest) a w := by
  refine wpList_plain hgd fun K hK => ?_
  obtain ⟨A', c', w', hrun, h2, h3, h4, h5⟩ := run_append_one (P := P) mk w h1 base t o.type e i z bsz ht hi hz hsize hby hzs S d l hown ad c y hr h63 hb hbase
  unfold Oper.wp execOp
  simp only [ho, resolve, invoke, builtin, Sem.run_bind, Sem.run_pure, Result.andThen_ok, List.map_toArray, List.map_cons, List.map_nil, hs, hx, hrun]
  exact hK _ _ (h _ A' c' w' (Lib.hid rfl) h2 h3 h4 h5)
theorem wpList_make_list {ops : Array Oper} {rest : List Oper} {o : Oper} {a : Act} {Q : Exit → Act → World → Prop}
    (hg : o.guard = none) (l c : Operand) (t : TypeId) (hop : o.op = Op.makeSlice t l c)
    (base : Nat) (e : TypeId) (i : TypeInfo) (z : α) (ht : P.underlying t = some (.slice e)) (hi : P.info? e = some i) (hz : i.zero = some (mk z)) (hsize : i.size = 1) (hone : (mk z).cells = #[mk z])
    (kl kc : IntKind) (L C : Int) (n : Nat) (hl : a.eval l = .int kl L) (hc : a.eval c = .int kc C) (hL : L = (n : Int)) (hC : C = (n : Int)) (b2 : i.bytes * n ≤ 281474976710656) (b3 : n ≤ maxLen) (b4 : base ≤ w.heap.size)
    (h : ∀ M A' c' w', Hid (M = List.replicate n z) → Own mk e w' base A' c' M → Below w.heap.size w w' → wpList P ops Q rest (a.put o.dst (.slice A' M.length c')) w') : wpList P ops Q (o :: rest) a w := by
  refine wpList_make_full w hg l c t hop base e i (mk z) 1 ht hi hz hsize kl kc L C n hl hc hL hC b2 b3 b4 fun w' hown hgr => ?_
  have := h (List.replicate n z) (some ⟨w.heap.size, 0, none⟩) n w' (Lib.hid rfl) (by
    unfold Own
    rw [List.length_replicate, List.map_replicate]
    rw [hone, Nat.mul_one, toList_madeCells_one] at hown
    exact hown) ((Below.refl _ _).grown hgr (Nat.le_refl _) (by simp))
  rw [List.length_replicate] at this
  exact this
end
theorem cell_alloc_one (w : World) (v : Value) (e : TypeId) (g : Nat) (hg : g = w.heap.size) : (w.alloc (.cells #[v] e)).cell? ⟨g, 0, none⟩ = some v := by
  subst hg
  have hh : (w.alloc (.cells #[v] e)).heap[w.heap.size]? = some (.cells #[v] e (0, 0)) := heap_alloc_new w _
  simp only [World.cell?, hh]; rfl
/-! Strings. -/
def keyN (s : ByteArray) : List Nat := s.data.toList.map UInt8.toNat
theorem keyN_length (s : ByteArray) : (keyN s).length = s.size := by unfold keyN; rw [List.length_map, Array.length_toList]; rfl
theorem keyN_bytes (s : ByteArray) : Bytes (keyN s) := by
  intro b hb
  obtain ⟨x, _, rfl⟩ := List.mem_map.1 hb
  exact x.toNat_lt
theorem keyN_cells (s : ByteArray) : Lib.strCells s = (keyN s).map bv := by simp [Lib.strCells, keyN, bv]
theorem bytesWorld_below (w : World) (e : TypeId) (s : ByteArray) : Below w.heap.size w (Lib.bytesWorld w e s) :=
  ⟨rfl, rfl, rfl, by rw [Lib.bytesWorld_size]; omega, fun k hk => Lib.bytesWorld_at_old w e s k hk⟩
theorem bytesWorld_rd (w : World) (e : TypeId) (s : ByteArray) : RdB (Lib.bytesWorld w e s) (some ⟨w.heap.size, 0, none⟩) (keyN s) := by
  intro _
  refine ⟨_, rfl, fun j hj => ?_⟩
  rw [keyN_length] at hj
  have hadd : (⟨w.heap.size, 0, none⟩ : Addr).add j = ⟨w.heap.size, j, none⟩ := by
    unfold Addr.add; split
    · subst_vars; rfl
    · simp
  rw [hadd, Lib.bytesWorld_cell w e s j hj]
  have hjl : j < s.data.toList.length := by rw [Array.length_toList]; exact hj
  simp [keyN, List.getD, List.getElem?_eq_getElem hjl]
theorem wpList_append_key {P : Program} (w : World) {ops : Array Oper} {rest : List Oper} {o : Oper} {a : Act} {Q : Exit → Act → World → Prop} (hgd : o.guard = none) (sl x : Operand) (t u : TypeId)
    (ho : o.op = .call { callee := .builtin .append, args := #[sl, x], argTypes := #[t, u] })
    (base : Nat) (e : TypeId) (i : TypeInfo) (ht : P.underlying t = some (.slice e)) (hu : P.underlying u = some .string) (hi : P.info? e = some i) (hz : i.zero = some (.int .u8 0))
    (hsize : i.size = 1) (hby : i.bytes = 1) (S : Option Addr) (d : Nat) (l : List Nat) (hs : a.eval sl = .slice S l.length d) (hown : OwnB e w base S d l) (s : ByteArray) (hx : a.eval x = .string s)
    (hb : l.length + s.size ≤ 140737488355328) (hbase : base ≤ w.heap.size)
    (h : ∀ L A' c' w', Hid (L = l ++ keyN s) → OwnB e w' base A' c' L → Below base w w' → wpList P ops Q rest (a.put o.dst (.slice A' L.length c')) w') : wpList P ops Q (o :: rest) a w := by
  refine Lib.wpList_append_own_string w hgd sl x t u ho base e i ht hu hi hz hsize hby (.slice S l.length d) l.length (l.map bv) hs hown s hx (by unfold maxLen; omega) hb hbase fun v' w' h2 h3 _ => ?_
  have hshape : ∃ A' c', v' = .slice A' (l ++ keyN s).length c' := by
    rcases h2.2 with ⟨e1, e2⟩ | ⟨g, cap, cur, e1, _⟩
    · exact ⟨none, 0, by rw [e1, List.length_append, keyN_length, e2]⟩
    · exact ⟨_, _, by rw [e1, List.length_append, keyN_length]⟩
  obtain ⟨A', c', rfl⟩ := hshape
  rw [ownBlock_blk] at h3
  refine h _ A' c' w' (Lib.hid rfl) ?_ ?_
  · unfold OwnB; rw [List.map_append, ← keyN_cells]
    have hl : (l ++ keyN s).length = l.length + s.size := by rw [List.length_append, keyN_length]
    rw [hl] at h2 ⊢
    exact h2
  · refine (Below.refl base w).grown h3 hbase fun k hk => ?_
    exact (World.ownsRow.lt hown k (by rw [ownBlock_blk]; exact hk)).1
open Crc
theorem ret_u32 {a b : Int} (h : a = b) : Ending.returned (.int .u32 a) = .returned (.int .u32 b) := by rw [h]
theorem u32_low (w : Nat) (h : w < 4294967296) : bits .and .u32 (w : Int) 1 = ((w % 2 : Nat) : Int) := by
  rw [show (1 : Int) = ((1 : Nat) : Int) from rfl, u32_and_nat w 1 h (by decide), Nat.and_one_is_mod]
theorem u32_poly (w : Nat) (h : w < 4294967296) : bits .xor .u32 ((w : Int) / 2) 2197175160 = ((w / 2 ^^^ 2197175160 : Nat) : Int) := by
  rw [show (w : Int) / 2 = ((w / 2 : Nat) : Int) by omega]
  exact u32_xor_nat (w / 2) 2197175160 (by omega) (by decide)
theorem bit_any (w : Nat) (h : w < 4294967296) (W : World) :
    Calls Tryz.prog 261 #[.int .u32 (w : Int)] W fun e W' => e = .returned (.int .u32 (bitN w : Nat)) ∧ W = W' := by
  have HA := Lib.hid (u32_low w h)
  have HP := Lib.hid (u32_poly w h)
  go_enter Tryz.func261, Tryz.ntmps261
  go_wp2
  · have hb : (bits BinOp.and IntKind.u32 (↑w) 1 == 1) = true := by assumption
    rw [HA.out] at hb
    have hb' : w % 2 = 1 := by have := eq_of_beq hb; omega
    go_ret
    exact ⟨ret_u32 (by rw [HP.out]; unfold bitN; rw [if_pos hb']), rfl⟩
  · have hb : (bits BinOp.and IntKind.u32 (↑w) 1 == 1) = false := by assumption
    rw [HA.out] at hb
    have hb' : ¬ w % 2 = 1 := by have := ne_of_beq_false hb; omega
    go_ret
    exact ⟨ret_u32 (by unfold bitN; rw [if_neg hb']; omega), rfl⟩
theorem u32_in (w b : Nat) (h : w < 4294967296) (hb : b < 256) : bits .xor .u32 (w : Int) (b : Int) = ((w ^^^ b : Nat) : Int) := u32_xor_nat w b h (by omega)
theorem eight_any (w b : Nat) (h : w < 4294967296) (hb : b < 256) (W : World) :
    Calls Tryz.prog 229 #[.int .u32 (w : Int), .int .u8 (b : Int)] W fun e W' => e = .returned (.int .u32 (eightN w b : Nat)) ∧ W = W' := by
  have HX := Lib.hid (u32_in w b h hb)
  go_enter Tryz.func229, Tryz.ntmps229
  go_wp2
  go_loop [0, 10] (fun s i => ∃ k : Nat, k ≤ 8 ∧ i = .int .i64 k ∧ s = .int .u32 (it k (w ^^^ b) : Nat)) (fun _ i => 8 - (intOf i).toNat)
  case atStart => exact ⟨0, by omega, rfl, by rw [HX.out, it_none]⟩
  case round =>
    obtain ⟨k, hk, rfl, rfl⟩ := hrel
    have hlt := it_lt k (w ^^^ b) (Nat.xor_lt_two_pow (n := 32) h (by omega))
    by_cases hk8 : k < 8
    · go_wp2_with (go_at_call 261; refine (bit_any _ hlt _).mono ?_; rintro e w' ⟨rfl, rfl⟩)
      go_round
      case rel => exact ⟨k + 1, by omega, by go_num, by rw [it_snoc]⟩
      case measure => simp [intOf]; omega
    · go_wp2
      go_ret
      exact ⟨ret_u32 (by rw [show k = 8 by omega]; unfold eightN; rfl), rfl⟩
theorem Tryz.infoB : (Tryz.prog.info? 5).map (fun i => (i.zero, i.size, i.bytes)) = some (some (.int .u8 0), 1, 1) := by kernel_rfl
/-! Two rows of bytes held against each other: as strings. -/
def strN (l : List Nat) : ByteArray := strOfNums (l.map fun (n : Nat) => (n : Int))
theorem run_conv_bytes {P : Program} (w : World) (src dst e : TypeId) (hs : P.underlying src = some (.slice e)) (he : P.underlying e = some (.int .u8)) (hd : P.underlying dst = some .string) (A : Option Addr) (l : List Nat) (c : Nat) (hr : RdB w A l) :
    (convert src dst (.slice A l.length c)).run P w = .ok (.string (strN l)) w := by
  rw [run_convert_bytes_string w src dst e _ _ c hs he hd]
  rcases A with _ | ad
  · have hl : l = [] := by
      rcases l with _ | ⟨b, l⟩
      · rfl
      · obtain ⟨ad, h, _⟩ := hr (by simp)
        cases h
    subst hl
    simp [Conv.bytesToString]
    rfl
  · have hl : (loadCells ad l.length).run P w = .ok ((l.map fun (n : Nat) => (n : Int)).map (Value.int .u8)).toArray w := by
      have := run_loadCells_list (P := P) w ad ((l.map fun (n : Nat) => (n : Int)).map (Value.int .u8)) (fun j v hj => by
        have hjl : j < l.length := by
          rcases Nat.lt_or_ge j l.length with h | h
          · exact h
          · rw [List.getElem?_eq_none (by simpa using h)] at hj; cases hj
        obtain ⟨ad', h, hc⟩ := hr (by omega)
        injection h with h
        subst h
        rw [hc j hjl]
        simpa [hjl] using hj)
      simpa using this
    rw [run_bytesToString w _ _ c _ hl, foldl_push_bytes]
    simp [strN, strOfNums, ByteArray.empty, ByteArray.emptyWithCapacity]
    rfl
open Crc
def all32 : Nat := 4294967295
def sumN (l : List Nat) : Nat := crcN all32 l ^^^ all32
def moreN (s : Nat) (l : List Nat) : Nat := crcN (s ^^^ all32) l ^^^ all32
theorem u32_all (w : Nat) (h : w < 4294967296) : bits .xor .u32 (w : Int) 4294967295 = ((w ^^^ all32 : Nat) : Int) := u32_xor_nat w 4294967295 h (by decide)
theorem all_lt (w : Nat) (h : w < 4294967296) : w ^^^ all32 < 4294967296 := Nat.xor_lt_two_pow (n := 32) h (by decide)
theorem bytes_take {l : List Nat} (h : Bytes l) (k : Nat) : Bytes (l.take k) := fun b hb => h b (List.mem_of_mem_take hb)
theorem crc_take {l : List Nat} (w k : Nat) (hk : k < l.length) : eightN (crcN w (l.take k)) l[k] = crcN w (l.take (k + 1)) := by
  rw [List.take_succ_eq_append_getElem hk, crcN_snoc]
theorem more_any (s : Nat) (hs : s < 4294967296) (A : Option Addr) (l : List Nat) (c : Nat) (hl : Bytes l) (hm : l.length ≤ 140737488351232) (W : World) (hr : RdB W A l) :
    Calls Tryz.prog 197 #[.int .u32 (s : Int), .slice A l.length c] W fun e W' => e = .returned (.int .u32 (moreN s l : Nat)) ∧ W = W' := by
  have HS := Lib.hid (u32_all s hs)
  have hs0 := all_lt s hs
  have HR := Lib.hid hr
  clear hr
  go_enter Tryz.func197, Tryz.ntmps197
  go_wp2
  go_loop [5, 12] (fun t i => ∃ k : Nat, k ≤ l.length ∧ i = .int .i64 k ∧ t = .int .u32 (crcN (s ^^^ all32) (l.take k) : Nat)) (fun _ i => l.length - (intOf i).toNat)
  case atStart => exact ⟨0, Nat.zero_le _, rfl, by rw [HS.out, List.take_zero, crcN_nil]⟩
  case round =>
    obtain ⟨k, hk, rfl, rfl⟩ := hrel
    have hlt := crcN_lt (l.take k) _ hs0 (bytes_take hl k)
    by_cases hk8 : k < l.length
    · obtain ⟨ad, rfl, hc⟩ := HR.out (by omega)
      have hck := hc k hk8
      have hb : l[k] < 256 := hl _ (List.getElem_mem _)
      clear hc
      go_wp2_with (go_at_call 229; refine (eight_any _ _ hlt hb _).mono ?_; rintro e w' ⟨rfl, rfl⟩)
      go_round
      case rel => exact ⟨k + 1, by omega, by go_num, by rw [crc_take _ _ hk8]⟩
      case measure => simp [intOf]; omega
    · have HA := Lib.hid (u32_all _ hlt)
      go_wp2
      go_ret
      exact ⟨ret_u32 (by rw [HA.out, List.take_of_length_le (by omega)]; rfl), rfl⟩
theorem sumN_eq (l : List Nat) : moreN 0 l = sumN l := by unfold moreN sumN; rw [Nat.zero_xor]
theorem sumN_lt {l : List Nat} (h : Bytes l) : sumN l < 4294967296 := all_lt _ (crcN_lt l _ (by decide) h)
theorem sum_any (A : Option Addr) (l : List Nat) (c : Nat) (hl : Bytes l) (hm : l.length ≤ 140737488351232) (W : World) (hr : RdB W A l) :
    Calls Tryz.prog 165 #[.slice A l.length c] W fun e W' => e = .returned (.int .u32 (sumN l : Nat)) ∧ W = W' := by
  have HR := Lib.hid hr
  clear hr
  go_enter Tryz.func165, Tryz.ntmps165
  go_wp2_with (go_at_call 197; refine (more_any 0 (by decide) A l c hl hm _ HR.out).mono ?_; rintro e w' ⟨rfl, rfl⟩)
  go_ret
  exact ⟨ret_u32 (by rw [sumN_eq]), rfl⟩
/-! The reference's sum. -/
/-! The same, with the length under a name of its own. -/
theorem sum_n (A : Option Addr) (l : List Nat) (n c : Nat) (hn : l.length = n) (hl : Bytes l) (hm : l.length ≤ 140737488351232) (W : World) (hr : RdB W A l) :
    Calls Tryz.prog 165 #[.slice A n c] W fun e W' => e = .returned (.int .u32 (sumN l : Nat)) ∧ W = W' := by
  subst hn; exact sum_any A l c hl hm W hr
end Go.Proofs.YtoigogjmhkpdlaaGreat
