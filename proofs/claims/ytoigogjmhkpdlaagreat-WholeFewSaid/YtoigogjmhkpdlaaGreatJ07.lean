/- A part of the proof of WholeFew: the texts Map, Sep, Iter, Disk, Used, MapOps, Append, Append2. -/
import Derived.Test.YtoigogjmhkpdlaaGreatJ05
import Derived.Maps.Own
import Derived.Maps.RangeWalk
set_option maxHeartbeats 1600000
set_option maxRecDepth 100000
namespace Go.Proofs.YtoigogjmhkpdlaaGreat
open Go.RowKit
open MapKept
def MapIs (w : World) (d : TypeDesc) (b : Nat) (l : List (Value × Value)) : Prop :=
  ∃ es clock, w.heap[b]? = some (.map es clock) ∧ Stamped es clock ∧ (∀ x ∈ es.toList, IsKey d x.key) ∧ es.toList.map (fun e => (e.key, e.val)) = l ∧ l.Pairwise (fun p q => p.1 ≠ q.1)
theorem pair_uniq {l : List (Value × Value)} (h : l.Pairwise (fun p q => p.1 ≠ q.1)) {k v v' : Value} (h1 : (k, v) ∈ l) (h2 : (k, v') ∈ l) : v = v' := by
  induction l with
  | nil => cases h1
  | cons p l ih =>
    rw [List.pairwise_cons] at h
    rcases List.mem_cons.1 h1 with e1 | m1 <;> rcases List.mem_cons.1 h2 with e2 | m2
    · rw [← e1] at e2; injection e2 with _ e; exact e.symm
    · exact absurd (by rw [← e1]) (h.1 _ m2)
    · exact absurd (by rw [← e2]) (h.1 _ m1)
    · exact ih h.2 m1 m2
variable {P : Program} {w : World} {t k e : TypeId} {d : TypeDesc} {b : Nat} {l : List (Value × Value)} {key : Value}
theorem MapIs.look (ht : P.underlying t = some (.map k e)) (hk : P.underlying k = some d) (hkey : IsKey d key) (h : MapIs w d b l) (c : Bool) {v : Value} (hv : (key, v) ∈ l) :
    (Instr.lookup t (.map (some b)) key c).run P w = .ok (if c then .tuple #[v, .bool true] else v) w := by
  obtain ⟨es, clock, hb, _, hK, hl, hu⟩ := h
  rcases findNow_spec hkey es.toList 0 hK with ⟨_, h2⟩ | ⟨j, e0, h1, h2, h3⟩
  · rw [← hl] at hv
    obtain ⟨x, hx, he⟩ := List.mem_map.1 hv
    injection he with he _
    exact absurd he (h2 x hx)
  · have hm : (key, e0.val) ∈ l := by
      rw [← hl]; exact List.mem_map.2 ⟨e0, List.mem_of_getElem? h2, by rw [h3]⟩
    have := pair_uniq hu hv hm
    subst this
    cases c <;> simp [Instr.lookup, run_underlying ht, MapKept.run_getObj_map hb, MapKept.run_checkKey hk hkey, MapKept.run_findKey hk h1, Result.andThen]
theorem MapIs.look_none (ht : P.underlying t = some (.map k e)) (hk : P.underlying k = some d) (hkey : IsKey d key) (h : MapIs w d b l) (c : Bool) (hv : ∀ p ∈ l, p.1 ≠ key) {z : Value} (hz : (zeroValue e).run P w = .ok z w) :
    (Instr.lookup t (.map (some b)) key c).run P w = .ok (if c then .tuple #[z, .bool false] else z) w := by
  obtain ⟨es, clock, hb, _, hK, hl, hu⟩ := h
  rcases findNow_spec hkey es.toList 0 hK with ⟨h1, _⟩ | ⟨j, e0, h1, h2, h3⟩
  · cases c <;> simp [Instr.lookup, run_underlying ht, MapKept.run_getObj_map hb, MapKept.run_checkKey hk hkey, MapKept.run_findKey hk h1, Result.andThen, hz]
  · exact absurd h3 (hv (e0.key, e0.val) (by rw [← hl]; exact List.mem_map.2 ⟨e0, List.mem_of_getElem? h2, rfl⟩))
theorem MapIs.lt (h : MapIs w d b l) : b < w.heap.size := by
  obtain ⟨es, clock, hb, _⟩ := h
  exact (Array.getElem?_eq_some_iff.1 hb).1
theorem MapIs.of_block {w' : World} (h : MapIs w d b l) (hb : w'.heap[b]? = w.heap[b]?) : MapIs w' d b l := by
  obtain ⟨es, clock, h1, h2⟩ := h
  exact ⟨es, clock, hb.trans h1, h2⟩
theorem MapIs.store_new (ht : P.underlying t = some (.map k e)) (hk : P.underlying k = some d) (hkey : IsKey d key) (h : MapIs w d b l) (hv : ∀ p ∈ l, p.1 ≠ key) (v : Value) :
    ∃ w', (Instr.mapUpdate t (.map (some b)) key v).run P w = .ok () w' ∧ MapIs w' d b (l ++ [(key, v)]) ∧ w.grownBy w' (some b) ∧ w'.heap.size = w.heap.size := by
  obtain ⟨es, clock, hb, hS, hK, hl, hu⟩ := h
  have hne : ∀ x ∈ es.toList, x.key ≠ key := fun x hx => hv (x.key, x.val) (by rw [← hl]; exact List.mem_map.2 ⟨x, hx, rfl⟩)
  rcases findNow_spec hkey es.toList 0 hK with ⟨h1, _⟩ | ⟨j, e0, h1, h2, h3⟩
  · refine ⟨Go.ChangeMaps.setBlock w b (.map (es.push ⟨key, v, clock⟩) (clock + 1)), ?_, ⟨_, _, (MapKept.heap_set hb).1, stamped_push hS hne, ?_, ?_, ?_⟩, ⟨rfl, rfl, rfl, ?_, fun i _ hi => (MapKept.heap_set hb).2 i (fun e => hi (by rw [e]))⟩, ?_⟩
    · simp [Instr.mapUpdate, run_underlying ht, MapKept.run_getObj_map hb, MapKept.run_checkKey hk hkey, MapKept.run_findKey hk h1, MapKept.run_setObj_map _ hb, Result.andThen, Go.ChangeMaps.setBlock]
    · intro x hx
      simp only [Array.toList_push, List.mem_append, List.mem_singleton] at hx
      rcases hx with hx | rfl
      · exact hK x hx
      · exact hkey
    · rw [Array.toList_push, List.map_append, hl]; rfl
    · rw [List.pairwise_append]
      refine ⟨hu, by simp, fun p hp q hq => ?_⟩
      obtain rfl := List.mem_singleton.1 hq
      exact hv p hp
    · simp [Go.ChangeMaps.setBlock]
    · simp [Go.ChangeMaps.setBlock]
  · exact absurd h3 (hne e0 (List.mem_of_getElem? h2))
theorem idx_uniq {l : List (Value × Value)} (h : l.Pairwise (fun p q => p.1 ≠ q.1)) {i j : Nat} {k v v' : Value} (h1 : l[i]? = some (k, v)) (h2 : l[j]? = some (k, v')) : i = j := by
  obtain ⟨hi, e1⟩ := List.getElem?_eq_some_iff.1 h1
  obtain ⟨hj, e2⟩ := List.getElem?_eq_some_iff.1 h2
  rcases Nat.lt_trichotomy i j with hlt | he | hlt
  · exact absurd (by rw [e1, e2]) (List.pairwise_iff_getElem.1 h i j hi hj hlt)
  · exact he
  · exact absurd (by rw [e1, e2]) (List.pairwise_iff_getElem.1 h j i hj hi hlt)
theorem MapIs.store_old (ht : P.underlying t = some (.map k e)) (hk : P.underlying k = some d) (hkey : IsKey d key) (h : MapIs w d b l) {j : Nat} {v0 : Value} (hj : l[j]? = some (key, v0)) (v : Value) :
    ∃ w', (Instr.mapUpdate t (.map (some b)) key v).run P w = .ok () w' ∧ MapIs w' d b (l.set j (key, v)) ∧ w.grownBy w' (some b) ∧ w'.heap.size = w.heap.size := by
  obtain ⟨es, clock, hb, hS, hK, hl, hu⟩ := h
  have hjm : (key, v0) ∈ l := List.mem_of_getElem? hj
  rcases findNow_spec hkey es.toList 0 hK with ⟨_, h2⟩ | ⟨i, e0, h1, h2, h3⟩
  · rw [← hl] at hjm
    obtain ⟨x, hx, he⟩ := List.mem_map.1 hjm
    injection he with he _
    exact absurd he (h2 x hx)
  · have hi : l[i]? = some (key, e0.val) := by rw [← hl, List.getElem?_map, h2, ← h3]; rfl
    obtain rfl := idx_uniq hu hi hj
    have hi' : es[i]? = some e0 := by simpa using h2
    have hkeyf : ∀ e', es[i]? = some e' → ({ e' with key := key, val := v } : MapEntry).key = e'.key := fun e' he' => by rw [hi'] at he'; cases he'; exact h3.symm
    have hlist : (es.modify i (fun e' => { e' with key := key, val := v })).toList = es.toList.set i { e0 with key := key, val := v } := by rw [Array.toList_modify, Go.ChangeMaps.modify_eq_set _ _ _ _ h2]
    refine ⟨Go.ChangeMaps.setBlock w b (.map (es.modify i (fun e' => { e' with key := key, val := v })) clock), ?_, ⟨_, _, (MapKept.heap_set hb).1, stamped_modify hS _ _ (fun _ _ => rfl) (fun e' _ he' => hkeyf e' he'), ?_, ?_, ?_⟩, ⟨rfl, rfl, rfl, ?_, fun i _ hi => (MapKept.heap_set hb).2 i (fun e => hi (by rw [e]))⟩, ?_⟩
    · simp [Instr.mapUpdate, run_underlying ht, MapKept.run_getObj_map hb, MapKept.run_checkKey hk hkey, MapKept.run_findKey hk h1, hi', h3, MapKept.run_keyThatStays hkey, MapKept.run_setObj_map _ hb, Result.andThen, Go.ChangeMaps.setBlock]
    · exact isKey_modify hK _ _ hkeyf
    · rw [hlist, List.map_set, hl]
    · rw [List.pairwise_iff_getElem] at hu ⊢
      obtain ⟨hil, hie⟩ := List.getElem?_eq_some_iff.1 hi
      intro p q hp hq hpq
      rw [List.length_set] at hp hq
      have key_of : ∀ n (hn : n < l.length), ((l.set i (key, v))[n]'(by rw [List.length_set]; exact hn)).1 = l[n].1 := by
        intro n hn
        rw [List.getElem_set]
        split
        · rename_i e; subst e; rw [hie]
        · rfl
      rw [key_of p hp, key_of q hq]
      exact hu p q hp hq hpq
    · simp [Go.ChangeMaps.setBlock]
    · simp [Go.ChangeMaps.setBlock]
theorem MapIs.drop (ht : P.underlying t = some (.map k e)) (hk : P.underlying k = some d) (hkey : IsKey d key) (h : MapIs w d b l) {j : Nat} {v0 : Value} (hj : l[j]? = some (key, v0)) (ty : TypeId) :
    ∃ w', (Builtin.delete_ #[t, k] ty #[.map (some b), key]).run P w = .ok (.tuple #[]) w' ∧ MapIs w' d b (l.eraseIdx j) ∧ w.grownBy w' (some b) ∧ w'.heap.size = w.heap.size := by
  obtain ⟨es, clock, hb, hS, hK, hl, hu⟩ := h
  have hjm : (key, v0) ∈ l := List.mem_of_getElem? hj
  rcases findNow_spec hkey es.toList 0 hK with ⟨_, h2⟩ | ⟨i, e0, h1, h2, h3⟩
  · rw [← hl] at hjm
    obtain ⟨x, hx, he⟩ := List.mem_map.1 hjm
    injection he with he _
    exact absurd he (h2 x hx)
  · have hi : l[i]? = some (key, e0.val) := by rw [← hl, List.getElem?_map, h2, ← h3]; rfl
    obtain rfl := idx_uniq hu hi hj
    have hil : i < es.toList.length := (List.getElem?_eq_some_iff.1 h2).1
    have his : i < es.size := by simpa using hil
    have hsub : (es.eraseIdxIfInBounds i).toList = es.toList.eraseIdx i := by
      unfold Array.eraseIdxIfInBounds
      rw [dif_pos his]
      simp
    refine ⟨Go.ChangeMaps.setBlock w b (.map (es.eraseIdxIfInBounds i) clock), ?_, ⟨_, _, (MapKept.heap_set hb).1, stamped_erase hS i, ?_, ?_, ?_⟩, ⟨rfl, rfl, rfl, ?_, fun i _ hi => (MapKept.heap_set hb).2 i (fun e => hi (by rw [e]))⟩, ?_⟩
    · simp [Builtin.delete_, run_underlying ht, MapKept.run_getObj_map hb, MapKept.run_checkKey hk hkey, MapKept.run_findKey hk h1, MapKept.run_setObj_map _ hb, Result.andThen, Go.ChangeMaps.setBlock]
    · intro x hx
      rw [hsub] at hx
      exact hK x ((List.eraseIdx_sublist _ _).subset hx)
    · rw [hsub, Go.ChangeMaps.map_eraseIdx, hl]
    · exact hu.sublist (List.eraseIdx_sublist _ _)
    · simp [Go.ChangeMaps.setBlock]
    · simp [Go.ChangeMaps.setBlock]
theorem MapIs.len (ht : P.underlying t = some (.map k e)) (h : MapIs w d b l) (ty : TypeId) : (Builtin.len_ #[t] ty #[.map (some b)]).run P w = .ok (.int .i64 (l.length : Nat)) w := by
  obtain ⟨es, clock, hb, _, _, hl, _⟩ := h
  have : es.size = l.length := by rw [← hl]; simp
  simp [Builtin.len_, run_underlying ht, MapKept.run_getObj_map hb, this]
  rfl
theorem MapIs.made (w : World) (d : TypeDesc) : MapIs (w.alloc (.map #[] 0)) d w.heap.size [] :=
  ⟨#[], 0, heap_alloc_new w _, ⟨by simp, by simp, by simp⟩, by simp, rfl, List.Pairwise.nil⟩
section
variable {ops : Array Oper} {rest : List Oper} {o : Oper} {a : Act} {Q : Exit → Act → World → Prop}
theorem wpList_store_run (hg : o.guard = none) (m x v : Operand) (t : TypeId) (hop : o.op = Op.mapUpdate t m x v) (mv key vv : Value) (hm : a.eval m = mv) (hx : a.eval x = key) (hv : a.eval v = vv)
    {w' : World} (hrun : (Instr.mapUpdate t mv key vv).run P w = .ok () w') (hK : wpList P ops Q rest (a.put o.dst undef) w') : wpList P ops Q (o :: rest) a w := by
  refine wpList_plain hg fun K' hK' => ?_
  unfold Oper.wp
  simp [execOp, hop, hm, hx, hv, hrun, Result.andThen]
  exact hK' _ _ hK
end
structure Turned (S : Nat → Prop) (W W' : World) : Prop where
  os : W'.os = W.os
  tape : W'.tape = W.tape
  output : W'.output = W.output
  size : W.heap.size ≤ W'.heap.size
  block : ∀ k, k < W.heap.size → ¬ S k → W'.heap[k]? = W.heap[k]?
theorem Turned.refl (S : Nat → Prop) (W : World) : Turned S W W := ⟨rfl, rfl, rfl, Nat.le_refl _, fun _ _ _ => rfl⟩
theorem Turned.trans {S : Nat → Prop} {W W1 W2 : World} (h : Turned S W W1) (h2 : Turned S W1 W2) : Turned S W W2 :=
  ⟨h2.os.trans h.os, h2.tape.trans h.tape, h2.output.trans h.output, Nat.le_trans h.size h2.size, fun k hk hS => (h2.block k (Nat.lt_of_lt_of_le hk h.size) hS).trans (h.block k hk hS)⟩
theorem Turned.of_below {S : Nat → Prop} {W W' : World} (h : Below W.heap.size W W') : Turned S W W' := ⟨h.os, h.tape, h.output, h.size, fun k hk _ => h.block k hk⟩
theorem Turned.below {S : Nat → Prop} {W W1 W2 : World} (h : Turned S W W1) {B : Nat} (h2 : Below B W1 W2) (hB : W.heap.size ≤ B) : Turned S W W2 :=
  ⟨h2.os.trans h.os, h2.tape.trans h.tape, h2.output.trans h.output, Nat.le_trans h.size h2.size, fun k hk hS => (h2.block k (Nat.lt_of_lt_of_le hk hB)).trans (h.block k hk hS)⟩
theorem Turned.setCell {S : Nat → Prop} {W W' : World} (h : Turned S W W') {p : Addr} (hp : S p.block ∨ W.heap.size ≤ p.block) (v : Value) : Turned S W (W'.setCell p v) :=
  ⟨h.os, h.tape, h.output, by rw [World.size_setCell]; exact h.size, fun k hk hS => (heap_setCell_other _ _ _ _ (fun e => by
    rcases hp with hp | hp
    · exact hS (by rw [e]; exact hp)
    · omega)).trans (h.block k hk hS)⟩
theorem Turned.alloc {S : Nat → Prop} {W W' : World} (h : Turned S W W') (o : Obj) : Turned S W (W'.alloc o) :=
  h.below ((Below.refl W'.heap.size W').alloc (Nat.le_refl _) o) h.size
theorem Turned.drewN {S : Nat → Prop} {W W' : World} (h : Turned S W W') (n : Nat) : Turned S W (W'.drewN n) := ⟨h.os, h.tape, h.output, h.size, h.block⟩
theorem Turned.drew {S : Nat → Prop} {W W' : World} (h : Turned S W W') : Turned S W W'.drew := ⟨h.os, h.tape, h.output, h.size, h.block⟩
theorem Turned.undrew {S : Nat → Prop} {W W' : World} (h : Turned S W.drew W') : Turned S W W' := ⟨h.os, h.tape, h.output, h.size, h.block⟩
theorem Turned.grown {S : Nat → Prop} {W W1 W2 : World} (h : Turned S W W1) {r : Option Nat} (g : W1.grownBy W2 r) (hr : ∀ k, r = some k → S k ∨ W.heap.size ≤ k) : Turned S W W2 :=
  ⟨g.os.trans h.os, g.tape.trans h.tape, g.output.trans h.output, Nat.le_trans h.size g.size, fun k hk hS => (g.block k (Nat.lt_of_lt_of_le hk h.size) (fun e => by
    rcases hr k e.symm with h' | h'
    · exact hS h'
    · omega)).trans (h.block k hk hS)⟩
theorem Turned.cell {S : Nat → Prop} {W W' : World} (h : Turned S W W') {p : Addr} (hp : p.block < W.heap.size) (hS : ¬ S p.block) : W'.cell? p = W.cell? p := by
  unfold World.cell?; rw [h.block _ hp hS]
theorem Turned.wide {S S2 : Nat → Prop} {W W' : World} (h : Turned S W W') (hs : ∀ k, S k → k < W.heap.size → S2 k) : Turned S2 W W' :=
  ⟨h.os, h.tape, h.output, h.size, fun k hk hS => h.block k hk (fun e => hS (hs k e hk))⟩
theorem Turned.next {S S1 : Nat → Prop} {W W1 W2 : World} (h : Turned S W W1) (h2 : Turned S1 W1 W2) (hs : ∀ k, S1 k → S k ∨ W.heap.size ≤ k) : Turned S W W2 :=
  ⟨h2.os.trans h.os, h2.tape.trans h.tape, h2.output.trans h.output, Nat.le_trans h.size h2.size, fun k hk hS => (h2.block k (Nat.lt_of_lt_of_le hk h.size) (fun e => by
    rcases hs k e with h' | h'
    · exact hS h'
    · omega)).trans (h.block k hk hS)⟩
def Lt (S : Nat → Prop) (W : World) : Prop := ∀ k, S k → k < W.heap.size
def Dj (S T : Nat → Prop) : Prop := ∀ k, S k → T k → False
theorem Dj.symm {S T : Nat → Prop} (h : Dj S T) : Dj T S := fun k a b => h k b a
structure Step (S : Nat → Prop) (W W' : World) (S' : Nat → Prop) : Prop where
  t : Turned S W W'
  sub : ∀ k, S' k → S k ∨ W.heap.size ≤ k
  lt : Lt S' W'
theorem Step.refl {S : Nat → Prop} {W : World} (h : Lt S W) : Step S W W S := ⟨Turned.refl _ _, fun _ h => .inl h, h⟩
theorem Step.of_turned {S : Nat → Prop} {W W' : World} (h : Turned S W W') (hl : Lt S W) : Step S W W' S := ⟨h, fun _ h => .inl h, fun k hk => Nat.lt_of_lt_of_le (hl k hk) h.size⟩
theorem Step.trans {S S1 S2 : Nat → Prop} {W W1 W2 : World} (h : Step S W W1 S1) (h2 : Step S1 W1 W2 S2) : Step S W W2 S2 :=
  ⟨h.t.next h2.t h.sub, fun k hk => by
    rcases h2.sub k hk with h' | h'
    · exact h.sub k h'
    · exact .inr (Nat.le_trans h.t.size h'), h2.lt⟩
theorem Step.dj {S S' T : Nat → Prop} {W W' : World} (h : Step S W W' S') (hd : Dj T S) (hl : Lt T W) : Dj T S' := fun k a b => by
  rcases h.sub k b with h' | h'
  · exact hd k a h'
  · have := hl k a; omega
theorem Turned.keeps {S T : Nat → Prop} {W W' : World} (h : Turned S W W') (hd : Dj T S) (hl : Lt T W) : ∀ k, T k → W'.heap[k]? = W.heap[k]? := fun k hk => h.block k (hl k hk) (fun e => hd k hk e)
theorem Lt.wide {S : Nat → Prop} {W W' : World} (h : Lt S W) (hs : W.heap.size ≤ W'.heap.size) : Lt S W' := fun k hk => Nat.lt_of_lt_of_le (h k hk) hs
theorem OwnB.of_block {e : TypeId} {w w' : World} {base : Nat} {A : Option Addr} {c : Nat} {l : List Nat} (h : OwnB e w base A c l) (hb : ∀ k, blk A = some k → w'.heap[k]? = w.heap[k]?) : OwnB e w' base A c l := by
  refine ⟨h.1, ?_⟩
  rcases h.2 with h0 | ⟨g, cap, cur, hv, hg, hh, hr⟩
  · exact .inl h0
  · have hA : A = some ⟨g, 0, none⟩ := by injection hv
    exact .inr ⟨g, cap, cur, hv, hg, (hb g (by rw [hA]; rfl)).trans hh, hr⟩
theorem RdB.of_block {w w' : World} {A : Option Addr} {l : List Nat} (h : RdB w A l) (hb : ∀ k, blk A = some k → w'.heap[k]? = w.heap[k]?) : RdB w' A l := by
  intro hl
  obtain ⟨ad, rfl, hc⟩ := h hl
  refine ⟨ad, rfl, fun j hj => ?_⟩
  rw [← hc j hj]
  have := hb ad.block rfl
  unfold World.cell?
  rw [add_block, this]
theorem RdB.not_map {w : World} {A : Option Addr} {l : List Nat} (h : RdB w A l) (hl : 0 < l.length) {d : TypeDesc} {M : Nat} {m : List (Value × Value)} (hM : MapIs w d M m) : ∀ k, blk A = some k → k ≠ M ∧ k < w.heap.size := by
  obtain ⟨ad, rfl, hc⟩ := h hl
  intro k hk
  have e : ad.block = k := by simpa [blk] using hk
  have h0 := hc 0 hl
  have hlt := lt_of_cell h0
  rw [add_block] at hlt
  refine ⟨fun e2 => ?_, by omega⟩
  obtain ⟨es, clock, hb, _⟩ := hM
  unfold World.cell? at h0
  rw [add_block, e, e2, hb] at h0
  simp at h0
def RowB (e : TypeId) (W : World) (A : Option Addr) (c : Nat) (bs : List Nat) : Prop :=
  OwnB e W 0 A c bs ∨ (c = bs.length ∧ RdB W A bs ∧ bs ≠ [])
theorem RowB.of_block {e : TypeId} {w w' : World} {A : Option Addr} {c : Nat} {l : List Nat} (h : RowB e w A c l) (hb : ∀ k, blk A = some k → w'.heap[k]? = w.heap[k]?) : RowB e w' A c l := by
  rcases h with h | ⟨h1, h2, h3⟩
  · exact .inl (h.of_block hb)
  · exact .inr ⟨h1, h2.of_block hb, h3⟩
theorem RowB.rd {e : TypeId} {w : World} {A : Option Addr} {c : Nat} {l : List Nat} (h : RowB e w A c l) : RdB w A l := by
  rcases h with h | ⟨_, h2, _⟩
  · exact h.rd
  · exact h2
theorem RowB.cap {e : TypeId} {w : World} {A : Option Addr} {c : Nat} {l : List Nat} (h : RowB e w A c l) : l.length ≤ c := by
  rcases h with h | ⟨h, _, _⟩
  · exact h.cap
  · omega
theorem World.ownsRow_base {e : TypeId} {w : World} {b b' size n : Nat} {v : Value} {xs : List Value} (h : w.ownsRow b e size v n xs) (hb : b' ≤ b) : w.ownsRow b' e size v n xs := by
  refine ⟨h.1, ?_⟩
  rcases h.2 with h0 | ⟨g, cap, cur, hv, hg, hr⟩
  · exact .inl h0
  · exact .inr ⟨g, cap, cur, hv, Nat.le_trans hb hg, hr⟩
theorem OwnB.base {e : TypeId} {w : World} {b b' : Nat} {A : Option Addr} {c : Nat} {l : List Nat} (h : OwnB e w b A c l) (hb : b' ≤ b) : OwnB e w b' A c l := World.ownsRow_base h hb
section
variable {P : Program} (w : World)
theorem run_append_row (t ty e : TypeId) (i : TypeInfo) (ht : P.underlying t = some (.slice e)) (hi : P.info? e = some i) (hz : i.zero = some (.int .u8 0))
    (hsize : i.size = 1) (hby : i.bytes = 1) (S : Option Addr) (d : Nat) (l : List Nat) (hown : RowB e w S d l)
    (A : Option Addr) (c : Nat) (m : List Nat) (hm : 0 < m.length) (hr : RdB w A m) (hb : l.length + m.length ≤ 140737488355328) :
    ∃ A' c' w', (Builtin.append_ #[t, t] ty #[.slice S l.length d, .slice A m.length c]).run P w = .ok (.slice A' (l ++ m).length c') w' ∧ OwnB e w' 0 A' c' (l ++ m) ∧ w.grownBy w' (blk S) ∧ (blk A' = blk S ∨ blk A' = some w.heap.size) := by
  rcases hown with hown | ⟨rfl, hrs, hne⟩
  · obtain ⟨A', c', w', h1, h2, _, h4, h5⟩ := run_append_bytes (P := P) w 0 t ty e i ht hi hz hsize hby S d l hown A c m hr hb (Nat.zero_le _)
    exact ⟨A', c', w', h1, h2, h4, h5⟩
  · have hl : 0 < l.length := by
      cases l with
      | nil => exact absurd rfl hne
      | cons => simp
    obtain ⟨b, rfl, hcb⟩ := hrs hl
    obtain ⟨ad, rfl, hca⟩ := hr hm
    have hHb : ∀ j u, (l.map bv)[j]? = some u → w.cell? (b.add j) = some u := fun j u hu => by
        have hj : j < l.length := by
          rcases Nat.lt_or_ge j l.length with h' | h'
          · exact h'
          · rw [List.getElem?_eq_none (by simpa using h')] at hu; cases hu
        rw [hcb j hj]; simpa [hj, bv] using hu
    have hHa : ∀ j u, (m.map bv)[j]? = some u → w.cell? (ad.add j) = some u := fun j u hu => by
        have hj : j < m.length := by
          rcases Nat.lt_or_ge j m.length with h' | h'
          · exact h'
          · rw [List.getElem?_eq_none (by simpa using h')] at hu; cases hu
        rw [hca j hj]; simpa [hj, bv] using hu
    have hx := run_append_grow (P := P) w t ty e i (.int .u8 0) ht hi hz b l.length l.length (l.map bv) (by simp [hsize]) hHb ad m.length c (m.map bv) (by simp [hsize]) hHa (by omega) (by omega) (growslice_fits (by omega) (by rw [hby]; omega))
    obtain ⟨v', w', hrun, h2, h3⟩ := run_append_arg_grows (P := P) w t ty e i (.int .u8 0) 1 1 ht hi hz hsize hby rfl (by decide) b l.length l.length (l.map bv) (by simp)
      hHb ad m.length c (m.map bv) (by simp) hHa
      (by omega) (by unfold maxLen; omega) (by omega)
    rcases h2.2 with ⟨_, e2⟩ | ⟨g, cap, cur, e1, hg, hh, hrest⟩
    · omega
    · subst e1
      refine ⟨some ⟨g, 0, none⟩, cap, w', by rw [List.length_append]; exact hrun, ?_, ⟨h3.os, h3.tape, h3.output, h3.size, fun k hk _ => h3.block k hk (by simp)⟩, ?_⟩
      · unfold OwnB
        rw [List.length_append, List.map_append]
        exact World.ownsRow_base h2 (Nat.zero_le _)
      · rw [hx] at hrun
        injection hrun with hv _
        injection hv with hA _ _
        right; rw [← hA]; rfl
theorem wpList_append_row {ops : Array Oper} {rest : List Oper} {o : Oper} {a : Act} {Q : Exit → Act → World → Prop} (hgd : o.guard = none) (s x : Operand) (t : TypeId)
    (ho : o.op = .call { callee := .builtin .append, args := #[s, x], argTypes := #[t, t] })
    (e : TypeId) (i : TypeInfo) (ht : P.underlying t = some (.slice e)) (hi : P.info? e = some i) (hz : i.zero = some (.int .u8 0))
    (hsize : i.size = 1) (hby : i.bytes = 1) (S : Option Addr) (d : Nat) (l : List Nat) (hs : a.eval s = .slice S l.length d) (hown : RowB e w S d l)
    (A : Option Addr) (c : Nat) (m : List Nat) (hm : 0 < m.length) (hx : a.eval x = .slice A m.length c) (hr : RdB w A m) (hb : l.length + m.length ≤ 140737488355328)
    (h : ∀ L A' c' w', Hid (L = l ++ m) → OwnB e w' 0 A' c' L → w.grownBy w' (blk S) → (blk A' = blk S ∨ blk A' = some w.heap.size) → wpList P ops Q rest (a.put o.dst (.slice A' L.length c')) w') :
    wpList P ops Q (o :: rest) a w := by
  refine wpList_plain hgd fun K hK => ?_
  obtain ⟨A', c', w', hrun, h2, h4, h5⟩ := run_append_row (P := P) w t o.type e i ht hi hz hsize hby S d l hown A c m hm hr hb
  unfold Oper.wp execOp
  simp only [ho, resolve, invoke, builtin, Sem.run_bind, Sem.run_pure, Result.andThen_ok, List.map_toArray, List.map_cons, List.map_nil, hs, hx, hrun]
  exact hK _ _ (h _ A' c' w' (Lib.hid rfl) h2 h4 h5)
end
open Go.ChangeMaps (setBlock)
open MapKept
structure IterAt (w : World) (r M : Nat) (es : Array MapEntry) (clock : Nat) (seen : Array Nat) : Prop where
  it : w.heap[r]? = some (.mapIter (some M) clock seen clock)
  mp : w.heap[M]? = some (.map es clock)
  st : Stamped es clock
theorem IterAt.of_blocks {w w' : World} {r M : Nat} {es : Array MapEntry} {clock : Nat} {seen : Array Nat} (h : IterAt w r M es clock seen) (h1 : w'.heap[r]? = w.heap[r]?) (h2 : w'.heap[M]? = w.heap[M]?) : IterAt w' r M es clock seen :=
  ⟨h1.trans h.it, h2.trans h.mp, h.st⟩
theorem stamped_nodup {es : Array MapEntry} {clock : Nat} (h : Stamped es clock) : (es.toList.map (·.born)).Nodup := h.2.1
theorem IterAt.entry {P : Program} {w : World} {r M : Nat} {es : Array MapEntry} {clock : Nat} {seen : Array Nat} {e : MapEntry} (h : IterAt w r M es clock (seen.push e.born)) (he : e ∈ es) :
    (Instr.entry (.pointer (some ⟨r, 0, none⟩))).run P w = .ok (.tuple #[e.key, e.val]) w := run_entry_at w r M clock seen es clock e h.it h.mp (by simpa using he) (stamped_nodup h.st)
theorem left_mem {es : Array MapEntry} {seen : Array Nat} {e : MapEntry} (he : e ∈ leftOf es seen) : e ∈ es := by
  unfold leftOf at he; simp at he; exact he.1
theorem left_one {e0 : MapEntry} : leftOf #[e0] #[] = #[e0] := by simp [leftOf]
theorem left_none {seen : Array Nat} : leftOf #[] seen = #[] := by simp [leftOf]
theorem one_entry {es : Array MapEntry} {k v : Value} (h : es.toList.map (fun e => (e.key, e.val)) = [(k, v)]) : ∃ e0, es = #[e0] ∧ e0.key = k ∧ e0.val = v := by
  rcases hq : es.toList with _ | ⟨e0, _ | ⟨e1, t⟩⟩
  · rw [hq] at h; cases h
  · rw [hq] at h
    simp only [List.map_cons, List.map_nil, List.cons.injEq, Prod.mk.injEq, and_true] at h
    exact ⟨e0, Array.toList_inj.1 hq, h.1, h.2⟩
  · rw [hq] at h; simp at h
variable {P : Program} {w : World} {ops : Array Oper} {rest : List Oper} {o : Oper} {a : Act} {Q : Exit → Act → World → Prop}
theorem wpList_range_is (hg : o.guard = none) (m : Operand) (t : TypeId) (hop : o.op = Op.range t m) (k e : TypeId) (ht : P.underlying t = some (.map k e)) (d : TypeDesc) (b : Nat) (l : List (Value × Value))
    (hm : a.eval m = .map (some b)) (h : MapIs w d b l)
    (hK : ∀ es clock w', es.toList.map (fun e => (e.key, e.val)) = l → w' = w.alloc (.mapIter (some b) clock #[] clock) → IterAt w' w.heap.size b es clock #[] → wpList P ops Q rest (a.put o.dst (.pointer (some ⟨w.heap.size, 0, none⟩))) w') :
    wpList P ops Q (o :: rest) a w := by
  refine wpList_plain hg fun K' hK' => ?_
  have hlt := h.lt
  obtain ⟨es, clock, hb, hS, _, hl, _⟩ := h
  have hrun := run_range_map (P := P) w t k e b es clock ht hb
  unfold Oper.wp
  simp [execOp, hop, hm, hrun, Result.andThen]
  exact hK' _ _ (hK es clock _ hl rfl ⟨heap_alloc_new _ _, (heap_alloc_old _ _ hlt).trans hb, hS⟩)
theorem wpList_next_is (hg : o.guard = none) (it : Operand) (hop : o.op = Op.next it false) (r M : Nat) (es : Array MapEntry) (clock : Nat) (seen : Array Nat)
    (hit : a.eval it = .pointer (some ⟨r, 0, none⟩)) (h : IterAt w r M es clock seen)
    (hDone : (leftOf es seen).size = 0 → wpList P ops Q rest (a.put o.dst (.tuple #[.bool false])) w)
    (hMore : ∀ e, e ∈ leftOf es seen → ∀ w', IterAt w' r M es clock (seen.push e.born) → (Instr.entry (.pointer (some ⟨r, 0, none⟩))).run P w' = .ok (.tuple #[e.key, e.val]) w' → (leftOf es (seen.push e.born)).size < (leftOf es seen).size → w.grownBy w' (some r) → w'.heap.size = w.heap.size →
      wpList P ops Q rest (a.put o.dst (.tuple #[.bool true, e.key, e.val])) w') :
    wpList P ops Q (o :: rest) a w := by
  refine wpList_plain hg fun K' hK' => ?_
  unfold Oper.wp
  have hne : r ≠ M := fun e => by subst e; have := h.it.symm.trans h.mp; cases this
  rcases run_next_at (P := P) w o.type r M clock clock seen es clock h.it h.mp h.st.1 (Nat.le_refl _) with ⟨h0, hrun⟩ | ⟨e, he, w1, hw1, hrun⟩
  · simp [execOp, hop, hit, hrun, Result.andThen]
    exact hK' _ _ (hDone h0)
  · simp [execOp, hop, hit, hrun, Result.andThen]
    have hh : w1.heap = w.heap := by rcases hw1 with rfl | rfl <;> rfl
    have hs := MapKept.heap_set (w := w1) (r := r) (o := .mapIter (some M) clock seen clock) (o' := .mapIter (some M) clock (seen.push e.born) clock) (by rw [hh]; exact h.it)
    have he' : e ∈ leftOf es seen := by simpa using he
    have hI : IterAt (setBlock w1 r (.mapIter (some M) clock (seen.push e.born) clock)) r M es clock (seen.push e.born) := ⟨hs.1, (hs.2 M (Ne.symm hne)).trans (by rw [hh]; exact h.mp), h.st⟩
    refine hK' _ _ (hMore e he' _ hI (hI.entry (left_mem he')) (left_shrinks es seen e he) ⟨?_, ?_, ?_, ?_, fun i _ hi => (hs.2 i (fun e => hi (by rw [e]))).trans (by rw [hh])⟩ ?_)
    · rcases hw1 with rfl | rfl <;> rfl
    · rcases hw1 with rfl | rfl <;> rfl
    · rcases hw1 with rfl | rfl <;> rfl
    · simp [setBlock, hh]
    · simp [setBlock, hh]
theorem dnew_any (n : Nat) (hn : n ≤ 65536) (W : World) :
    Calls Tryz.prog 61 #[.int .i64 (n : Int)] W fun e W' => e = .returned (.pointer (some ⟨W.heap.size + 1, 0, none⟩)) ∧ W' = (W.alloc (.map #[] 0)).alloc (.cells #[.map (some W.heap.size), .int .i64 (n : Int)] 100) := by
  have hmm := @run_makeMap Tryz.prog
  go_enter Tryz.func61, Tryz.ntmps61
  go_wp2
  go_ret
  exact ⟨rfl, rfl⟩
def logName : ByteArray := { data := #[108, 111, 103] }
def FileAt (W : World) (S : Nat → Prop) (D M F : Nat) (bs : List Nat) (syn : Nat) : Prop :=
  ∃ A c, W.heap[F]? = some (.cells #[.slice A bs.length c, .int .i64 (syn : Int)] 103) ∧ RowB 5 W A c bs ∧ S F ∧ (∀ k, blk A = some k → S k ∧ k ≠ F ∧ k ≠ M ∧ k ≠ D) ∧ Bytes bs ∧ syn ≤ bs.length ∧ bs.length ≤ 65536
def DiskAt (W : World) (S : Nat → Prop) (D m : Nat) (f : Option (List Nat × Nat)) : Prop :=
  ∃ M, W.heap[D]? = some (.cells #[.map (some M), .int .i64 (m : Int)] 100) ∧ S D ∧ S M ∧ M ≠ D ∧ m ≤ 65536 ∧
    match f with
    | none => MapIs W .string M []
    | some (bs, syn) => ∃ F, MapIs W .string M [(.string logName, .pointer (some ⟨F, 0, none⟩))] ∧ FileAt W S D M F bs syn ∧ F ≠ M ∧ F ≠ D
theorem FileAt.frame {W W' : World} {S : Nat → Prop} {D M F : Nat} {bs : List Nat} {syn : Nat} (h : FileAt W S D M F bs syn) (hb : ∀ k, S k → W'.heap[k]? = W.heap[k]?) : FileAt W' S D M F bs syn := by
  obtain ⟨A, c, hF, hR, sF, hA, h3⟩ := h
  exact ⟨A, c, (hb F sF).trans hF, hR.of_block (fun k hk => hb k (hA k hk).1), sF, hA, h3⟩
theorem DiskAt.frame {W W' : World} {S : Nat → Prop} {D m : Nat} {f : Option (List Nat × Nat)} (h : DiskAt W S D m f) (hb : ∀ k, S k → W'.heap[k]? = W.heap[k]?) : DiskAt W' S D m f := by
  obtain ⟨M, hD, sD, sM, h3, h4, h5⟩ := h
  refine ⟨M, (hb D sD).trans hD, sD, sM, h3, h4, ?_⟩
  rcases f with _ | ⟨bs, syn⟩
  · exact MapIs.of_block h5 (hb M sM)
  · obtain ⟨F, hM, hF, h6⟩ := h5
    exact ⟨F, hM.of_block (hb M sM), hF.frame hb, h6⟩
theorem dread_none (S : Nat → Prop) (D m : Nat) (W : World) (h : DiskAt W S D m none) :
    Calls Tryz.prog 23 #[.pointer (some ⟨D, 0, none⟩), .string logName] W fun e W' => e = .returned (.tuple #[.slice none 0 0, .int .i64 5]) ∧ W = W' := by
  obtain ⟨M, hD, _, _, _, _, hM⟩ := h
  have c0 : W.cell? ⟨D, 0, none⟩ = some (.map (some M)) := by simp [World.cell?, hD]
  have hz : (zeroValue 97).run Tryz.prog W = .ok (.pointer none) W := by kernel_rfl
  have hl := hM.look_none (P := Tryz.prog) (key := .string logName) Tryz.underlying98 Tryz.underlying9 trivial false (by simp) hz
  unfold logName at hl ⊢
  go_enter Tryz.func23, Tryz.ntmps23
  go_wp2
  go_ret2
  exact ⟨rfl, rfl⟩
theorem dread_some (S : Nat → Prop) (D m : Nat) (bs : List Nat) (syn : Nat) (W : World) (h : DiskAt W S D m (some (bs, syn))) :
    Calls Tryz.prog 23 #[.pointer (some ⟨D, 0, none⟩), .string logName] W fun e W' =>
      ∃ (L : List Nat) (A : Option Addr) (c : Nat), Hid (L = bs) ∧ e = .returned (.tuple #[.slice A L.length c, .int .i64 0]) ∧ OwnB 5 W' W.heap.size A c L ∧ L.length ≤ c ∧ Below W.heap.size W W' := by
  obtain ⟨M, hD, _, _, _, _, F, hM, ⟨A, c, hF, hO, _, _, hb, _, hl⟩, _, _⟩ := h
  have c0 : W.cell? ⟨D, 0, none⟩ = some (.map (some M)) := by simp [World.cell?, hD]
  have c1 : W.cell? ⟨F, 0, none⟩ = some (.slice A bs.length c) := by simp [World.cell?, hF]
  have hl2 := hM.look (P := Tryz.prog) (key := .string logName) Tryz.underlying98 Tryz.underlying9 trivial false (v := .pointer (some ⟨F, 0, none⟩)) (by simp)
  unfold logName at hl2 ⊢
  go_enter Tryz.func23, Tryz.ntmps23
  go_wp2_with fail
  refine (clone_any A bs c (by omega) _ hO.rd).mono ?_
  rintro e w1 ⟨L, A1, c1, HL, rfl, ho1, hc1, hb1⟩
  go_wp2
  go_ret2
  exact ⟨L, A1, c1, HL, rfl, ho1, hc1, hb1⟩
theorem dsync_some (S : Nat → Prop) (D m : Nat) (bs : List Nat) (syn : Nat) (W : World) (h : DiskAt W S D m (some (bs, syn))) :
    Calls Tryz.prog 170 #[.pointer (some ⟨D, 0, none⟩), .string logName] W fun e W' => e = .returned (.int .i64 0) ∧ DiskAt W' S D m (some (bs, bs.length)) ∧ Turned S W W' := by
  obtain ⟨M, hD, sD, sM, hMD, hm, F, hM, ⟨A, c, hF, hO, sF, hA, hb, hsy, hl⟩, hFM, hFD⟩ := h
  have c0 : W.cell? ⟨D, 0, none⟩ = some (.map (some M)) := by simp [World.cell?, hD]
  have c1 : W.cell? ⟨F, 0, none⟩ = some (.slice A bs.length c) := by simp [World.cell?, hF]
  have c2 : W.cell? ⟨F, 1, none⟩ = some (.int .i64 (syn : Int)) := by simp [World.cell?, hF]
  have f2 : W.frozen? ⟨F, 1, none⟩ = false := by simp [World.frozen?, hF]
  have hl2 := hM.look (P := Tryz.prog) (key := .string logName) Tryz.underlying98 Tryz.underlying9 trivial false (v := .pointer (some ⟨F, 0, none⟩)) (by simp)
  have HL := Lib.hid (show DiskAt (W.setCell ⟨F, 1, none⟩ (.int .i64 (bs.length : Int))) S D m (some (bs, bs.length)) by
    refine ⟨M, (heap_setCell_other _ _ _ _ (fun e => hFD e.symm)).trans hD, sD, sM, hMD, hm, F, hM.of_block (heap_setCell_other _ _ _ _ (fun e => hFM e.symm)), ⟨A, c, heap_setCell_same _ F 1 _ _ _ hF, ?_, sF, hA, hb, Nat.le_refl _, hl⟩, hFM, hFD⟩
    exact hO.of_block (fun k hk => heap_setCell_other _ _ _ _ (hA k hk).2.1))
  have HT := Lib.hid ((Turned.refl S W).setCell (p := ⟨F, 1, none⟩) (.inl sF) (.int .i64 (bs.length : Int)))
  unfold logName at hl2 ⊢
  go_enter Tryz.func170, Tryz.ntmps170
  go_wp2
  go_ret
  exact ⟨rfl, HL.out, HT.out⟩
theorem named_log (W : World) : Calls Tryz.prog 222 #[.string logName] W fun e W' => e = .returned (.bool true) ∧ W = W' := by
  have hs : (({ data := #[108, 111, 103] } : ByteArray).size : Int) = 3 := rfl
  unfold logName
  go_enter Tryz.func222, Tryz.ntmps222
  go_wp2
  go_ret
  exact ⟨rfl, rfl⟩
theorem used_any (S : Nat → Prop) (D m : Nat) (f : Option (List Nat × Nat)) (W : World) (h : DiskAt W S D m f) :
    Calls Tryz.prog 223 #[.pointer (some ⟨D, 0, none⟩)] W fun e W' => e = .returned (.int .i64 ((f.elim 0 (fun p => p.1.length) : Nat) : Int)) ∧ Below W.heap.size W W' := by
  obtain ⟨M, hD, _, _, _, _, hM⟩ := h
  have c0 : W.cell? ⟨D, 0, none⟩ = some (.map (some M)) := by simp [World.cell?, hD]
  rcases f with _ | ⟨bs, syn⟩
  · simp only at hM
    go_enter Tryz.func223, Tryz.ntmps223
    go_wp2_with (at_range; refine wpList_range_is rfl _ 98 rfl _ _ Tryz.underlying98 _ M _ rfl hM ?_; rintro es clock w1 hl rfl hI)
    obtain rfl : es = #[] := Array.toList_inj.1 (by simpa using hl)
    refine wp_loop_rounds 1 ?_
    rw [rounds_succ]
    go_wp2_with (at_next; refine wpList_next_is rfl _ rfl W.heap.size M _ clock #[] rfl hI ?_ ?_)
    · intro _
      go_wp2
      go_ret
      exact ⟨rfl, (Below.refl _ _).alloc (Nat.le_refl _) _⟩
    · intro e he
      rw [left_none] at he; simp at he
  · obtain ⟨F, hM, ⟨A, c, hF, hO, _, hA, _, _, hbl⟩, _, _⟩ := hM
    have hFl : F < W.heap.size := (Array.getElem?_eq_some_iff.1 hF).1
    go_enter Tryz.func223, Tryz.ntmps223
    go_wp2_with (at_range; refine wpList_range_is rfl _ 98 rfl _ _ Tryz.underlying98 _ M _ rfl hM ?_; rintro es clock w1 hl rfl hI)
    obtain ⟨e0, rfl, hk, hv⟩ := one_entry hl
    refine wp_loop_rounds 2 ?_
    rw [rounds_succ]
    go_wp2_with (at_next; refine wpList_next_is rfl _ rfl W.heap.size M _ clock #[] rfl hI ?_ ?_)
    · intro h0; rw [left_one] at h0; cases h0
    · intro e he w2 hI2 hen _ hg2 hs2
      rw [left_one] at he
      obtain rfl : e = e0 := by simpa using he
      rw [hk, hv] at hen ⊢
      have hB2 : Below W.heap.size W w2 := ((Below.refl W.heap.size W).alloc (Nat.le_refl _) _).grown hg2 (by simp) (fun k hk => by cases hk; exact Nat.le_refl _)
      have c2 : w2.cell? ⟨F, 0, none⟩ = some (.slice A bs.length c) := by rw [hB2.cell (p := ⟨F, 0, none⟩) hFl]; simp [World.cell?, hF]
      go_wp2
      rw [rounds_succ]
      go_wp2_with (at_next; refine wpList_next_is rfl _ rfl W.heap.size M _ clock _ rfl hI2 ?_ ?_)
      · intro _
        go_wp2
        go_ret
        exact ⟨rfl, hB2⟩
      · intro e he
        simp [leftOf] at he
open MapKept
theorem MapIs.store_any {P : Program} {w : World} {t k e : TypeId} {d : TypeDesc} {b : Nat} {l : List (Value × Value)} {key : Value} (ht : P.underlying t = some (.map k e)) (hk : P.underlying k = some d) (hkey : IsKey d key) (h : MapIs w d b l) (v : Value) :
    ∃ w' l', (Instr.mapUpdate t (.map (some b)) key v).run P w = .ok () w' ∧ MapIs w' d b l' ∧ (∀ p ∈ l', p ∈ l ∨ p = (key, v)) ∧ w.grownBy w' (some b) ∧ w'.heap.size = w.heap.size := by
  by_cases hx : ∃ p ∈ l, p.1 = key
  · obtain ⟨⟨k0, v0⟩, hp, rfl⟩ := hx
    obtain ⟨j, hj, e⟩ := List.getElem_of_mem hp
    obtain ⟨w', h1, h2, h3, h4⟩ := h.store_old ht hk hkey (j := j) (v0 := v0) (by rw [List.getElem?_eq_getElem hj, e]) v
    exact ⟨w', _, h1, h2, fun p hp => by
      rcases List.mem_or_eq_of_mem_set hp with h | h
      · exact .inl h
      · exact .inr h, h3, h4⟩
  · obtain ⟨w', h1, h2, h3, h4⟩ := h.store_new ht hk hkey (fun p hp e => hx ⟨p, hp, e⟩) v
    exact ⟨w', _, h1, h2, fun p hp => by
      rcases List.mem_append.1 hp with h | h
      · exact .inl h
      · exact .inr (List.mem_singleton.1 h), h3, h4⟩
variable {P : Program} {w : World} {ops : Array Oper} {rest : List Oper} {o : Oper} {a : Act} {Q : Exit → Act → World → Prop}
theorem wpList_store_new (hg : o.guard = none) (m x v : Operand) (t : TypeId) (hop : o.op = Op.mapUpdate t m x v) (k e : TypeId) (d : TypeDesc) (ht : P.underlying t = some (.map k e)) (hk : P.underlying k = some d)
    (b : Nat) (l : List (Value × Value)) (key vv : Value) (hm : a.eval m = .map (some b)) (hx : a.eval x = key) (hv : a.eval v = vv) (hkey : IsKey d key) (h : MapIs w d b l) (hnot : ∀ p ∈ l, p.1 ≠ key)
    (hK : ∀ w', MapIs w' d b (l ++ [(key, vv)]) → w.grownBy w' (some b) → w'.heap.size = w.heap.size → wpList P ops Q rest (a.put o.dst undef) w') : wpList P ops Q (o :: rest) a w := by
  obtain ⟨w', h1, h2, h3, h4⟩ := h.store_new ht hk hkey hnot vv
  exact wpList_store_run hg m x v t hop _ _ _ hm hx hv h1 (hK w' h2 h3 h4)
theorem dappend_some (S : Nat → Prop) (D m : Nat) (bs : List Nat) (syn : Nat) (W : World) (h : DiskAt W S D m (some (bs, syn))) (hS : Lt S W) (B : Option Addr) (b : List Nat) (cb : Nat) (hb0 : 0 < b.length) (hbb : Bytes b) (hr : RdB W B b) (hfit : bs.length + b.length ≤ m) :
    Calls Tryz.prog 191 #[.pointer (some ⟨D, 0, none⟩), .string logName, .slice B b.length cb] W fun e W' => ∃ S', e = .returned (.int .i64 0) ∧ DiskAt W' S' D m (some (bs ++ b, syn)) ∧ Step S W W' S' := by
  have hU := used_any S D m _ W.drew (h.frame (fun _ _ => rfl))
  obtain ⟨i0, hi, hz0, hz1, hz2⟩ := info_parts Tryz.infoB
  obtain ⟨M, hD, sD, sM, hMD, hm, F, hM, ⟨A, c, hF, hO, sF, hA, hbs, hsy, hl⟩, hFM, hFD⟩ := h
  have hDl := hS D sD; have hFl := hS F sF; have hMl := hS M sM
  have c1 : W.cell? ⟨D, 1, none⟩ = some (.int .i64 (m : Int)) := by simp [World.cell?, hD]
  have hu : (((some (bs, syn) : Option (List Nat × Nat)).elim 0 (fun p => p.1.length) : Nat) : Int) = (bs.length : Int) := rfl
  rw [hu] at hU
  have HU := Lib.hid (hU)
  have hle : decide (IntKind.i64.wrap ((m : Int) - (bs.length : Int)) < (b.length : Int)) = false := by rw [IntKind.wrap_i64]; simp; omega
  have HR := Lib.hid hr
  have HO := Lib.hid hO
  have HA := Lib.hid hA
  clear hU hr hO hA
  have hnm := named_log
  unfold logName at hnm ⊢
  go_enter Tryz.func191, Tryz.ntmps191
  go_wp2_with fail
  refine (hnm _).mono ?_
  rintro e w0 ⟨rfl, rfl⟩
  go_wp2
  go_region_held3 (fun w' => w'.cell? ⟨D, 1, none⟩ = some (.int .i64 (m : Int))) (first | exact HS1 | exact c1)
    (first | (go_at_call 223; refine (HU.out).mono ?_; rintro e w1 ⟨rfl, hb1'⟩; have hb1 := below_undrew hb1'; have HS1 : w1.cell? ⟨D, 1, none⟩ = some (.int .i64 (m : Int)) := (hb1.cell (p := ⟨D, 1, none⟩) hDl).trans c1))
  have hD1 := (hb1.block D hDl).trans hD
  have hF1 := (hb1.block F hFl).trans hF
  have hM1 := hM.of_block (hb1.block M hMl)
  have hO1 := Lib.hid (HO.out.of_block (fun k hk => hb1.block k (hS k (HA.out k hk).1)))
  have c2 : w1.cell? ⟨D, 0, none⟩ = some (.map (some M)) := by simp [World.cell?, hD1]
  have c3 : w1.cell? ⟨F, 0, none⟩ = some (.slice A bs.length c) := by simp [World.cell?, hF1]
  have hl2 := hM1.look (P := Tryz.prog) (key := .string logName) Tryz.underlying98 Tryz.underlying9 trivial false (v := .pointer (some ⟨F, 0, none⟩)) (by simp)
  unfold logName at hl2
  have HB1 := Lib.hid hb1
  clear hb1 hb1'
  go_wp2_with (at_builtin; refine wpList_append_row _ rfl (.tmp 47) (.tmp 48) _ rfl 5 i0 Tryz.underlying67 hi hz0 hz1 hz2 _ _ bs rfl hO1.out _ _ b hb0 rfl (HR.out.below HB1.out (Nat.le_refl _)) (by omega) ?_; intro L A2 c2' w2 HL ho2 hg2 ha2; have hF2 : w2.heap[F]? = _ := (hg2.block F (lt_of_cell c3) (fun e => (HA.out F e.symm).2.1 rfl)).trans hF1; have f2 : w2.frozen? ⟨F, 0, none⟩ = false := (by simp [World.frozen?, hF2]); have d2 : w2.cell? ⟨F, 0, none⟩ = some (.slice A bs.length c) := (by simp [World.cell?, hF2]))
  go_ret
  have hB1 := HB1.out
  have hs1 := hB1.size
  have hs1' : W.heap.size ≤ w1.heap.size := hs1
  have hnew : ∀ k, blk A2 = some k → (S k ∨ W.heap.size ≤ k) ∧ k ≠ F ∧ k ≠ M ∧ k ≠ D ∧ k < w2.heap.size := by
    intro k hk
    have hkl := (ho2.lt k hk).2
    rcases ha2 with ha | ha
    · have := HA.out k (by rw [← ha]; exact hk)
      exact ⟨.inl this.1, this.2.1, this.2.2.1, this.2.2.2, hkl⟩
    · have e : k = w1.heap.size := by rw [ha] at hk; injection hk with hk; exact hk.symm
      exact ⟨.inr (by omega), by omega, by omega, by omega, hkl⟩
  have hD2 : w2.heap[D]? = _ := (hg2.block D (by omega) (fun e => (HA.out D e.symm).2.2.2 rfl)).trans hD1
  have hM2 : w2.heap[M]? = w1.heap[M]? := hg2.block M (by omega) (fun e => (HA.out M e.symm).2.2.1 rfl)
  have hT : Turned S W (w2.setCell ⟨F, 0, none⟩ (.slice A2 L.length c2')) := ((Turned.of_below (show Below W.heap.size W w1 from hB1)).grown hg2 (fun k hk => .inl (HA.out k hk).1)).setCell (.inl sF) _
  refine ⟨fun k => S k ∨ (blk A2 = some k), rfl, ⟨M, (heap_setCell_other _ _ _ _ (fun e => hFD e.symm)).trans hD2, .inl sD, .inl sM, hMD, hm, F, (hM1.of_block hM2).of_block (heap_setCell_other _ _ _ _ (fun e => hFM e.symm)), ⟨A2, c2', ?_, ?_, .inl sF, fun k hk => ⟨.inr hk, (hnew k hk).2.1, (hnew k hk).2.2.1, (hnew k hk).2.2.2.1⟩, ?_, ?_, ?_⟩, hFM, hFD⟩, hT, ?_, ?_⟩
  · rw [← HL.out]; exact heap_setCell_same w2 F 0 _ _ _ hF2
  · rw [← HL.out]; exact .inl (ho2.of_block (fun k hk => heap_setCell_other _ _ _ _ (hnew k hk).2.1))
  · intro x hx
    rcases List.mem_append.1 hx with h | h
    · exact hbs x h
    · exact hbb x h
  · simp; omega
  · simp; omega
  · intro k hk
    rcases hk with hk | hk
    · exact .inl hk
    · exact (hnew k hk).1
  · intro k hk
    rw [World.size_setCell]
    rcases hk with hk | hk
    · have := hS k hk; have := hg2.size; omega
    · exact (hnew k hk).2.2.2.2
theorem dappend_none (S : Nat → Prop) (D m : Nat) (W : World) (h : DiskAt W S D m none) (hS : Lt S W) (B : Option Addr) (b : List Nat) (cb : Nat) (hb0 : 0 < b.length) (hbb : Bytes b) (hr : RdB W B b) (hfit : b.length ≤ m) :
    Calls Tryz.prog 191 #[.pointer (some ⟨D, 0, none⟩), .string logName, .slice B b.length cb] W fun e W' => ∃ S', e = .returned (.int .i64 0) ∧ DiskAt W' S' D m (some (b, 0)) ∧ Step S W W' S' := by
  have hU := used_any S D m _ W.drew (h.frame (fun _ _ => rfl))
  obtain ⟨i0, hi, hz0, hz1, hz2⟩ := info_parts Tryz.infoB
  obtain ⟨M, hD, sD, sM, hMD, hm, hM⟩ := h
  simp only at hM
  have hDl := hS D sD; have hMl := hS M sM
  have c1 : W.cell? ⟨D, 1, none⟩ = some (.int .i64 (m : Int)) := by simp [World.cell?, hD]
  have hu : (((none : Option (List Nat × Nat)).elim 0 (fun p => p.1.length) : Nat) : Int) = 0 := rfl
  rw [hu] at hU
  have HU := Lib.hid (hU)
  have hle : decide (IntKind.i64.wrap (m : Int) < (b.length : Int)) = false := by rw [IntKind.wrap_i64]; simp; omega
  have HR := Lib.hid hr
  clear hU hr
  have hnm := named_log
  unfold logName at hnm ⊢
  go_enter Tryz.func191, Tryz.ntmps191
  go_wp2_with fail
  refine (hnm _).mono ?_
  rintro e w0 ⟨rfl, rfl⟩
  go_wp2
  go_region_held3 (fun w' => w'.cell? ⟨D, 1, none⟩ = some (.int .i64 (m : Int))) (first | exact HS1 | exact c1)
    (first | (go_at_call 223; refine (HU.out).mono ?_; rintro e w1 ⟨rfl, hb1'⟩; have hb1 := below_undrew hb1'; have HS1 : w1.cell? ⟨D, 1, none⟩ = some (.int .i64 (m : Int)) := (hb1.cell (p := ⟨D, 1, none⟩) hDl).trans c1))
  have hD1 := (hb1.block D hDl).trans hD
  have hM1 := hM.of_block (hb1.block M hMl)
  have c2 : w1.cell? ⟨D, 0, none⟩ = some (.map (some M)) := by simp [World.cell?, hD1]
  have hz : (zeroValue 97).run Tryz.prog w1 = .ok (.pointer none) w1 := by kernel_rfl
  have hl1 := hM1.look_none (P := Tryz.prog) (key := .string logName) Tryz.underlying98 Tryz.underlying9 trivial false (by simp) hz
  unfold logName at hl1
  have HB1 := Lib.hid hb1
  have hs1 : W.heap.size ≤ w1.heap.size := hb1.size
  have hMl1 := hM1.lt
  have hDl1 : D < w1.heap.size := by omega
  have hM1a := hM1.of_block (heap_alloc_old w1 (.cells #[.slice none 0 0, .int .i64 0] 103) hMl1)
  have HR1 := Lib.hid (HR.out.below HB1.out (Nat.le_refl _))
  have HNM := Lib.hid (HR1.out.not_map hb0 hM1)
  clear hb1 hb1'
  go_wp2_with (first
    | (at_mapUpdate; refine wpList_store_new rfl _ _ _ _ rfl _ _ .string Tryz.underlying98 Tryz.underlying9 M [] (.string logName) (.pointer (some ⟨w1.heap.size, 0, none⟩)) rfl rfl rfl trivial hM1a (by simp) ?_; intro w2 hM2 hg2 hs2; have HR2 := Lib.hid ((HR1.out.alloc (.cells #[.slice none 0 0, .int .i64 0] 103)).of_block (fun k hk => hg2.block k (by have := (HNM.out k hk).2; simp; omega) (by have := (HNM.out k hk).1; simpa using this))); have hD2 : w2.heap[D]? = _ := (hg2.block D (by simp; omega) (by simpa using hMD.symm)).trans ((heap_alloc_old w1 _ hDl1).trans hD1); have c3 : w2.cell? ⟨D, 0, none⟩ = some (.map (some M)) := (by simp [World.cell?, hD2]); have hF2 : w2.heap[w1.heap.size]? = _ := (hg2.block w1.heap.size (by simp) (by simp; omega)).trans (heap_alloc_new w1 _); have c4 : w2.cell? ⟨w1.heap.size, 0, none⟩ = some (.slice none 0 0) := (by simp [World.cell?, hF2]); have hl2 := hM2.look (P := Tryz.prog) (key := .string logName) Tryz.underlying98 Tryz.underlying9 trivial false (v := .pointer (some ⟨w1.heap.size, 0, none⟩)) (by simp); unfold logName at hl2)
    | (at_builtin; go_loud (refine wpList_append_row _ rfl (.tmp 47) (.tmp 48) _ rfl 5 i0 Tryz.underlying67 hi hz0 hz1 hz2 none 0 [] rfl (.inl (OwnB.nil _ _ _)) _ _ b hb0 rfl HR2.out (by simp; omega) ?_; intro L A2 c2' w3 HL ho3 hg3 ha3; have hF3 : w3.heap[w1.heap.size]? = _ := (hg3.block w1.heap.size (by rw [hs2]; simp) (by simp [blk])).trans hF2; have f3 : w3.frozen? ⟨w1.heap.size, 0, none⟩ = false := (by simp [World.frozen?, hF3]); have d3 : w3.cell? ⟨w1.heap.size, 0, none⟩ = some (.slice none 0 0) := (by simp [World.cell?, hF3]))))
  go_ret
  have hs3 := hg3.size
  have hs2' : w2.heap.size = w1.heap.size + 1 := by rw [hs2]; simp
  have hb1 : Below W.heap.size W w1 := HB1.out
  have hLb : L = b := HL.out
  have hnew : ∀ k, blk A2 = some k → w1.heap.size < k ∧ k < w3.heap.size := by
    intro k hk
    have hkl := (ho3.lt k hk).2
    rcases ha3 with ha | ha
    · rw [ha] at hk; cases hk
    · have e : k = w2.heap.size := by rw [ha] at hk; injection hk with hk; exact hk.symm
      omega
  have hD3 : w3.heap[D]? = _ := (hg3.block D (by omega) (by simp [blk])).trans hD2
  have hM3 : w3.heap[M]? = w2.heap[M]? := hg3.block M (by omega) (by simp [blk])
  have hT : Turned S W (w3.setCell ⟨w1.heap.size, 0, none⟩ (.slice A2 L.length c2')) := ((((Turned.of_below hb1).alloc _).grown hg2 (fun k hk => by cases hk; exact .inl sM)).grown hg3 (fun k hk => by cases hk)).setCell (.inr hs1) _
  refine ⟨fun k => S k ∨ (W.heap.size ≤ k ∧ k < w3.heap.size), rfl, ⟨M, (heap_setCell_other _ _ _ _ (by simp; omega)).trans hD3, .inl sD, .inl sM, hMD, hm, w1.heap.size, (hM2.of_block hM3).of_block (heap_setCell_other _ _ _ _ (by simp; omega)), ⟨A2, c2', ?_, ?_, .inr ⟨hs1, by omega⟩, fun k hk => ⟨.inr ⟨by have := hnew k hk; omega, (hnew k hk).2⟩, by have := hnew k hk; omega, by have := hnew k hk; omega, by have := hnew k hk; omega⟩, hbb, Nat.zero_le _, ?_⟩, by omega, by omega⟩, hT, ?_, ?_⟩
  · rw [← hLb]; exact heap_setCell_same w3 w1.heap.size 0 _ _ _ hF3
  · rw [← hLb]; exact .inl (ho3.of_block (fun k hk => heap_setCell_other _ _ _ _ (by have := hnew k hk; simp; omega)))
  · omega
  · rintro k (hk | hk)
    · exact .inl hk
    · exact .inr hk.1
  · intro k hk
    rw [World.size_setCell]
    rcases hk with hk | hk
    · have := hS k hk; omega
    · exact hk.2
theorem dtrim_all (S : Nat → Prop) (D m : Nat) (bs : List Nat) (syn n : Nat) (hn : bs.length = n) (hne : 0 < n) (W : World) (h : DiskAt W S D m (some (bs, syn))) (hS : Lt S W) :
    Calls Tryz.prog 169 #[.pointer (some ⟨D, 0, none⟩), .string logName, .int .i64 (n : Int)] W fun e W' => e = .returned (.int .i64 0) ∧ DiskAt W' S D m (some (bs, syn)) ∧ Turned S W W' := by
  obtain ⟨M, hD, sD, sM, hMD, hm, F, hM, ⟨A, c, hF, hO, sF, hA, hbs, hsy, hl⟩, hFM, hFD⟩ := h
  have hne' : bs ≠ [] := by intro e; rw [e] at hn; simp at hn; omega
  have hcap := hO.cap
  obtain ⟨ad, rfl, _⟩ := hO.rd (by omega)
  have hDl := hS D sD; have hFl := hS F sF; have hMl := hS M sM
  rw [hn] at hF hsy hl
  have c1 : W.cell? ⟨D, 0, none⟩ = some (.map (some M)) := by simp [World.cell?, hD]
  have c2 : W.cell? ⟨F, 0, none⟩ = some (.slice (some ad) n c) := by simp [World.cell?, hF]
  have c3 : W.cell? ⟨F, 1, none⟩ = some (.int .i64 (syn : Int)) := by simp [World.cell?, hF]
  have f2 : W.frozen? ⟨F, 0, none⟩ = false := by simp [World.frozen?, hF]
  have f3 : W.frozen? ⟨F, 1, none⟩ = false := by simp [World.frozen?, hF]
  have hl2 := hM.look (P := Tryz.prog) (key := .string logName) Tryz.underlying98 Tryz.underlying9 trivial false (v := .pointer (some ⟨F, 0, none⟩)) (by simp)
  have hcn : n ≤ c := by omega
  have hcn2 : (n : Int) ≤ (c : Int) := by omega
  have hmin : min (syn : Int) (n : Int) = (syn : Int) := by omega
  have HO := Lib.hid hO
  have HA := Lib.hid hA
  clear hO hA
  unfold logName at hl2 ⊢
  go_enter Tryz.func169, Tryz.ntmps169
  go_wp2
  go_region
  go_wp2
  go_ret
  have g1 := heap_setCell_same W F 0 _ _ (.slice (some ad) n n) hF
  have g2 := heap_setCell_same _ F 1 _ _ (.int .i64 (syn : Int)) g1
  have ho : ∀ k, k ≠ F → ((W.setCell ⟨F, 0, none⟩ (.slice (some ad) n n)).setCell ⟨F, 1, none⟩ (.int .i64 (syn : Int))).heap[k]? = W.heap[k]? := fun k hk => (heap_setCell_other _ _ _ _ hk).trans (heap_setCell_other _ _ _ _ hk)
  refine ⟨rfl, ⟨M, (ho D hFD.symm).trans hD, sD, sM, hMD, hm, F, hM.of_block (ho M hFM.symm), ⟨some ad, n, by rw [hn]; exact g2, .inr ⟨hn.symm, ?_, hne'⟩, sF, HA.out, hbs, by omega, by omega⟩, hFM, hFD⟩, (((Turned.refl S W).setCell (.inl sF) _).setCell (.inl sF) _).drew⟩
  exact HO.out.rd.of_block (fun k hk => ho k (HA.out k hk).2.1)
end Go.Proofs.YtoigogjmhkpdlaaGreat
