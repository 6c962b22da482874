/- A slice of arrays of three bytes that came in, as triples of numbers. -/
import Derived.Test.YtoigogjmhkpdlaaCheckMixed
import Derived.Deep.Slices
import Derived.OpenShut
namespace Go.Proofs.Ytoigogjmhkpdlaa
open Go.RowKit Go.Deep Go.ChangeShapes

theorem spot_none {w : World} {a : Addr} {v : Value} (h : w.cell? a = some v) : a.spot = none := by
  unfold World.cell? at h
  split at h
  · split at h
    · cases h
    · simpa using ‹¬ a.spot.isSome = true›
  · cases h

theorem open_trips {H : Type} {enc : TypeId × Value → H} {P : Program} {w : World} {base : Nat} {spare : Nat → Bool} {held : Bool} {t e b : TypeId} {fuel : Nat} {cs : List Value} {x : DataW H × List MemPlace}
    (ht : P.underlying t = some (.slice e)) (he : P.underlying e = some (.array 3 b)) (hb : P.underlying b = some (.int .u8)) (ce : P.cellsOf e = 3) (cb : P.cellsOf b = 1)
    (h : DataW.trod enc P w base spare held fuel t cs = some x) :
    ∃ A l cap, cs = [.slice A (List.length l) cap] ∧ Trips l ∧ Rd3 w A l ∧ l.length ≤ maxLen := by
  rcases open_slice ht h with ⟨rfl, _⟩ | ⟨a, len, cap, m, n, D, Pl, rfl, _, hl, hm, hmm, _, hel⟩
  · exact ⟨none, [], 0, rfl, fun t ht => by simp at ht, fun h => by simp at h, Nat.zero_le _⟩
  · have hlm : len ≤ m := by rw [hmm]; split <;> omega
    have each : ∀ i, i < len → ∃ p : Nat × Nat × Nat, (p.1 < 256 ∧ p.2.1 < 256 ∧ p.2.2 < 256) ∧ w.cell? (a.add (i * 3)) = some (.int .u8 (p.1 : Nat)) ∧ w.cell? (a.add (i * 3 + 1)) = some (.int .u8 (p.2.1 : Nat)) ∧ w.cell? (a.add (i * 3 + 2)) = some (.int .u8 (p.2.2 : Nat)) := by
      intro i hi
      obtain ⟨cs', hc, hd⟩ := hel i (by omega)
      rw [ce] at hc
      obtain ⟨xs, mm, _, _, hcl, hxl, hxs⟩ := DataW.trod_array he hd
      rw [ce] at hcl
      match cs', hcl with
      | [v0, v1, v2], _ =>
        have hx : ∀ j, j < 3 → ∃ y, xs[j]? = some y := fun j hj => ⟨xs[j], List.getElem?_eq_getElem (by omega)⟩
        obtain ⟨y0, e0⟩ := hx 0 (by omega)
        obtain ⟨y1, e1⟩ := hx 1 (by omega)
        obtain ⟨y2, e2⟩ := hx 2 (by omega)
        have h0 := hxs 0 (by omega)
        have h1 := hxs 1 (by omega)
        have h2 := hxs 2 (by omega)
        rw [cb, e0] at h0
        rw [cb, e1] at h1
        rw [cb, e2] at h2
        obtain ⟨n0, r0, _, w0⟩ := DataW.trod_int hb h0
        obtain ⟨n1, r1, _, w1⟩ := DataW.trod_int hb h1
        obtain ⟨n2, r2, _, w2⟩ := DataW.trod_int hb h2
        simp at r0 r1 r2
        subst r0 r1 r2
        have b0 := bounds_u8 w0
        have b1 := bounds_u8 w1
        have b2 := bounds_u8 w2
        unfold World.cells? at hc
        split at hc
        · simp only [List.range_succ, List.range_zero, List.nil_append, List.cons_append, List.mapM_cons, List.mapM_nil, Option.bind_eq_bind, Option.bind_eq_some_iff, Option.pure_def, Option.some.injEq, List.cons.injEq, Deep.add_add] at hc
          obtain ⟨u0, hu0, t0, ⟨u1, hu1, t1, ⟨u2, hu2, t2, rfl, rfl⟩, rfl⟩, rfl, q1⟩ := hc
          simp only [List.cons.injEq, and_true] at q1
          obtain ⟨rfl, rfl⟩ := q1
          refine ⟨(n0.toNat, n1.toNat, n2.toNat), by simp only; omega, ?_, ?_, ?_⟩
          · rw [show ((n0.toNat : Nat) : Int) = n0 by omega]; exact hu0
          · rw [show ((n1.toNat : Nat) : Int) = n1 by omega]; exact hu1
          · rw [show ((n2.toNat : Nat) : Int) = n2 by omega]; exact hu2
        · cases hc
    obtain ⟨f, hf⟩ := choose_lt each
    refine ⟨some a, (List.range len).map f, cap, by simp, ?_, ?_, by simp; omega⟩
    · intro t ht
      obtain ⟨i, hi, rfl⟩ := List.mem_map.1 ht
      exact (hf i (by simpa using hi)).1
    · intro h0
      simp only [List.length_map, List.length_range] at h0
      have hz := (hf 0 h0).2.1
      rw [Nat.zero_mul] at hz
      have hsp : a.spot = none := spot_none (a := a) hz
      obtain ⟨ab, ao, asp⟩ := a
      subst hsp
      refine ⟨ab, ao, rfl, lt_of_cell hz, fun j hj => ?_⟩
      simp only [List.length_map, List.length_range] at hj
      have hadd : ∀ k : Nat, (⟨ab, ao, none⟩ : Addr).add k = ⟨ab, ao + k, none⟩ := by
        intro k; unfold Addr.add; split
        · simp [*]
        · rfl
      have := (hf j hj).2
      rw [hadd, hadd, hadd] at this
      simpa [Nat.add_assoc] using this
end Go.Proofs.Ytoigogjmhkpdlaa
