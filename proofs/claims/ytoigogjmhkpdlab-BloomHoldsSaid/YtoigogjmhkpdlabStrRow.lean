/- A slice of strings that came in: what it reads as, and that each string is within the reach that every row says of its inputs. -/
import Derived.Test.YtoigogjmhkpdlabBloomB
import Derived.SliceStrings
import Derived.SizedLaws
import Derived.OpenShut
namespace Go.Proofs.Ytoigogjmhkpdlab
open Go.RowKit Go.ChangeShapes

theorem open_keys {H : Type} {enc : TypeId × Value → H} {P : Program} {w : World} {base : Nat} {spare : Nat → Bool} {held : Bool} {t e : TypeId} {fuel : Nat} {cs : List Value} {x : DataW H × List MemPlace}
    (ht : P.underlying t = some (.slice e)) (he : P.underlying e = some .string) (ce : P.cellsOf e = 1) (h : DataW.trod enc P w base spare held fuel t cs = some x) :
    ∃ A l cap, cs = [.slice A (List.length l) cap] ∧ RdS w A l ∧ l.length ≤ maxLen ∧ ((x.1 = .nil ∧ l = []) ∨ ∃ sp, x.1 = .slice (strs l) sp) := by
  rcases open_strings ht he ce h with ⟨rfl, rfl⟩ | ⟨a, len, cap, ss, rfl, _, hl, hm, hz, rfl, hc, _⟩
  · exact ⟨none, [], 0, rfl, Rd.nil _ _ _, Nat.zero_le _, .inl ⟨rfl, rfl⟩⟩
  · have hlen : len ≤ ss.length := by rw [hz]; split <;> omega
    have hll : (ss.take len).length = len := by rw [List.length_take]; omega
    refine ⟨some a, ss.take len, cap, by rw [hll], ?_, by omega, .inr ⟨_, rfl⟩⟩
    intro _
    refine ⟨a, rfl, fun j hj => ?_⟩
    rw [hll] at hj
    rw [hc j (by omega)]
    simp [List.getElem_take, show j < ss.length by omega]

theorem reach_keys {H : Type} {P : Program} {ts : List TypeId} {ds : List (DataW H)} (h : (DataW.weightsEach P ts ds).all (· ≤ reachBytes) = true) {j : Nat} {t e : TypeId} {l : List ByteArray} {d : DataW H}
    (ht : ts[j]? = some t) (hd : ds[j]? = some d) (hu : P.underlying t = some (.slice e)) (hl : (d = .nil ∧ l = []) ∨ ∃ sp, d = .slice (strs l) sp) : Reach l := by
  rcases hl with ⟨_, rfl⟩ | ⟨sp, rfl⟩
  · intro s hs; simp at hs
  · intro s hs
    have hall : ∀ (xs : List ByteArray), s ∈ xs → s.data.toList.length ∈ DataW.weightsAll P e (strs xs : List (DataW H)) := by
      intro xs
      induction xs with
      | nil => intro h; simp at h
      | cons y xs ih =>
        intro h
        show _ ∈ DataW.weights P e (.lit (.string y.data.toList)) ++ DataW.weightsAll P e (strs xs)
        rcases List.mem_cons.1 h with rfl | h
        · simp [DataW.weights]
        · exact List.mem_append_right _ (ih h)
    have hmem : s.data.toList.length ∈ DataW.weights P t (.slice (strs l) sp : DataW H) := by
      simp only [DataW.weights, hu]
      exact List.mem_cons_of_mem _ (List.mem_append_left _ (hall l hs))
    have := List.all_eq_true.1 h _ (DataW.weights_mem_each ht hd _ hmem)
    have h2 : s.data.toList.length ≤ reachBytes := by simpa using this
    have h3 : s.data.toList.length = s.size := by rw [Array.length_toList]; rfl
    rw [h3] at h2
    unfold reachBytes at h2
    exact h2
end Go.Proofs.Ytoigogjmhkpdlab
