/- Walks of the program's field: the tables. -/
import Derived.Test.YtoigogjmhkpdlabProg
import Derived.Test.YtoigogjmhkpdlabGf
import Derived.Test.YtoigogjmhkpdlabWords
import Derived.WalkSpells
import Derived.WalkLawsBesides
import Derived.Outline
import Derived.BigRegion
import Derived.RegionTactic
namespace Go.Proofs.Ytoigogjmhkpdlab
open Go.RowKit
open Gf

/-- The zero field's cells. -/
def zeroF : Array Value := (List.replicate 255 (Value.int .u8 0) ++ List.replicate 256 (Value.int .i64 0)).toArray

theorem zero_field (w : World) : (zeroValue 42).run Try.prog w = .ok (.agg zeroF) w := by kernel_rfl
theorem box_field (w : World) : (Instr.box 42 (.agg zeroF)).run Try.prog w = .ok (.pointer (some ⟨w.heap.size, 0, none⟩)) (w.alloc (.cells zeroF 42)) := by kernel_rfl

/-- The first k powers and their exponents stand in block g. -/
def Tab (w : World) (g k : Nat) : Prop :=
  ∃ cs : Array Value, w.heap[g]? = some (.cells cs 42 (0, 0)) ∧ cs.size = 511 ∧ (∀ j, j < k → cs[j]? = some (.int .u8 (pw j : Nat))) ∧ ∀ j, j < k → cs[255 + pw j]? = some (.int .i64 (j : Nat))
theorem Tab.some_ {w : World} {g k : Nat} (h : Tab w g k) (j : Nat) (hj : j < 511) : (∃ v, w.cell? ⟨g, j, none⟩ = some v) ∧ w.frozen? ⟨g, j, none⟩ = false := by
  obtain ⟨cs, hh, hs, _⟩ := h
  exact ⟨⟨cs[j], by simp [World.cell?, hh]⟩, by simp [World.frozen?, hh]⟩
theorem Tab.step {w : World} {g k : Nat} (h : Tab w g k) (hk : k < 255) : Tab ((w.setCell ⟨g, k, none⟩ (.int .u8 (pw k : Nat))).setCell ⟨g, 255 + pw k, none⟩ (.int .i64 (k : Nat))) g (k + 1) := by
  obtain ⟨cs, hh, hs, h1, h2⟩ := h
  have hp := pw_lt k
  refine ⟨(cs.setIfInBounds k (.int .u8 (pw k : Nat))).setIfInBounds (255 + pw k) (.int .i64 (k : Nat)), ?_, by simpa using hs, ?_, ?_⟩
  · simp [World.setCell, Array.getElem?_modify, hh]
  · intro j hj
    rw [Array.getElem?_setIfInBounds_ne (by omega)]
    by_cases e : j = k
    · subst e; rw [Array.getElem?_setIfInBounds_self_of_lt (by omega)]
    · rw [Array.getElem?_setIfInBounds_ne (by omega)]; exact h1 j (by omega)
  · intro j hj
    by_cases e : j = k
    · subst e; rw [Array.getElem?_setIfInBounds_self_of_lt (by simp; omega)]
    · have hne : pw j ≠ pw k := by
        intro he
        have := congrArg logN he
        rw [logN_pw, logN_pw] at this
        omega
      rw [Array.getElem?_setIfInBounds_ne (by omega), Array.getElem?_setIfInBounds_ne (by omega)]
      exact h2 j (by omega)
theorem i64_xor_nat (a b : Nat) (ha : a < 4294967296) (hb : b < 4294967296) : bits .xor .i64 (a : Int) (b : Int) = ((a ^^^ b : Nat) : Int) := by
  have hx : a ^^^ b < 2 ^ 32 := Nat.xor_lt_two_pow (by omega) (by omega)
  show IntKind.i64.wrap ((BitVec.ofInt 64 (a : Int) ^^^ BitVec.ofInt 64 (b : Int)).toNat : Int) = _
  rw [BitVec.toNat_xor, ofInt_u64 a (by omega), ofInt_u64 b (by omega), IntKind.wrap_i64]
  omega
theorem i64_poly (x : Nat) (h : x < 512) : bits .xor .i64 (x : Int) 285 = ((x ^^^ 285 : Nat) : Int) := i64_xor_nat x 285 (by omega) (by decide)
theorem dbl_big (x : Nat) (h : 256 ≤ x * 2) : dbl x = x * 2 ^^^ 285 := by unfold dbl; rw [if_pos h]
theorem dbl_small (x : Nat) (h : ¬ 256 ≤ x * 2) : dbl x = x * 2 := by unfold dbl; rw [if_neg h]

set_option maxRecDepth 100000 in
theorem new_any (W : World) :
    Calls Try.prog 8 #[] W fun e W' => e = .returned (.pointer (some ⟨W.heap.size, 0, none⟩)) ∧ Tab W' W.heap.size 255 ∧ Below W.heap.size W W' := by
  have hbu := zero_field
  have hbo := box_field
  go_enter Try.func8, Try.ntmps8
  go_wp2
  go_loopw [2, 3, 6] (fun x _ i wr => ∃ k : Nat, k ≤ 255 ∧ i = .int .i64 k ∧ x = .int .i64 (pw k : Nat) ∧ Tab wr W.heap.size k ∧ Below W.heap.size W wr) (fun _ _ i _ => 255 - (intOf i).toNat)
  case atStart =>
    refine ⟨0, by omega, rfl, by rw [pw_zero]; rfl, ⟨zeroF, heap_alloc_new W _, ?_, fun j hj => by omega, fun j hj => by omega⟩, (Below.refl _ _).alloc (Nat.le_refl _) _⟩
    unfold zeroF; rw [List.size_toArray, List.length_append, List.length_replicate, List.length_replicate]
  case round =>
    obtain ⟨k, hk, rfl, rfl, hT, hB⟩ := hrel
    by_cases hk8 : k < 255
    · have hp := pw_lt k
      obtain ⟨⟨v1, hc1⟩, hf1⟩ := hT.some_ k (by omega)
      obtain ⟨⟨v2, hc2⟩, hf2⟩ := hT.some_ (255 + pw k) (by omega)
      go_wp2
      go_region
      have hz := hB.size
      have hT2 := hT.step hk8
      have hB2 := (hB.setCell (p := ⟨W.heap.size, k, none⟩) (Nat.le_refl _) (.int .u8 (pw k : Nat))).setCell (p := ⟨W.heap.size, 255 + pw k, none⟩) (Nat.le_refl _) (.int .i64 (k : Nat))
      by_cases hbig : 256 ≤ pw k * 2
      · have HD := Lib.hid (dbl_big _ hbig)
        have HX := Lib.hid (show bits .xor .i64 (((pw k : Nat) : Int) * 2) 285 = ((pw (k + 1) : Nat) : Int) by rw [← dbl_pw, HD.out, ← i64_poly (pw k * 2) (by omega)]; rfl)
        have hd1 : decide ((255 : Int) < ((pw k : Nat) : Int) * 2) = true := by simp; omega
        go_wp2
        go_roundw
        case rel => exact ⟨k + 1, by omega, by go_num, by rw [HX.out], hT2, hB2.drew⟩
        case measure => simp [intOf]; omega
      · have HD := Lib.hid (show ((pw k : Nat) : Int) * 2 = ((pw (k + 1) : Nat) : Int) by rw [← dbl_pw, dbl_small _ hbig]; omega)
        have hd1 : decide ((255 : Int) < ((pw k : Nat) : Int) * 2) = false := by simp; omega
        go_wp2
        go_roundw
        case rel => exact ⟨k + 1, by omega, by go_num, by rw [HD.out], hT2, hB2.drew⟩
        case measure => simp [intOf]; omega
    · go_wp2
      go_ret
      have hk9 : k = 255 := by omega
      exact ⟨rfl, hk9 ▸ hT, hB⟩

/-- A field stands in block g. -/
def FieldAt (w : World) (g : Nat) : Prop :=
  g < w.heap.size ∧ (∀ i, i < 255 → w.cell? ⟨g, i, none⟩ = some (.int .u8 (pw i : Nat))) ∧ ∀ a, 1 ≤ a → a < 256 → w.cell? ⟨g, 255 + a, none⟩ = some (.int .i64 (logN a : Nat))
theorem FieldAt.below {w w' : World} {g : Nat} (h : FieldAt w g) (hb : Below w.heap.size w w') : FieldAt w' g :=
  ⟨Nat.lt_of_lt_of_le h.1 hb.size, fun i hi => (hb.cell (by exact h.1)).trans (h.2.1 i hi), fun a h1 h2 => (hb.cell (by exact h.1)).trans (h.2.2 a h1 h2)⟩
theorem Tab.field {w : World} {g : Nat} (h : Tab w g 255) : FieldAt w g := by
  obtain ⟨cs, hh, hs, h1, h2⟩ := h
  have hlt : g < w.heap.size := by
    rcases Nat.lt_or_ge g w.heap.size with h' | h'
    · exact h'
    · rw [Array.getElem?_eq_none h'] at hh; cases hh
  refine ⟨hlt, fun i hi => ?_, fun a ha ha2 => ?_⟩
  · simp only [World.cell?, hh]; exact h1 i hi
  · have := h2 (logN a) (logN_lt a ha2 ha).1
    rw [pw_logN a ha2 ha] at this
    simp only [World.cell?, hh]; exact this

/-- field.New. -/
theorem field_new (W : World) :
    Calls Try.prog 8 #[] W fun e W' => ∃ g, e = .returned (.pointer (some ⟨g, 0, none⟩)) ∧ FieldAt W' g ∧ Below W.heap.size W W' :=
  (new_any W).mono fun _ _ ⟨h1, h2, h3⟩ => ⟨_, h1, h2.field, h3⟩
end Go.Proofs.Ytoigogjmhkpdlab
