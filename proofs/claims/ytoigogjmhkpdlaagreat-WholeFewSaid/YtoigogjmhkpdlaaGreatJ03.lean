/- A part of the proof of WholeFew: the texts FieldA, FieldB, FieldD. -/
import Derived.Test.YtoigogjmhkpdlaaGreatJ01
import Derived.Test.YtoigogjmhkpdlaaGreatJ02
import Derived.BigRegion
import Derived.Outline
import Derived.RegionTactic
import Derived.Test.YtoigogjmhkpdlaaGreatProg
import Derived.WalkLawsBesides
import Derived.WalkSpells
import Derived.BigQuiet
import Derived.Deep.QuietTactic
import Derived.Deep.DeepMust
set_option maxRecDepth 100000
namespace Go.Proofs.YtoigogjmhkpdlaaGreat
open Go.RowKit
open Gf
def zeroF : Array Value := (List.replicate 255 (Value.int .u8 0) ++ List.replicate 256 (Value.int .i64 0)).toArray
theorem zero_field (w : World) : (zeroValue 378).run Tryz.prog w = .ok (.agg zeroF) w := by kernel_rfl
theorem box_field (w : World) : (Instr.box 378 (.agg zeroF)).run Tryz.prog w = .ok (.pointer (some ⟨w.heap.size, 0, none⟩)) (w.alloc (.cells zeroF 378)) := by kernel_rfl
def Tab (w : World) (g k : Nat) : Prop :=
  ∃ cs : Array Value, w.heap[g]? = some (.cells cs 378 (0, 0)) ∧ cs.size = 511 ∧ (∀ j, j < k → cs[j]? = some (.int .u8 (pw j : Nat))) ∧ ∀ j, j < k → cs[255 + pw j]? = some (.int .i64 (j : Nat))
theorem Tab.some_ {w : World} {g k : Nat} (h : Tab w g k) (j : Nat) (hj : j < 511) : (∃ v, w.cell? ⟨g, j, none⟩ = some v) ∧ w.frozen? ⟨g, j, none⟩ = false := by
  obtain ⟨cs, hh, hs, _⟩ := h
  exact ⟨⟨cs[j], by simp [World.cell?, hh]⟩, by simp [World.frozen?, hh]⟩
theorem Tab.step {w : World} {g k : Nat} (h : Tab w g k) (hk : k < 255) : Tab ((w.setCell ⟨g, k, none⟩ (.int .u8 (pw k : Nat))).setCell ⟨g, 255 + pw k, none⟩ (.int .i64 (k : Nat))) g (k + 1) := by
  obtain ⟨cs, hh, hs, h1, h2⟩ := h
  have hp := pw_lt k
  refine ⟨(cs.setIfInBounds k (.int .u8 (pw k : Nat))).setIfInBounds (255 + pw k) (.int .i64 (k : Nat)), ?_, by simpa using hs, ?_, ?_⟩
  · simp [World.setCell, Array.getElem?_modify, hh]
  · intro j hj
    rw [Array.getElem?_setIfInBounds_ne (by omega)]
    by_cases e : j = k
    · subst e; rw [Array.getElem?_setIfInBounds_self_of_lt (by omega)]
    · rw [Array.getElem?_setIfInBounds_ne (by omega)]; exact h1 j (by omega)
  · intro j hj
    by_cases e : j = k
    · subst e; rw [Array.getElem?_setIfInBounds_self_of_lt (by simp; omega)]
    · have hne : pw j ≠ pw k := by
        intro he
        have := congrArg logN he
        rw [logN_pw, logN_pw] at this
        omega
      rw [Array.getElem?_setIfInBounds_ne (by omega), Array.getElem?_setIfInBounds_ne (by omega)]
      exact h2 j (by omega)
theorem i64_xor_nat (a b : Nat) (ha : a < 4294967296) (hb : b < 4294967296) : bits .xor .i64 (a : Int) (b : Int) = ((a ^^^ b : Nat) : Int) := by
  have hx : a ^^^ b < 2 ^ 32 := Nat.xor_lt_two_pow (by omega) (by omega)
  show IntKind.i64.wrap ((BitVec.ofInt 64 (a : Int) ^^^ BitVec.ofInt 64 (b : Int)).toNat : Int) = _
  rw [BitVec.toNat_xor, ofInt_u64 a (by omega), ofInt_u64 b (by omega), IntKind.wrap_i64]
  omega
theorem i64_poly (x : Nat) (h : x < 512) : bits .xor .i64 (x : Int) 285 = ((x ^^^ 285 : Nat) : Int) := i64_xor_nat x 285 (by omega) (by decide)
theorem dbl_big (x : Nat) (h : 256 ≤ x * 2) : dbl x = x * 2 ^^^ 285 := by unfold dbl; rw [if_pos h]
theorem dbl_small (x : Nat) (h : ¬ 256 ≤ x * 2) : dbl x = x * 2 := by unfold dbl; rw [if_neg h]
theorem new_any (W : World) :
    Calls Tryz.prog 243 #[] W fun e W' => e = .returned (.pointer (some ⟨W.heap.size, 0, none⟩)) ∧ Tab W' W.heap.size 255 ∧ Below W.heap.size W W' := by
  have hbu := zero_field
  have hbo := box_field
  go_enter Tryz.func243, Tryz.ntmps243
  go_wp2
  go_loopw [2, 3, 6] (fun x _ i wr => ∃ k : Nat, k ≤ 255 ∧ i = .int .i64 k ∧ x = .int .i64 (pw k : Nat) ∧ Tab wr W.heap.size k ∧ Below W.heap.size W wr) (fun _ _ i _ => 255 - (intOf i).toNat)
  case atStart =>
    refine ⟨0, by omega, rfl, by rw [pw_zero]; rfl, ⟨zeroF, heap_alloc_new W _, ?_, fun j hj => by omega, fun j hj => by omega⟩, (Below.refl _ _).alloc (Nat.le_refl _) _⟩
    unfold zeroF; rw [List.size_toArray, List.length_append, List.length_replicate, List.length_replicate]
  case round =>
    obtain ⟨k, hk, rfl, rfl, hT, hB⟩ := hrel
    by_cases hk8 : k < 255
    · have hp := pw_lt k
      obtain ⟨⟨v1, hc1⟩, hf1⟩ := hT.some_ k (by omega)
      obtain ⟨⟨v2, hc2⟩, hf2⟩ := hT.some_ (255 + pw k) (by omega)
      go_wp2
      go_region
      have hz := hB.size
      have hT2 := hT.step hk8
      have hB2 := (hB.setCell (p := ⟨W.heap.size, k, none⟩) (Nat.le_refl _) (.int .u8 (pw k : Nat))).setCell (p := ⟨W.heap.size, 255 + pw k, none⟩) (Nat.le_refl _) (.int .i64 (k : Nat))
      by_cases hbig : 256 ≤ pw k * 2
      · have HD := Lib.hid (dbl_big _ hbig)
        have HX := Lib.hid (show bits .xor .i64 (((pw k : Nat) : Int) * 2) 285 = ((pw (k + 1) : Nat) : Int) by rw [← dbl_pw, HD.out, ← i64_poly (pw k * 2) (by omega)]; rfl)
        have hd1 : decide ((255 : Int) < ((pw k : Nat) : Int) * 2) = true := by simp; omega
        go_wp2
        go_roundw
        case rel => exact ⟨k + 1, by omega, by go_num, by rw [HX.out], hT2, hB2.drew⟩
        case measure => simp [intOf]; omega
      · have HD := Lib.hid (show ((pw k : Nat) : Int) * 2 = ((pw (k + 1) : Nat) : Int) by rw [← dbl_pw, dbl_small _ hbig]; omega)
        have hd1 : decide ((255 : Int) < ((pw k : Nat) : Int) * 2) = false := by simp; omega
        go_wp2
        go_roundw
        case rel => exact ⟨k + 1, by omega, by go_num, by rw [HD.out], hT2, hB2.drew⟩
        case measure => simp [intOf]; omega
    · go_wp2
      go_ret
      have hk9 : k = 255 := by omega
      exact ⟨rfl, hk9 ▸ hT, hB⟩
def FieldAt (w : World) (g : Nat) : Prop :=
  g < w.heap.size ∧ (∀ i, i < 255 → w.cell? ⟨g, i, none⟩ = some (.int .u8 (pw i : Nat))) ∧ ∀ a, 1 ≤ a → a < 256 → w.cell? ⟨g, 255 + a, none⟩ = some (.int .i64 (logN a : Nat))
theorem FieldAt.below {w w' : World} {g : Nat} (h : FieldAt w g) (hb : Below w.heap.size w w') : FieldAt w' g :=
  ⟨Nat.lt_of_lt_of_le h.1 hb.size, fun i hi => (hb.cell (by exact h.1)).trans (h.2.1 i hi), fun a h1 h2 => (hb.cell (by exact h.1)).trans (h.2.2 a h1 h2)⟩
theorem Tab.field {w : World} {g : Nat} (h : Tab w g 255) : FieldAt w g := by
  obtain ⟨cs, hh, hs, h1, h2⟩ := h
  have hlt : g < w.heap.size := by
    rcases Nat.lt_or_ge g w.heap.size with h' | h'
    · exact h'
    · rw [Array.getElem?_eq_none h'] at hh; cases hh
  refine ⟨hlt, fun i hi => ?_, fun a ha ha2 => ?_⟩
  · simp only [World.cell?, hh]; exact h1 i hi
  · have := h2 (logN a) (logN_lt a ha2 ha).1
    rw [pw_logN a ha2 ha] at this
    simp only [World.cell?, hh]; exact this
theorem field_new (W : World) :
    Calls Tryz.prog 243 #[] W fun e W' => ∃ g, e = .returned (.pointer (some ⟨g, 0, none⟩)) ∧ FieldAt W' g ∧ Below W.heap.size W W' :=
  (new_any W).mono fun _ _ ⟨h1, h2, h3⟩ => ⟨_, h1, h2.field, h3⟩
open Gf
def Dr (W w : World) : Prop := ∃ n, w = W.drewN n
theorem ret_u8 {a b : Int} (h : a = b) : Ending.returned (.int .u8 a) = .returned (.int .u8 b) := by rw [h]
theorem mul_any (g a b : Nat) (ha : a < 256) (hb : b < 256) (W : World) (hF : FieldAt W g) :
    Calls Tryz.prog 277 #[.pointer (some ⟨g, 0, none⟩), .int .u8 (a : Int), .int .u8 (b : Int)] W fun e W' => e = .returned (.int .u8 (mulN a b : Nat)) ∧ Dr W W' := by
  obtain ⟨_, hE, hL⟩ := hF
  by_cases h1 : a = 0
  · subst h1
    have HM := Lib.hid (mulN_zero' b)
    go_enter Tryz.func277, Tryz.ntmps277
    go_wp2
    go_ret
    exact ⟨ret_u8 (by rw [HM.out]; rfl), 0, rfl⟩
  by_cases h2 : b = 0
  · subst h2
    have HM := Lib.hid (mulN_zero a)
    have hz1 : ((a : Int) == 0) = false := by rw [beq_eq_false_iff_ne]; omega
    clear h1
    go_enter Tryz.func277, Tryz.ntmps277
    go_wp2
    go_ret
    exact ⟨ret_u8 (by rw [HM.out]; rfl), 0, rfl⟩
  have hc1 := hL a (by omega) ha
  have hc2 := hL b (by omega) hb
  have hl1 := (logN_lt a ha (by omega)).1
  have hl2 := (logN_lt b hb (by omega)).1
  have hc3 := hE ((logN a + logN b) % 255) (by omega)
  have hz1 : ((a : Int) == 0) = false := by rw [beq_eq_false_iff_ne]; omega
  have hz2 : ((b : Int) == 0) = false := by rw [beq_eq_false_iff_ne]; omega
  have hi3 : (logN a + logN b) % 255 < 255 := by omega
  have HM := Lib.hid (show mulN a b = pw ((logN a + logN b) % 255) by rw [mulN_pw a b (by omega) (by omega), pw_mod])
  clear h1 h2 hE hL
  go_enter Tryz.func277, Tryz.ntmps277
  go_wp2
  go_quiet (fail)
  go_wp2
  go_ret
  exact ⟨ret_u8 (by rw [HM.out]), _, rfl⟩
theorem inv_any (g a : Nat) (ha : a < 256) (W : World) (hF : FieldAt W g) :
    Calls Tryz.prog 246 #[.pointer (some ⟨g, 0, none⟩), .int .u8 (a : Int)] W fun e W' => e = .returned (.int .u8 (invN a : Nat)) ∧ Dr W W' := by
  obtain ⟨_, hE, hL⟩ := hF
  by_cases h1 : a = 0
  · subst h1
    go_enter Tryz.func246, Tryz.ntmps246
    go_wp2
    go_ret
    exact ⟨ret_u8 (by unfold invN; rfl), 0, rfl⟩
  have hc1 := hL a (by omega) ha
  have hl1 := (logN_lt a ha (by omega)).1
  obtain ⟨r, hr, hr2, hr3⟩ : ∃ r : Nat, (-((logN a : Nat) : Int)) % 255 = (r : Int) ∧ r = (255 - logN a) % 255 ∧ r < 255 := ⟨(255 - logN a) % 255, by omega, rfl, by omega⟩
  have hc3 := hE r hr3
  have hz1 : ((a : Int) == 0) = false := by rw [beq_eq_false_iff_ne]; omega
  have HM := Lib.hid (show invN a = pw r by rw [hr2]; unfold invN; rw [if_neg h1, pw_mod])
  clear h1 hE hL hr2
  go_enter Tryz.func246, Tryz.ntmps246
  go_wp2
  go_region
  go_wp2
  go_ret
  exact ⟨ret_u8 (by rw [HM.out]), _, rfl⟩
open Gf
def NewRow (W : World) (l : List Nat) (W' : World) (e : Ending) : Prop :=
  ∃ (L : List Nat) (A : Option Addr) (c : Nat), Hid (L = l) ∧ e = .returned (.slice A L.length c) ∧ OwnB 5 W' W.heap.size A c L ∧ Below W.heap.size W W'
theorem row_any (g c : Nat) (hc : c < 256) (A : Option Addr) (l : List Nat) (cap : Nat) (hl : Bytes l) (hm : l.length ≤ 140737488351232) (W : World) (hF : FieldAt W g) (hr : RdB W A l) :
    Calls Tryz.prog 245 #[.pointer (some ⟨g, 0, none⟩), .int .u8 (c : Int), .slice A l.length cap] W fun e W' => NewRow W (l.map (mulN c)) W' e := by
  obtain ⟨i0, hi, hz0, hz1, hz2⟩ := info_parts Tryz.infoB
  have HF := Lib.hid hF
  have HR := Lib.hid hr
  clear hF hr
  have hmf : ∀ (fn : Fn) (first cap : Array Value) (w : World), (Instr.makeFunc fn first cap).run Tryz.prog w = .ok (.func fn first cap) w := fun _ _ _ _ => rfl
  go_enter Tryz.func245, Tryz.ntmps245
  go_wp2
  go_loopw [8, 10, 15] (fun o _ i wr => ∃ (k : Nat) (X : List Nat) (B : Option Addr) (d : Nat), k ≤ l.length ∧ i = .int .i64 k ∧ o = .slice B X.length d ∧ Hid (X = (l.take k).map (mulN c)) ∧ OwnB 5 wr W.heap.size B d X ∧ Below W.heap.size W wr) (fun _ _ i _ => l.length - (intOf i).toNat)
  case atStart => exact ⟨0, [], none, 0, Nat.zero_le _, rfl, rfl, Lib.hid rfl, OwnB.nil _ _ _, Below.refl _ _⟩
  case round =>
    obtain ⟨k, X, B, d, hk, rfl, rfl, hX, ho, hB⟩ := hrel
    have hs := hB.size
    have hXl : X.length ≤ 140737488351232 := by rw [hX.out]; simp; omega
    by_cases hk8 : k < l.length
    · obtain ⟨ad, rfl, hcell⟩ := (HR.out.below hB (Nat.le_refl _)) (by omega)
      have hck := hcell k hk8
      have hb : l[k] < 256 := hl _ (List.getElem_mem _)
      have HFr := Lib.hid (HF.out.below hB)
      clear hcell
      go_wp2_with (first
        | (go_at_call 277; refine (mul_any g c _ hc hb _ HFr.out).mono ?_; rintro e w1 ⟨rfl, n1, rfl⟩)
        | (at_builtin; refine wpList_append_bytes _ rfl (.tmp 19) (.tmp 24) _ rfl W.heap.size 5 i0 Tryz.underlying67 hi hz0 hz1 hz2 _ _ X rfl ((ho.alloc _).drewN _) _ _ [mulN c l[k]] rfl ((rd_new _ _ _ _ _ _ rfl rfl).drewN _) (by simp; omega) (by simp; omega) ?_; intro L B2 d2 w2 hL ho2 hb2; have hB2 := (hB.alloc hs (.cells #[.int .u8 ((mulN c l[k] : Nat) : Int)] 5)).trans (below_undrewN hb2)))
      go_roundw
      case rel => exact ⟨k + 1, L, B2, d2, by omega, by go_num, rfl, Lib.hid (by rw [hL.out, hX.out, List.take_succ_eq_append_getElem hk8, List.map_append]; rfl), ho2, hB2⟩
      case measure => simp [intOf]; omega
    · have HX := Lib.hid (show X = l.map (mulN c) by rw [hX.out, List.take_of_length_le (by omega)])
      go_wp2
      go_ret
      exact ⟨X, B, d, HX, rfl, ho, hB⟩
end Go.Proofs.YtoigogjmhkpdlaaGreat
