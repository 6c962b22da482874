/- A part of the proof of WholeFew: the texts NetA, NetB, NetC, NetD, NetE, CellB. -/
import Derived.Test.YtoigogjmhkpdlaaGreatJ11
import Derived.Deep.MidRow
import Derived.Deep.RegionLaw
set_option maxHeartbeats 3200000
set_option maxRecDepth 100000
namespace Go.Proofs.YtoigogjmhkpdlaaGreat
open Go.RowKit
def cmpI (a b : Int) : Int := if a < b then -1 else if b < a then 1 else 0
theorem nani_any (a : Int) (W : World) : Calls Tryz.prog 221 #[.int .i64 a] W fun e W' => e = .returned (.bool false) ∧ W = W' := by
  go_enter Tryz.func221, Tryz.ntmps221
  go_wp2
  go_ret
  exact ⟨rfl, rfl⟩
theorem cmpi_any (a b : Int) (W : World) : Calls Tryz.prog 190 #[.int .i64 a, .int .i64 b] W fun e W' => e = .returned (.int .i64 (cmpI a b)) ∧ W = W' := by
  have hn := nani_any
  have HC := Lib.hid (fun (e : Ending) (h : e = .returned (.int .i64 (if a < b then -1 else if b < a then 1 else 0))) => (show e = .returned (.int .i64 (cmpI a b)) from h))
  go_enter Tryz.func190, Tryz.ntmps190
  go_wp2_with (first | (go_at_call 221; refine (hn _ _).mono ?_; rintro e w1 ⟨rfl, rfl⟩))
  all_goals
    go_ret
    refine ⟨HC.out _ ?_, rfl⟩
    first
      | (show Ending.returned (.int .i64 (-1)) = _; rw [if_pos (by omega)])
      | (show Ending.returned (.int .i64 1) = _; rw [if_neg (by omega), if_pos (by omega)])
      | (show Ending.returned (.int .i64 0) = _; rw [if_neg (by omega), if_neg (by omega)])
def orI (a b : Int) : Int := if a = 0 then b else a
theorem or2_any (a b : Int) (g c : Nat) (te : TypeId) (W : World) (hg : W.heap[g]? = some (.cells #[.int .i64 a, .int .i64 b] te)) :
    Calls Tryz.prog 189 #[.slice (some ⟨g, 0, none⟩) 2 c] W fun e W' => e = .returned (.int .i64 (orI a b)) ∧ W = W' := by
  have c0 : W.cell? ⟨g, 0, none⟩ = some (.int .i64 a) := cob hg 0 rfl
  have c1 : W.cell? ⟨g, 1, none⟩ = some (.int .i64 b) := cob hg 1 rfl
  clear hg
  have HC := Lib.hid (fun (e : Ending) (h : e = .returned (.int .i64 (if a = 0 then b else a))) => (show e = .returned (.int .i64 (orI a b)) from h))
  go_enter Tryz.func189, Tryz.ntmps189
  go_wp2
  refine wp_loop_rounds 3 ?_
  rw [rounds_succ]
  by_cases ha : a = 0
  · subst ha
    go_wp2
    rw [rounds_succ]
    by_cases hb : b = 0
    · subst hb
      go_wp2
      rw [rounds_succ]
      go_wp2
      go_ret
      exact ⟨HC.out _ rfl, rfl⟩
    · have hbb : (b != 0) = true := by simpa using hb
      go_wp2
      go_ret
      exact ⟨HC.out _ rfl, rfl⟩
  · have hbb : (a != 0) = true := by simpa using ha
    go_wp2
    go_ret
    refine ⟨HC.out _ ?_, rfl⟩
    show Ending.returned (.int .i64 a) = _
    rw [if_neg ha]
/-! ### A row of structs -/
theorem setCells_row (g : Nat) (e : TypeId) : ∀ (vs : List Value) (o : Nat) (w : World) (cur : Array Value), w.heap[g]? = some (.cells cur e (0, 0)) → ∃ cur', (w.setCells g o vs).heap[g]? = some (.cells cur' e (0, 0)) ∧ cur'.size = cur.size
  | [], _, _, cur, h => ⟨cur, h, rfl⟩
  | v :: r, o, w, cur, h => by
    obtain ⟨c', h1, h2⟩ := setCells_row g e r (o + 1) (w.setCell ⟨g, o, none⟩ v) _ (heap_setCell_same w g o cur e v h)
    exact ⟨c', h1, by rw [h2]; simp⟩
theorem setCells_grown (g : Nat) : ∀ (vs : List Value) (o : Nat) (w : World), w.grownBy (w.setCells g o vs) (some g)
  | [], _, _ => ⟨rfl, rfl, rfl, Nat.le_refl _, fun _ _ _ => rfl⟩
  | v :: r, o, w => by
    have h := setCells_grown g r (o + 1) (w.setCell ⟨g, o, none⟩ v)
    exact ⟨h.os, h.tape, h.output, Nat.le_trans (by simp) h.size, fun k hk hn => (h.block k (by simpa using hk) hn).trans (heap_setCell_other _ _ _ _ (fun e => hn (by rw [e])))⟩
theorem setCells_size (g : Nat) : ∀ (vs : List Value) (o : Nat) (w : World), (w.setCells g o vs).heap.size = w.heap.size
  | [], _, _ => rfl
  | v :: r, o, w => by
    have h := setCells_size g r (o + 1) (w.setCell ⟨g, o, none⟩ v)
    rw [World.setCells, h]; simp
section
variable {α : Type} {mk : α → List Value} {e : TypeId} {sz : Nat} {w : World} {base : Nat} {g c : Nat} {l : List α}
theorem OwnT.range (h : OwnT mk e sz w base (some ⟨g, 0, none⟩) c l) (hsz : ∀ x, (mk x).length = sz) (j : Nat) (hj : j < l.length) : w.rangeAt g (j * sz) (mk l[j]) := fun i v hv =>
  h.cell hsz j i hj v hv
theorem OwnT.there (h : OwnT mk e sz w base (some ⟨g, 0, none⟩) c l) (hsz : ∀ x, (mk x).length = sz) (j : Nat) (hj : j < l.length) : w.there g (j * sz) sz := fun i hi =>
  ⟨(h.range hsz j hj).isSome i (by rw [hsz]; exact hi), h.free _⟩
theorem OwnT.setAt (h : OwnT mk e sz w base (some ⟨g, 0, none⟩) c l) (hsz : ∀ x, (mk x).length = sz) (j : Nat) (hj : j < l.length) (y : α) : OwnT mk e sz (w.setCells g (j * sz) (mk y)) base (some ⟨g, 0, none⟩) c (l.set j y) := by
  have hth := h.there hsz j hj
  have hall := h
  rcases h.2 with ⟨h1, _⟩ | ⟨g2, cap, cur, h1, hb, hg, hn, hm, hs, htk⟩
  · injection h1 with h1; cases h1
  · injection h1 with e1 _ e2
    injection e1 with e1
    injection e1 with e1
    subst e1; subst e2
    obtain ⟨cur', hg', hs'⟩ := setCells_row g e (mk y) (j * sz) w cur hg
    have hlen : ((l.set j y).flatMap mk).length = l.length * sz := by rw [flat_len mk sz hsz, List.length_set]
    refine ⟨by rw [hlen, List.length_set], .inr ⟨g, c, cur', by rw [List.length_set], hb, hg', by rw [List.length_set]; exact hn, hm, by omega, ?_⟩⟩
    rw [List.length_set]
    apply List.ext_getElem?
    intro k
    rw [List.getElem?_take]
    by_cases hk : k < l.length * sz
    · rw [if_pos hk]
      have hsz0 : 0 < sz := by rcases Nat.eq_zero_or_pos sz with h0 | h0; · rw [h0] at hk; omega
                               · exact h0
      have hq : k / sz < l.length := (Nat.div_lt_iff_lt_mul hsz0).2 hk
      have hr : k % sz < sz := Nat.mod_lt _ hsz0
      have hkk : k = k / sz * sz + k % sz := by rw [Nat.mul_comm]; exact (Nat.div_add_mod k sz).symm
      have hfl := flat_get mk sz hsz (l.set j y) (k / sz) (k % sz) (by rw [List.length_set]; exact hq) hr
      rw [← hkk] at hfl
      rw [hfl]
      have hcell : (w.setCells g (j * sz) (mk y)).cell? ⟨g, k, none⟩ = cur'[k]? := cell_of_row _ g k cur' e (0, 0) hg'
      rw [Array.getElem?_toList, ← hcell]
      by_cases hjk : k / sz = j
      · have hin := World.cell?_setCells_in g (mk y) (j * sz) w (fun i hi => (hth i (by rw [← hsz y]; exact hi)).1) (k % sz) (by rw [hsz]; exact hr)
        have hk2 : k = j * sz + k % sz := by rw [← hjk]; exact hkk
        have : (⟨g, j * sz + k % sz, none⟩ : Addr) = ⟨g, k, none⟩ := by rw [← hk2]
        rw [this] at hin
        rw [hin]
        have hget : (l.set j y)[k / sz]'(by rw [List.length_set]; exact hq) = y := by rw [List.getElem_set]; rw [if_pos hjk.symm]
        rw [hget, List.getElem?_eq_getElem]
      · rw [World.cell?_setCells_out g (mk y) (j * sz) w ⟨g, k, none⟩ (fun _ _ => by
          rw [hsz]
          show k < j * sz ∨ j * sz + sz ≤ k
          rcases Nat.lt_or_gt_of_ne hjk with h1 | h1
          · left
            have : (k / sz + 1) * sz ≤ j * sz := Nat.mul_le_mul_right _ h1
            rw [Nat.add_mul] at this; omega
          · right
            have : (j + 1) * sz ≤ k / sz * sz := Nat.mul_le_mul_right _ h1
            rw [Nat.add_mul] at this; omega)]
        have hget : (l.set j y)[k / sz]'(by rw [List.length_set]; exact hq) = l[k / sz] := by rw [List.getElem_set]; rw [if_neg (fun e => hjk e.symm)]
        rw [hget]
        have hi : k % sz < (mk l[k / sz]).length := by rw [hsz]; exact hr
        rw [List.getElem?_eq_getElem hi]
        have := hall.cell hsz (k / sz) (k % sz) hq _ (List.getElem?_eq_getElem hi)
        rw [← hkk] at this
        exact this
    · rw [if_neg hk]
      rw [List.getElem?_eq_none]
      rw [hlen]; omega
end
/-! ### Packets -/
structure Pk where
  m : Mg
  due : Nat
  no : Nat
def pcells (p : Pk) : List Value := mcells p.m ++ [.int .i64 (p.due : Int), .int .i64 (p.no : Int)]
def pkvl (p : Pk) : Value := .agg (pcells p).toArray
theorem pcells_len (p : Pk) : (pcells p).length = 13 := rfl
theorem pcells_one (p : Pk) : ∀ u ∈ pcells p, u.oneCell' = true := by
  intro u hu
  rcases List.mem_append.1 hu with h | h
  · exact mcells_one _ u h
  · simp only [List.mem_cons, List.not_mem_nil, or_false] at h
    rcases h with rfl | rfl <;> rfl
theorem Tryz.infoPk : (Tryz.prog.info? 181).map (fun i => (i.zero, i.size, i.bytes)) = some (some (.agg #[.int .i64 0, .int .i64 0, .int .i64 0, .int .i64 0, .int .i64 0, .int .i64 0, .int .i64 0, .int .i64 0, .bool false, .string ByteArray.empty, .slice none 0 0, .int .i64 0, .int .i64 0]), 13, 128) := by kernel_rfl
def befI (p q : Pk) : Int := orI (cmpI p.due q.due) (cmpI p.no q.no)
theorem two_new (W : World) (o1 o2 : Obj) {w0 : World} (h : w0 = (W.alloc o1).alloc o2) : w0.heap[W.heap.size]? = some o1 ∧ w0.heap[W.heap.size + 1]? = some o2 ∧ Below W.heap.size W w0 ∧ w0.heap.size = W.heap.size + 2 := by
  subst h
  exact ⟨(heap_alloc_old _ _ (by simp)).trans (heap_alloc_new _ _), by have := heap_alloc_new (W.alloc o1) o2; rw [World.size_alloc] at this; exact this, ((Below.refl W.heap.size W).alloc (Nat.le_refl _) _).alloc (by simp) _, by simp⟩
theorem new_at (w : World) (o : Obj) (g : Nat) (hg : g = w.heap.size) : (w.alloc o).heap[g]? = some o := by subst hg; exact heap_alloc_new _ _
theorem before_any (p q : Pk) (W : World) : Calls Tryz.prog 148 #[pkvl p, pkvl q] W fun e W' => e = .returned (.int .i64 (befI p q)) ∧ Below W.heap.size W W' := by
  obtain ⟨⟨a0, a1, a2, a3, a4, ⟨a5, a6, a7, a8, a9⟩⟩, ad, an⟩ := p
  obtain ⟨⟨b0, b1, b2, b3, b4, ⟨b5, b6, b7, b8, b9⟩⟩, bd, bn⟩ := q
  unfold befI pkvl pcells mcells
  simp only [List.cons_append, List.nil_append]
  go_enter Tryz.func148, Tryz.ntmps148
  go_wp2_with fail
  obtain ⟨w0, hw0⟩ : ∃ w0, w0 = (W.alloc (.cells #[.int .i64 (a0 : Int), .int .i64 (a1 : Int), .int .i64 (a2 : Int), .int .i64 (a3 : Int), .int .i64 (a4 : Int), .int .i64 (a5 : Int), .int .i64 (a6 : Int), .int .i64 (a7 : Int), .bool a8, .string a9, .slice none 0 0, .int .i64 (ad : Int), .int .i64 (an : Int)] 181)).alloc (.cells #[.int .i64 (b0 : Int), .int .i64 (b1 : Int), .int .i64 (b2 : Int), .int .i64 (b3 : Int), .int .i64 (b4 : Int), .int .i64 (b5 : Int), .int .i64 (b6 : Int), .int .i64 (b7 : Int), .bool b8, .string b9, .slice none 0 0, .int .i64 (bd : Int), .int .i64 (bn : Int)] 181) := ⟨_, rfl⟩
  rw [← hw0]
  obtain ⟨hA0, hB0, hb0, hs0⟩ := two_new _ _ _ hw0
  clear hw0
  have HSS := Lib.hid (show ∀ w', Below w0.heap.size w0 w' → w'.cell? ⟨W.heap.size, 11, none⟩ = some (.int .i64 (ad : Int)) ∧ w'.cell? ⟨W.heap.size, 12, none⟩ = some (.int .i64 (an : Int)) ∧ w'.cell? ⟨W.heap.size + 1, 11, none⟩ = some (.int .i64 (bd : Int)) ∧ w'.cell? ⟨W.heap.size + 1, 12, none⟩ = some (.int .i64 (bn : Int)) from fun w' hb =>
    ⟨cob ((hb.block _ (by omega)).trans hA0) 11 rfl, cob ((hb.block _ (by omega)).trans hA0) 12 rfl, cob ((hb.block _ (by omega)).trans hB0) 11 rfl, cob ((hb.block _ (by omega)).trans hB0) 12 rfl⟩)
  clear hA0 hB0
  have hS0 := HSS.out _ (Below.refl _ _)
  have hS1 := HSS.out _ (Below.refl _ _).drew
  have Hor := Lib.hid (fun (x y : Int) => or2_any x y (W.heap.size + 2) 2 3 (w0.alloc (.cells #[.int .i64 x, .int .i64 y] 3)).drew (new_at w0 _ _ hs0.symm))
  go_region_held3 (fun w' => w'.cell? ⟨W.heap.size, 11, none⟩ = some (.int .i64 (ad : Int)) ∧ w'.cell? ⟨W.heap.size, 12, none⟩ = some (.int .i64 (an : Int)) ∧ w'.cell? ⟨W.heap.size + 1, 11, none⟩ = some (.int .i64 (bd : Int)) ∧ w'.cell? ⟨W.heap.size + 1, 12, none⟩ = some (.int .i64 (bn : Int)))
    (first | exact hS0 | exact hS1 | exact HSS.out _ ((Below.refl _ _).alloc (Nat.le_refl _) _).drew | exact HSS.out _ ((Below.refl _ _).alloc (Nat.le_refl _) _))
    (first | (go_at_call 189; refine (Hor.out _ _).mono ?_; rintro e w2 ⟨rfl, rfl⟩) | (go_at_call 190; refine (cmpi_any _ _ _).mono ?_; rintro e w1 ⟨rfl, rfl⟩))
  go_wp2
  go_ret
  exact ⟨rfl, (hb0.alloc (by omega) _).drew⟩
theorem pklen_any (A : Option Addr) (n c : Nat) (W : World) : Calls Tryz.prog 360 #[.slice A n c] W fun e W' => e = .returned (.int .i64 (n : Int)) ∧ W = W' := by
  go_enter Tryz.func360, Tryz.ntmps360
  go_wp2
  go_ret
  exact ⟨rfl, rfl⟩
abbrev pkT : TypeId := 181
abbrev PkRow (w : World) (base : Nat) (A : Option Addr) (c : Nat) (l : List Pk) : Prop := OwnT pcells pkT 13 w base A c l
theorem pkless_any (base : Nat) (A : Option Addr) (c : Nat) (l : List Pk) (i j : Nat) (p q : Pk) (hi : l[i]? = some p) (hj : l[j]? = some q) (W : World) (h : PkRow W base A c l) :
    Calls Tryz.prog 361 #[.slice A l.length c, .int .i64 (i : Int), .int .i64 (j : Int)] W fun e W' => e = .returned (.bool (decide (befI p q < 0))) ∧ Below W.heap.size W W' := by
  obtain ⟨hil, hie⟩ := List.getElem?_eq_some_iff.1 hi
  obtain ⟨hjl, hje⟩ := List.getElem?_eq_some_iff.1 hj
  obtain ⟨g, rfl, _, hg, hlc⟩ := h.form (by omega)
  have hb := Lib.hid (before_any p q)
  obtain ⟨X, hX⟩ : ∃ X, W.heap[g]? = some X := ⟨_, Array.getElem?_eq_getElem hg⟩
  have r1 := h.range pcells_len i hil
  have r2 := h.range pcells_len j hjl
  rw [hie] at r1; rw [hje] at r2
  have HQ := Lib.hid (show ∀ (o : Nat) (v : Value), W.cell? ⟨g, o, none⟩ = some v → ∀ w : World, w.heap[g]? = some X → w.cell? ⟨g, o, none⟩ = some v from fun o v hc w hw => (World.cell?_of_block (hw.trans hX.symm)).trans hc)
  clear hi hj hie hje h
  obtain ⟨⟨a0, a1, a2, a3, a4, ⟨a5, a6, a7, a8, a9⟩⟩, ad, an⟩ := p
  obtain ⟨⟨b0, b1, b2, b3, b4, ⟨b5, b6, b7, b8, b9⟩⟩, bd, bn⟩ := q
  have p0 := HQ.out _ _ (r1 0 _ rfl)
  have p1 := HQ.out _ _ (r1 1 _ rfl)
  have p2 := HQ.out _ _ (r1 2 _ rfl)
  have p3 := HQ.out _ _ (r1 3 _ rfl)
  have p4 := HQ.out _ _ (r1 4 _ rfl)
  have p5 := HQ.out _ _ (r1 5 _ rfl)
  have p6 := HQ.out _ _ (r1 6 _ rfl)
  have p7 := HQ.out _ _ (r1 7 _ rfl)
  have p8 := HQ.out _ _ (r1 8 _ rfl)
  have p9 := HQ.out _ _ (r1 9 _ rfl)
  have p10 := HQ.out _ _ (r1 10 _ rfl)
  have p11 := HQ.out _ _ (r1 11 _ rfl)
  have p12 := HQ.out _ _ (r1 12 _ rfl)
  have q0 := HQ.out _ _ (r2 0 _ rfl)
  have q1 := HQ.out _ _ (r2 1 _ rfl)
  have q2 := HQ.out _ _ (r2 2 _ rfl)
  have q3 := HQ.out _ _ (r2 3 _ rfl)
  have q4 := HQ.out _ _ (r2 4 _ rfl)
  have q5 := HQ.out _ _ (r2 5 _ rfl)
  have q6 := HQ.out _ _ (r2 6 _ rfl)
  have q7 := HQ.out _ _ (r2 7 _ rfl)
  have q8 := HQ.out _ _ (r2 8 _ rfl)
  have q9 := HQ.out _ _ (r2 9 _ rfl)
  have q10 := HQ.out _ _ (r2 10 _ rfl)
  have q11 := HQ.out _ _ (r2 11 _ rfl)
  have q12 := HQ.out _ _ (r2 12 _ rfl)
  rw [Nat.add_zero] at p0 q0
  clear r1 r2
  unfold pkvl pcells mcells at hb
  simp only [List.cons_append, List.nil_append] at hb
  go_enter Tryz.func361, Tryz.ntmps361
  go_wp2
  go_region_held3 (fun w' => w'.heap[g]? = some X)
    (first | exact HS1 | exact hX)
    (first | (go_at_call 148; refine (hb.out _).mono ?_; rintro e w1 ⟨rfl, hb1'⟩; have hb1 : Below W.heap.size W w1 := below_undrew hb1'; have HS1 := (hb1.block g hg).trans hX))
  go_wp2
  go_ret
  exact ⟨rfl, hb1⟩
theorem grown_drew {w w1 : World} {r : Option Nat} (h : w.grownBy w1 r) : w.grownBy w1.drew r := ⟨h.os, h.tape, h.output, h.size, h.block⟩
theorem drew_size (w : World) : w.drew.heap.size = w.heap.size := rfl
theorem grown_again {w w1 w2 : World} {r : Option Nat} (h : w.grownBy w1 r) (h2 : w1.grownBy w2 r) : w.grownBy w2 r :=
  ⟨h2.os.trans h.os, h2.tape.trans h.tape, h2.output.trans h.output, Nat.le_trans h.size h2.size, fun k hk hn => (h2.block k (Nat.lt_of_lt_of_le hk h.size) hn).trans (h.block k hk hn)⟩
theorem pkswap_any (base : Nat) (A : Option Addr) (c : Nat) (l : List Pk) (i j : Nat) (p q : Pk) (hi : l[i]? = some p) (hj : l[j]? = some q) (hij : ¬ i = j) (W : World) (h : PkRow W base A c l) :
    Calls Tryz.prog 362 #[.slice A l.length c, .int .i64 (i : Int), .int .i64 (j : Int)] W fun e W' => e = .returned (.tuple #[]) ∧ PkRow W' base A c ((l.set i q).set j p) ∧ W.grownBy W' (blk A) ∧ W'.heap.size = W.heap.size := by
  obtain ⟨hil, hie⟩ := List.getElem?_eq_some_iff.1 hi
  obtain ⟨hjl, hje⟩ := List.getElem?_eq_some_iff.1 hj
  obtain ⟨g, rfl, _, hg, hlc⟩ := h.form (by omega)
  have r1 := h.range pcells_len i hil
  have r2 := h.range pcells_len j hjl
  rw [hie] at r1; rw [hje] at r2
  have hfr := h.free
  have hji : ¬ j = i := fun e => hij e.symm
  have HH := Lib.hid h
  obtain ⟨pp, hp⟩ : ∃ x, x = p := ⟨_, rfl⟩
  obtain ⟨qq, hq⟩ : ∃ x, x = q := ⟨_, rfl⟩
  clear hi hj hie hje h
  obtain ⟨⟨a0, a1, a2, a3, a4, ⟨a5, a6, a7, a8, a9⟩⟩, ad, an⟩ := p
  obtain ⟨⟨b0, b1, b2, b3, b4, ⟨b5, b6, b7, b8, b9⟩⟩, bd, bn⟩ := q
  have p0 := (r1 0 _ rfl)
  have p1 := (r1 1 _ rfl)
  have p2 := (r1 2 _ rfl)
  have p3 := (r1 3 _ rfl)
  have p4 := (r1 4 _ rfl)
  have p5 := (r1 5 _ rfl)
  have p6 := (r1 6 _ rfl)
  have p7 := (r1 7 _ rfl)
  have p8 := (r1 8 _ rfl)
  have p9 := (r1 9 _ rfl)
  have p10 := (r1 10 _ rfl)
  have p11 := (r1 11 _ rfl)
  have p12 := (r1 12 _ rfl)
  have q0 := (r2 0 _ rfl)
  have q1 := (r2 1 _ rfl)
  have q2 := (r2 2 _ rfl)
  have q3 := (r2 3 _ rfl)
  have q4 := (r2 4 _ rfl)
  have q5 := (r2 5 _ rfl)
  have q6 := (r2 6 _ rfl)
  have q7 := (r2 7 _ rfl)
  have q8 := (r2 8 _ rfl)
  have q9 := (r2 9 _ rfl)
  have q10 := (r2 10 _ rfl)
  have q11 := (r2 11 _ rfl)
  have q12 := (r2 12 _ rfl)
  rw [Nat.add_zero] at p0 q0
  clear r1 r2
  go_enter Tryz.func362, Tryz.ntmps362
  go_wp2
  go_region
  go_end0
  have key : ∀ w', w' = ((W.setCells g (i * 13) (pcells qq)).setCells g (j * 13) (pcells pp)).drew → (Ending.returned (.tuple #[]) = .returned (.tuple #[]) ∧ PkRow w' base (some ⟨g, 0, none⟩) c ((l.set i qq).set j pp) ∧ W.grownBy w' (blk (some (⟨g, 0, none⟩ : Addr))) ∧ w'.heap.size = W.heap.size) := by
    intro w' hw'
    have h1 := HH.out.setAt pcells_len i hil qq
    have h2 := h1.setAt pcells_len j (by rw [List.length_set]; exact hjl) pp
    have g1 := setCells_grown g (pcells qq) (i * 13) W
    have g2 := grown_again g1 (setCells_grown g (pcells pp) (j * 13) (W.setCells g (i * 13) (pcells qq)))
    rw [hw']
    exact ⟨rfl, h2.drew, grown_drew g2, by rw [drew_size, setCells_size, setCells_size]⟩
  rw [← hp, ← hq]
  refine key _ ?_
  rw [hp, hq]
  simp only [World.setCells, pcells, mcells, List.cons_append, List.nil_append, Nat.add_assoc, Nat.reduceAdd]
theorem pkswap_one (base : Nat) (A : Option Addr) (c : Nat) (l : List Pk) (i : Nat) (p : Pk) (hi : l[i]? = some p) (W : World) (h : PkRow W base A c l) :
    Calls Tryz.prog 362 #[.slice A l.length c, .int .i64 (i : Int), .int .i64 (i : Int)] W fun e W' => e = .returned (.tuple #[]) ∧ PkRow W' base A c l ∧ W.grownBy W' (blk A) ∧ W'.heap.size = W.heap.size := by
  obtain ⟨hil, hie⟩ := List.getElem?_eq_some_iff.1 hi
  obtain ⟨g, rfl, _, hg, hlc⟩ := h.form (by omega)
  have r1 := h.range pcells_len i hil
  rw [hie] at r1
  have hfr := h.free
  have HH := Lib.hid h
  obtain ⟨pp, hp⟩ : ∃ x, x = p := ⟨_, rfl⟩
  clear hi h
  obtain ⟨⟨a0, a1, a2, a3, a4, ⟨a5, a6, a7, a8, a9⟩⟩, ad, an⟩ := p
  have p0 := (r1 0 _ rfl)
  have p1 := (r1 1 _ rfl)
  have p2 := (r1 2 _ rfl)
  have p3 := (r1 3 _ rfl)
  have p4 := (r1 4 _ rfl)
  have p5 := (r1 5 _ rfl)
  have p6 := (r1 6 _ rfl)
  have p7 := (r1 7 _ rfl)
  have p8 := (r1 8 _ rfl)
  have p9 := (r1 9 _ rfl)
  have p10 := (r1 10 _ rfl)
  have p11 := (r1 11 _ rfl)
  have p12 := (r1 12 _ rfl)
  rw [Nat.add_zero] at p0
  clear r1
  go_enter Tryz.func362, Tryz.ntmps362
  go_wp2
  go_region
  go_end0
  have key : ∀ w', w' = ((W.setCells g (i * 13) (pcells pp)).setCells g (i * 13) (pcells pp)).drew → (Ending.returned (.tuple #[]) = .returned (.tuple #[]) ∧ PkRow w' base (some ⟨g, 0, none⟩) c l ∧ W.grownBy w' (blk (some (⟨g, 0, none⟩ : Addr))) ∧ w'.heap.size = W.heap.size) := by
    intro w' hw'
    have h1 := HH.out.setAt pcells_len i hil pp
    have h2 := h1.setAt pcells_len i (by rw [List.length_set]; exact hil) pp
    have g1 := setCells_grown g (pcells pp) (i * 13) W
    have g2 := grown_again g1 (setCells_grown g (pcells pp) (i * 13) (W.setCells g (i * 13) (pcells pp)))
    have hs : (l.set i pp).set i pp = l := by
      rw [List.set_set]
      apply List.ext_getElem?
      intro k
      rw [List.getElem?_set]
      split
      · rename_i e; subst e; rw [List.getElem?_eq_getElem hil, hie, hp]
      · rfl
    rw [hs] at h2
    rw [hw']
    exact ⟨rfl, h2.drew, grown_drew g2, by rw [drew_size, setCells_size, setCells_size]⟩
  refine key _ ?_
  rw [hp]
  simp only [World.setCells, pcells, mcells, List.cons_append, List.nil_append, Nat.add_assoc, Nat.reduceAdd]
section
variable {α : Type} {mk : α → List Value} {e : TypeId} {sz : Nat} {w : World} {base : Nat} {A : Option Addr} {c : Nat} {l : List α}
theorem OwnT.init {x : α} (h : OwnT mk e sz w base A c (l ++ [x])) (hsz : ∀ x, (mk x).length = sz) : OwnT mk e sz w base A c l := by
  obtain ⟨g, rfl, _, _, _⟩ := h.form (by simp)
  rcases h.2 with ⟨h1, _⟩ | ⟨g2, cap, cur, h1, hb, hg, hn, hm, hs, htk⟩
  · injection h1 with h1; cases h1
  · injection h1 with e1 _ e2
    injection e1 with e1
    injection e1 with e1
    subst e1; subst e2
    refine ⟨flat_len mk sz hsz l, .inr ⟨g, c, cur, rfl, hb, hg, by simp at hn; omega, hm, hs, ?_⟩⟩
    have h2 := congrArg (List.take (l.length * sz)) htk
    have hle : l.length * sz ≤ (l ++ [x]).length * sz := Nat.mul_le_mul_right _ (by simp)
    rw [List.take_take, Nat.min_eq_left hle, List.flatMap_append] at h2
    rw [h2, List.take_append_of_le_length (by rw [flat_len mk sz hsz]; exact Nat.le_refl _), List.take_of_length_le (by rw [flat_len mk sz hsz]; exact Nat.le_refl _)]
end
theorem alloc_drew {W w2 : World} {o : Obj} (h : (W.alloc o).drew = w2) : w2.heap[W.heap.size]? = some o ∧ Below W.heap.size W w2 ∧ w2.heap.size = W.heap.size + 1 := by
  subst h
  exact ⟨heap_alloc_new _ _, ((Below.refl _ _).alloc (Nat.le_refl _) _).drew, by rw [drew_size]; simp⟩
theorem pkpop_any (G nx base : Nat) (A : Option Addr) (c : Nat) (l : List Pk) (p : Pk) (W : World) (hG : W.heap[G]? = some (.cells #[.slice A (l.length + 1) c, .int .i64 (nx : Int)] 154)) (h : PkRow W base A c (l ++ [p])) (hAG : blk A ≠ some G) :
    Calls Tryz.prog 363 #[.pointer (some ⟨G, 0, none⟩)] W fun e W' => e = .returned (.iface 181 (pkvl p)) ∧ W'.heap[G]? = some (.cells #[.slice A l.length c, .int .i64 (nx : Int)] 154) ∧ PkRow W' base A c l ∧ W.grownBy W' (some G) := by
  obtain ⟨g, rfl, _, hg, hlc⟩ := h.form (by simp)
  have r1 := h.range pcells_len l.length (by simp)
  rw [List.getElem_concat_length rfl] at r1
  have hcap := h.cap
  unfold maxLen at hcap
  rw [List.length_append] at hcap hlc
  simp only [List.length_cons, List.length_nil] at hcap hlc
  have HH := Lib.hid (h.init pcells_len)
  have hGl := (Array.getElem?_eq_some_iff.1 hG).1
  obtain ⟨X, hX⟩ : ∃ X, W.heap[g]? = some X := ⟨_, Array.getElem?_eq_getElem hg⟩
  obtain ⟨Y, hY⟩ : ∃ Y, W.heap[G]? = some Y := ⟨_, hG⟩
  have HQ := Lib.hid (show ∀ (o : Nat) (v : Value), W.cell? ⟨g, o, none⟩ = some v → ∀ w : World, w.heap[g]? = some X → w.cell? ⟨g, o, none⟩ = some v from fun o v hc w hw => (World.cell?_of_block (hw.trans hX.symm)).trans hc)
  have c0 : ∀ w : World, w.heap[G]? = some Y → w.cell? ⟨G, 0, none⟩ = some (.slice (some ⟨g, 0, none⟩) (l.length + 1) c) := fun w hw => cob ((hw.trans hY.symm).trans hG) 0 rfl
  have f0 : W.frozen? ⟨G, 0, none⟩ = false := by simp [World.frozen?, hG]
  have hwr : IntKind.i64.wrap ((l.length : Nat) : Int) = ((l.length : Nat) : Int) := wrap_small _ (by omega) (by omega)
  have hlt : ((l.length : Nat) : Int) < ((l.length : Nat) : Int) + 1 := by omega
  clear h
  obtain ⟨pp, hp⟩ : ∃ x, x = p := ⟨_, rfl⟩
  obtain ⟨⟨a0, a1, a2, a3, a4, ⟨a5, a6, a7, a8, a9⟩⟩, ad, an⟩ := p
  have p0 := HQ.out _ _ (r1 0 _ rfl)
  have p1 := HQ.out _ _ (r1 1 _ rfl)
  have p2 := HQ.out _ _ (r1 2 _ rfl)
  have p3 := HQ.out _ _ (r1 3 _ rfl)
  have p4 := HQ.out _ _ (r1 4 _ rfl)
  have p5 := HQ.out _ _ (r1 5 _ rfl)
  have p6 := HQ.out _ _ (r1 6 _ rfl)
  have p7 := HQ.out _ _ (r1 7 _ rfl)
  have p8 := HQ.out _ _ (r1 8 _ rfl)
  have p9 := HQ.out _ _ (r1 9 _ rfl)
  have p10 := HQ.out _ _ (r1 10 _ rfl)
  have p11 := HQ.out _ _ (r1 11 _ rfl)
  have p12 := HQ.out _ _ (r1 12 _ rfl)
  rw [Nat.add_zero] at p0
  have HSS := Lib.hid (show ∀ w', Below W.heap.size W w' → w'.heap[G]? = some Y ∧ w'.heap[g]? = some X from fun w' hb => ⟨(hb.block G hGl).trans hY, (hb.block g hg).trans hX⟩)
  have HG := Lib.hid hG
  clear r1 hG
  go_enter Tryz.func363, Tryz.ntmps363
  go_wp2
  go_region_held3 (fun w' => w'.heap[G]? = some Y ∧ w'.heap[g]? = some X)
    (first | exact HSS.out _ (Below.refl _ _) | exact HSS.out _ (Below.refl _ _).drew | exact HSS.out _ ((Below.refl _ _).alloc (Nat.le_refl _) _) | exact HSS.out _ ((Below.refl _ _).alloc (Nat.le_refl _) _).drew | exact HSS.out _ ((Below.refl _ _).drew.alloc (Nat.le_refl _) _))
    (fail)
  generalize hw2 : World.drew (World.alloc W _) = w2
  obtain ⟨hB, hb2, hs2⟩ := alloc_drew hw2
  clear hw2
  clear p0 p1 p2 p3 p4 p5 p6 p7 p8 p9 p10 p11 p12 c0 f0
  have hG2 := (hb2.block G hGl).trans HG.out
  have d0 : w2.cell? ⟨G, 0, none⟩ = some (.slice (some ⟨g, 0, none⟩) (l.length + 1) c) := cob hG2 0 rfl
  have e0 : w2.frozen? ⟨G, 0, none⟩ = false := by simp [World.frozen?, hG2]
  have b0 : w2.cell? ⟨W.heap.size, 0, none⟩ = some (.int .i64 (a0 : Int)) := cob hB 0 rfl
  have b1 : w2.cell? ⟨W.heap.size, 1, none⟩ = some (.int .i64 (a1 : Int)) := cob hB 1 rfl
  have b2 : w2.cell? ⟨W.heap.size, 2, none⟩ = some (.int .i64 (a2 : Int)) := cob hB 2 rfl
  have b3 : w2.cell? ⟨W.heap.size, 3, none⟩ = some (.int .i64 (a3 : Int)) := cob hB 3 rfl
  have b4 : w2.cell? ⟨W.heap.size, 4, none⟩ = some (.int .i64 (a4 : Int)) := cob hB 4 rfl
  have b5 : w2.cell? ⟨W.heap.size, 5, none⟩ = some (.int .i64 (a5 : Int)) := cob hB 5 rfl
  have b6 : w2.cell? ⟨W.heap.size, 6, none⟩ = some (.int .i64 (a6 : Int)) := cob hB 6 rfl
  have b7 : w2.cell? ⟨W.heap.size, 7, none⟩ = some (.int .i64 (a7 : Int)) := cob hB 7 rfl
  have b8 : w2.cell? ⟨W.heap.size, 8, none⟩ = some (.bool a8) := cob hB 8 rfl
  have b9 : w2.cell? ⟨W.heap.size, 9, none⟩ = some (.string a9) := cob hB 9 rfl
  have b10 : w2.cell? ⟨W.heap.size, 10, none⟩ = some (.slice none 0 0) := cob hB 10 rfl
  have b11 : w2.cell? ⟨W.heap.size, 11, none⟩ = some (.int .i64 (ad : Int)) := cob hB 11 rfl
  have b12 : w2.cell? ⟨W.heap.size, 12, none⟩ = some (.int .i64 (an : Int)) := cob hB 12 rfl
  have hn1 : ¬ G = W.heap.size := by omega
  have hn2 : ¬ W.heap.size = G := by omega
  have HG2 := Lib.hid hG2
  clear hB hG2 HQ HSS
  go_wp2
  go_region
  go_wp2
  go_ret
  have hg5 := heap_setCell_same w2 G 0 _ _ (.slice (some ⟨g, 0, none⟩) l.length c) HG2.out
  have hgr : W.grownBy ((w2.setCell ⟨G, 0, none⟩ (.slice (some ⟨g, 0, none⟩) l.length c)).drew) (some G) := ⟨hb2.os, hb2.tape, hb2.output, by rw [drew_size]; simp; omega, fun k hk hn => (heap_setCell_other _ _ _ _ (fun e => hn (by rw [e]))).trans (hb2.block k hk)⟩
  refine ⟨rfl, hg5, HH.out.of_block fun k hk => ?_, hgr⟩
  have hkg : g = k := by simpa [blk] using hk
  subst hkg
  have hgG : g ≠ G := fun e => hAG (by simp [blk, e])
  exact (heap_setCell_other _ _ _ _ hgG).trans (hb2.block g hg)
theorem pk_assert (w : World) (x : Value) : (Instr.typeAssert (.iface 181 x) 20 181 true).run Tryz.prog w = .ok (.tuple #[x, .bool true]) w := by kernel_rfl
theorem pkpush_any (G nx : Nat) (A : Option Addr) (c : Nat) (l : List Pk) (p : Pk) (W : World) (hG : W.heap[G]? = some (.cells #[.slice A l.length c, .int .i64 (nx : Int)] 154)) (h : PkRow W 0 A c l) (hAG : blk A ≠ some G) (hl : l.length ≤ 600) :
    Calls Tryz.prog 364 #[.pointer (some ⟨G, 0, none⟩), .iface 181 (pkvl p)] W fun e W' => ∃ A' c', e = .returned (.tuple #[]) ∧ W'.heap[G]? = some (.cells #[.slice A' (l.length + 1) c', .int .i64 (nx : Int)] 154) ∧ PkRow W' 0 A' c' (l ++ [p]) ∧ Turned (fun k => k = G ∨ blk A = some k) W W' ∧ (∀ k, blk A' = some k → blk A = some k ∨ W.heap.size ≤ k) ∧ blk A' ≠ some G := by
  obtain ⟨i1, hi1, hy0, hy1, hy2⟩ := info_parts Tryz.infoPk
  have hta := pk_assert
  have hGl := (Array.getElem?_eq_some_iff.1 hG).1
  obtain ⟨pp, hp⟩ : ∃ x, x = p := ⟨_, rfl⟩
  obtain ⟨⟨a0, a1, a2, a3, a4, ⟨a5, a6, a7, a8, a9⟩⟩, ad, an⟩ := p
  have HG := Lib.hid hG
  have HO := Lib.hid h
  clear hG h
  unfold pkvl pcells mcells
  simp only [List.cons_append, List.nil_append]
  go_enter Tryz.func364, Tryz.ntmps364
  go_wp2
  generalize hw1 : World.alloc W _ = w1
  have hB := named_new hw1.symm
  have hb1 := named_below hw1.symm
  have hs1 := named_size hw1.symm
  clear hw1 hta
  have hG1 := (hb1.block G hGl).trans HG.out
  have hO1 : PkRow w1 0 A c l := HO.out.below hb1 (Nat.le_refl _)
  have c0 : w1.cell? ⟨G, 0, none⟩ = some (.slice A l.length c) := cob hG1 0 rfl
  have b0 : w1.cell? ⟨W.heap.size, 0, none⟩ = some (.int .i64 (a0 : Int)) := cob hB 0 rfl
  have b1 : w1.cell? ⟨W.heap.size, 1, none⟩ = some (.int .i64 (a1 : Int)) := cob hB 1 rfl
  have b2 : w1.cell? ⟨W.heap.size, 2, none⟩ = some (.int .i64 (a2 : Int)) := cob hB 2 rfl
  have b3 : w1.cell? ⟨W.heap.size, 3, none⟩ = some (.int .i64 (a3 : Int)) := cob hB 3 rfl
  have b4 : w1.cell? ⟨W.heap.size, 4, none⟩ = some (.int .i64 (a4 : Int)) := cob hB 4 rfl
  have b5 : w1.cell? ⟨W.heap.size, 5, none⟩ = some (.int .i64 (a5 : Int)) := cob hB 5 rfl
  have b6 : w1.cell? ⟨W.heap.size, 6, none⟩ = some (.int .i64 (a6 : Int)) := cob hB 6 rfl
  have b7 : w1.cell? ⟨W.heap.size, 7, none⟩ = some (.int .i64 (a7 : Int)) := cob hB 7 rfl
  have b8 : w1.cell? ⟨W.heap.size, 8, none⟩ = some (.bool a8) := cob hB 8 rfl
  have b9 : w1.cell? ⟨W.heap.size, 9, none⟩ = some (.string a9) := cob hB 9 rfl
  have b10 : w1.cell? ⟨W.heap.size, 10, none⟩ = some (.slice none 0 0) := cob hB 10 rfl
  have b11 : w1.cell? ⟨W.heap.size, 11, none⟩ = some (.int .i64 (ad : Int)) := cob hB 11 rfl
  have b12 : w1.cell? ⟨W.heap.size, 12, none⟩ = some (.int .i64 (an : Int)) := cob hB 12 rfl
  have hs1' : W.heap.size < w1.heap.size := by omega
  have hGl1 : G < w1.heap.size := by omega
  clear hs1 hB
  have HT := Lib.hid (show ∀ w' : World, (∀ q, q < w1.heap.size → (blk A ≠ some q) → w'.heap[q]? = w1.heap[q]?) → w'.cell? ⟨G, 0, none⟩ = some (.slice A l.length c) ∧ w'.frozen? ⟨G, 0, none⟩ = false from
    fun w' hw' => ⟨cob ((hw' G (by omega) hAG).trans hG1) 0 rfl, by simp [World.frozen?, (hw' G (by omega) hAG).trans hG1]⟩)
  go_region_law
    (refine step_append_st pcells _ pcells_one (by rfl) _ _ _ (by rfl) 0 181 i1 _ 13 128 pcells_len (by decide) Tryz.underlying152 hi1 hy0 hy1 hy2 (by rfl) _ _ l (by rfl) ((hO1.alloc _).drew) w1.heap.size _ ⟨⟨a0, a1, a2, a3, a4, ⟨a5, a6, a7, a8, a9⟩⟩, ad, an⟩ (0, 0) _ (by rfl) (heap_alloc_new _ _) (by unfold maxLen; omega) (by omega) (by omega) ?_; intro X2 B4 d4 w4 hX2 ho4 hb4 hg4 ha4; have HS4 := HT.out w4 (fun q hq hn => (hg4.block q (by simp; omega) (fun e => hn e.symm)).trans (heap_alloc_old _ _ hq)); have HS5 := HS4.1; have HS6 := HS4.2)
  all_goals
    go_end0
    have hkp : ∀ k, k < w1.heap.size → blk A ≠ some k → w4.heap[k]? = w1.heap[k]? := fun k hk hn => (hg4.block k (by simp; omega) (fun e => hn e.symm)).trans (heap_alloc_old _ _ hk)
    have hG4 := (hkp G hGl1 hAG).trans hG1
    have hg5 := heap_setCell_same w4 G 0 _ _ (.slice B4 X2.length d4) hG4
    have hX := hX2.out
    have hXl : X2.length = l.length + 1 := by rw [hX]; simp
    have T1 : Turned (fun k => k = G ∨ blk A = some k) W _ := (((Turned.of_below hb1).alloc _).drew).grown hg4 (fun k hk => .inl (.inr hk))
    have hAl : ∀ k, blk A = some k → k < W.heap.size := fun k hk => (HO.out.lt k hk).2
    have hB4 : ∀ k, blk B4 = some k → blk A = some k ∨ W.heap.size ≤ k := fun k hk => by
      rcases ha4 with h | h
      · exact .inl (by rw [← h]; exact hk)
      · rw [h] at hk
        injection hk with hk
        simp at hk
        exact .inr (by omega)
    have hBG : blk B4 ≠ some G := fun e => by
      rcases hB4 G e with h | h
      · exact hAG h
      · omega
    refine ⟨B4, d4, rfl, by rw [← hXl]; exact hg5, ?_, T1.setCell (.inl (.inl rfl)) _, hB4, hBG⟩
    have hpp : X2 = l ++ [pp] := by rw [hX, hp]
    rw [← hp, ← hpp]
    exact ho4.of_block fun k hk => heap_setCell_other _ _ _ _ (fun e => hBG (by rw [hk, e]))
theorem nans_any (a : ByteArray) (W : World) : Calls Tryz.prog 316 #[.string a] W fun e W' => e = .returned (.bool false) ∧ W = W' := by
  go_enter Tryz.func316, Tryz.ntmps316
  go_wp2
  go_ret
  exact ⟨by simp, rfl⟩
theorem bytesLess_same : ∀ l : List UInt8, Op.bytesLess l l = false
  | [] => rfl
  | x :: l => by simp [Op.bytesLess, bytesLess_same l]
theorem cmps_same (a : ByteArray) (W : World) : Calls Tryz.prog 296 #[.string a, .string a] W fun e W' => e = .returned (.int .i64 0) ∧ W = W' := by
  have hn := nans_any
  have hb := bytesLess_same a.toList
  go_enter Tryz.func296, Tryz.ntmps296
  go_wp2_with (first | (go_at_call 316; refine (hn _ _).mono ?_; rintro e w1 ⟨rfl, rfl⟩))
  go_ret
  exact ⟨rfl, rfl⟩
theorem cmpi_same (a : Int) (W : World) : Calls Tryz.prog 190 #[.int .i64 a, .int .i64 a] W fun e W' => e = .returned (.int .i64 0) ∧ W = W' :=
  (cmpi_any a a W).mono fun e w h => ⟨by rw [h.1]; unfold cmpI; simp, h.2⟩
theorem or3_zero (g c : Nat) (te : TypeId) (W : World) (hg : W.heap[g]? = some (.cells #[.int .i64 0, .int .i64 0, .int .i64 0] te)) :
    Calls Tryz.prog 189 #[.slice (some ⟨g, 0, none⟩) 3 c] W fun e W' => e = .returned (.int .i64 0) ∧ W = W' := by
  have c0 : W.cell? ⟨g, 0, none⟩ = some (.int .i64 0) := cob hg 0 rfl
  have c1 : W.cell? ⟨g, 1, none⟩ = some (.int .i64 0) := cob hg 1 rfl
  have c2 : W.cell? ⟨g, 2, none⟩ = some (.int .i64 0) := cob hg 2 rfl
  clear hg
  go_enter Tryz.func189, Tryz.ntmps189
  go_wp2
  refine wp_loop_rounds 4 ?_
  rw [rounds_succ]
  go_wp2
  rw [rounds_succ]
  go_wp2
  rw [rounds_succ]
  go_wp2
  rw [rounds_succ]
  go_wp2
  go_ret
  exact ⟨rfl, rfl⟩
def cellN (c : Cl) : List Nat := textN c.row ++ textN c.col ++ numN c.at_.toNat ++ [c.gone.toNat] ++ textN c.value
theorem flag_any (b : Bool) (W : World) : Calls Tryz.prog 317 #[.bool b] W fun e W' => e = .returned (.int .u8 (b.toNat : Int)) ∧ W = W' := by
  cases b
  all_goals
    go_enter Tryz.func317, Tryz.ntmps317
    go_wp2
    go_ret
    exact ⟨rfl, rfl⟩
theorem all5 {α : Type} {P : α → Prop} {a b c d e : α} (ha : P a) (hb : P b) (hc : P c) (hd : P d) (he : P e) : ∀ t ∈ [a, b, c, d, e], P t := by
  intro t ht
  simp only [List.mem_cons, List.not_mem_nil, or_false] at ht
  rcases ht with rfl | rfl | rfl | rfl | rfl <;> assumption
theorem cput_any (x : Cl) (h : ClOk x) (W : World) : Calls Tryz.prog 297 #[clv x] W fun e W' => NewB W (cellN x) W' e := by
  obtain ⟨r, c, a, v, g⟩ := x
  obtain ⟨h1, h2, h3, h4, h5, h6, h7, _⟩ := h
  simp only at h1 h2 h3 h4 h5 h6 h7
  obtain ⟨n, rfl⟩ : ∃ n : Nat, a = n := ⟨a.toNat, by omega⟩
  unfold clv clcells
  simp only []
  go_enter Tryz.func297, Tryz.ntmps297
  go_wp2
  generalize hw1 : World.alloc W _ = w1
  have hB := named_new hw1.symm
  have hb1 := named_below hw1.symm
  have hg : W.heap.size < w1.heap.size := by rw [named_size hw1.symm]; omega
  clear hw1
  have HS1 : w1.cell? ⟨W.heap.size, 0, none⟩ = some (.string r) ∧ w1.cell? ⟨W.heap.size, 1, none⟩ = some (.string c) ∧ w1.cell? ⟨W.heap.size, 2, none⟩ = some (.int .i64 (n : Int)) ∧ w1.cell? ⟨W.heap.size, 3, none⟩ = some (.string v) ∧ w1.cell? ⟨W.heap.size, 4, none⟩ = some (.bool g) :=
    ⟨cob hB 0 rfl, cob hB 1 rfl, cob hB 2 rfl, cob hB 3 rfl, cob hB 4 rfl⟩
  have HS1d := k5 (Below.refl w1.heap.size w1).drew hg HS1
  have qr : r.size ≤ 4294967295 := by omega
  have qc : c.size ≤ 4294967295 := by omega
  have qn : n ≤ 4294967295 := by omega
  have qv : v.size ≤ 4294967295 := by omega
  clear hB h1 h3 h5 h6
  go_region_held3 (fun w' => w'.cell? ⟨W.heap.size, 0, none⟩ = some (.string r) ∧ w'.cell? ⟨W.heap.size, 1, none⟩ = some (.string c) ∧ w'.cell? ⟨W.heap.size, 2, none⟩ = some (.int .i64 (n : Int)) ∧ w'.cell? ⟨W.heap.size, 3, none⟩ = some (.string v) ∧ w'.cell? ⟨W.heap.size, 4, none⟩ = some (.bool g))
    (first | with_reducible exact HS7 | with_reducible exact HS6c | with_reducible exact HSx | with_reducible exact HS6 | with_reducible exact HSf | with_reducible exact HS4 | with_reducible exact HS3 | with_reducible exact HS2 | with_reducible exact HS1 | with_reducible exact HS1d)
    (first
      | (have _ := MA; have _ := HS6; go_at_call 123; refine (concat_n _ [(A2, c2, L2), (A3, c3, L3), (A4, c4, L4), (some ⟨w4.heap.size, 0, none⟩, 1, [g.toNat]), (A6, c6, L6)] 5 5 rfl (by simp) (by simp [flat]; omega) _ (rdSl_lit w6 _ _ _ _ rfl rfl (all5 ((((ho2.rd.below hb3 (Nat.le_refl _)).below hb4 (Nat.le_refl _)).below hb5 (Nat.le_refl _)).below hb6 (Nat.le_refl _)) (((ho3.rd.below hb4 (Nat.le_refl _)).below hb5 (Nat.le_refl _)).below hb6 (Nat.le_refl _)) ((ho4.rd.below hb5 (Nat.le_refl _)).below hb6 (Nat.le_refl _)) (hr5.below hb6 (Nat.le_refl _)) ho6.rd))).mono ?_; rintro e w7 ⟨L7, A7, c7, H7, rfl, ho7, hc7, hb7⟩; have hB7 := below_next (hB6.alloc hB6.size (.cells #[.slice A2 L2.length c2, .slice A3 L3.length c3, .slice A4 L4.length c4, .slice (some ⟨w4.heap.size, 0, none⟩) 1 1, .slice A6 L6.length c6] 67)) hb7; have hs7 := (hB6.alloc hB6.size (.cells #[.slice A2 L2.length c2, .slice A3 L3.length c3, .slice A4 L4.length c4, .slice (some ⟨w4.heap.size, 0, none⟩) 1 1, .slice A6 L6.length c6] 67)).size; have HS7 := k5 hb7 (lt_of_cell HS6c.1) HS6c)
      | (have _ := MB; have _ := HS6; go_at_call 123; refine (concat_n _ [(A2, c2, L2), (A3, c3, L3), (A4, c4, L4), (some ⟨w6.heap.size, 0, none⟩, 1, [g.toNat]), (A6, c6, L6)] 5 5 rfl (by simp) (by simp [flat]; omega) _ (rdSl_lit (w6.alloc (.cells #[.int .u8 (g.toNat : Int)] 5)) _ _ _ _ (by simp) rfl (all5 ((((ho2.rd.below hb3 (Nat.le_refl _)).below hb4 (Nat.le_refl _)).below hb6 (Nat.le_refl _)).below hbx (Nat.le_refl _)) (((ho3.rd.below hb4 (Nat.le_refl _)).below hb6 (Nat.le_refl _)).below hbx (Nat.le_refl _)) ((ho4.rd.below hb6 (Nat.le_refl _)).below hbx (Nat.le_refl _)) hr5 (ho6.rd.below hbx (Nat.le_refl _))))).mono ?_; rintro e w7 ⟨L7, A7, c7, H7, rfl, ho7, hc7, hb7⟩; have hB7 := below_next (hBx.alloc hBx.size (.cells #[.slice A2 L2.length c2, .slice A3 L3.length c3, .slice A4 L4.length c4, .slice (some ⟨w6.heap.size, 0, none⟩) 1 1, .slice A6 L6.length c6] 67)) hb7; have hs7 := (hBx.alloc hBx.size (.cells #[.slice A2 L2.length c2, .slice A3 L3.length c3, .slice A4 L4.length c4, .slice (some ⟨w6.heap.size, 0, none⟩) 1 1, .slice A6 L6.length c6] 67)).size; have HS7 := k5 hb7 (lt_of_cell HS6c.1) HS6c)
      | (have _ := M5; go_at_call 56; (with_reducible refine (text_any v qv (w4.alloc (.cells #[.int .u8 (g.toNat : Int)] 5))).mono ?_); rintro e w6 ⟨L6, A6, c6, H6, rfl, ho6, hc6, hb6⟩; have MA : True := trivial; have hb5 := (Below.refl w4.heap.size w4).alloc (Nat.le_refl _) (.cells #[.int .u8 (g.toNat : Int)] 5); have hr5 : RdB (w4.alloc (.cells #[.int .u8 (g.toNat : Int)] 5)) (some ⟨w4.heap.size, 0, none⟩) [g.toNat] := OwnB.rd (OwnB.lit 5 _ _ #[bv g.toNat] [g.toNat] (Nat.le_refl _) (by simp [maxLen]) rfl); have hB6 := below_next (below_next hB4 hb5) hb6; have HS5 := k5 hb5 (Nat.lt_of_lt_of_le (lt_of_cell HS4.1) (Nat.le_refl _)) HS4; have HS6 := k5 hb6 (Nat.lt_of_lt_of_le (lt_of_cell HS5.1) (Nat.le_refl _)) HS5; have HS6c := k5 ((Below.refl w6.heap.size w6).alloc (Nat.le_refl _) (.cells #[.slice A2 L2.length c2, .slice A3 L3.length c3, .slice A4 L4.length c4, .slice (some ⟨w4.heap.size, 0, none⟩) 1 1, .slice A6 L6.length c6] 67)) (Nat.lt_of_lt_of_le (lt_of_cell HS6.1) (Nat.le_refl _)) HS6; have hl6 : L6.length ≤ 260 := (by rw [H6.out]; simp [textN, numN, keyN_length]; omega))
      | (have _ := M5; go_at_call 56; (with_reducible refine (text_any v qv w4).mono ?_); rintro e w6 ⟨L6, A6, c6, H6, rfl, ho6, hc6, hb6⟩; have MB : True := trivial; have hB6 := below_next hB4 hb6; have HS6 := k5 hb6 (Nat.lt_of_lt_of_le (lt_of_cell HS4.1) (Nat.le_refl _)) HS4; have hbx := (Below.refl w6.heap.size w6).alloc (Nat.le_refl _) (.cells #[.int .u8 (g.toNat : Int)] 5); have hr5 : RdB (w6.alloc (.cells #[.int .u8 (g.toNat : Int)] 5)) (some ⟨w6.heap.size, 0, none⟩) [g.toNat] := OwnB.rd (OwnB.lit 5 _ _ #[bv g.toNat] [g.toNat] (Nat.le_refl _) (by simp [maxLen]) rfl); have hBx := below_next hB6 hbx; have HSx := k5 hbx (Nat.lt_of_lt_of_le (lt_of_cell HS6.1) (Nat.le_refl _)) HS6; have HS6c := k5 ((Below.refl _ (w6.alloc (.cells #[.int .u8 (g.toNat : Int)] 5))).alloc (Nat.le_refl _) (.cells #[.slice A2 L2.length c2, .slice A3 L3.length c3, .slice A4 L4.length c4, .slice (some ⟨w6.heap.size, 0, none⟩) 1 1, .slice A6 L6.length c6] 67)) (Nat.lt_of_lt_of_le (lt_of_cell HSx.1) (Nat.le_refl _)) HSx; have hl6 : L6.length ≤ 260 := (by rw [H6.out]; simp [textN, numN, keyN_length]; omega))
      | (have _ := HS4; go_at_call 317; refine (flag_any g _).mono ?_; rintro e w5 ⟨rfl, rfl⟩; have M5 : True := trivial; have HSf := k5 ((Below.refl w4.heap.size w4).alloc (Nat.le_refl _) (.cells #[.int .u8 (g.toNat : Int)] 5)) (Nat.lt_of_lt_of_le (lt_of_cell HS4.1) (Nat.le_refl _)) HS4)
      | (have _ := HS3; go_at_call 55; refine (num_any n qn _).mono ?_; rintro e w4 ⟨L4, A4, c4, H4, rfl, ho4, hc4, hb4⟩; have hB4 := below_next hB3 hb4; have HS4 := k5 hb4 (Nat.lt_of_lt_of_le (lt_of_cell HS3.1) (Nat.le_refl _)) HS3; have hl4 : L4.length ≤ 4 := (by rw [H4.out]; exact Nat.le_refl _))
      | (have _ := HS2; go_at_call 56; refine (text_any c qc _).mono ?_; rintro e w3 ⟨L3, A3, c3, H3, rfl, ho3, hc3, hb3⟩; have hB3 := below_next hB2 hb3; have HS3 := k5 hb3 (Nat.lt_of_lt_of_le (lt_of_cell HS2.1) (Nat.le_refl _)) HS2; have hl3 : L3.length ≤ 68 := (by rw [H3.out]; simp [textN, numN, keyN_length]; omega))
      | (go_at_call 56; refine (text_any r qr _).mono ?_; rintro e w2 ⟨L2, A2, c2, H2, rfl, ho2, hc2, hb2⟩; have hB2 := below_next hb1 (show Below w1.heap.size w1 w2 from below_undrew hb2); have HS2 := k5 (below_undrew hb2) hg HS1; have hl2 : L2.length ≤ 68 := (by rw [H2.out]; simp [textN, numN, keyN_length]; omega)))
  all_goals
    go_wp2
    go_ret
    exact ⟨L7, A7, c7, Lib.hid (by rw [H7.out]; simp [flat, cellN, H2.out, H3.out, H4.out, H6.out]), rfl, own_base ho7 hs7, hc7, hB7⟩
end Go.Proofs.YtoigogjmhkpdlaaGreat
