/- A part of the proof of WholeFew: the texts StateA, NodeA, NodeB, NodeC. -/
import Derived.Test.YtoigogjmhkpdlaaGreatJ08
import Derived.Test.YtoigogjmhkpdlaaGreatJ20
set_option maxHeartbeats 3200000
set_option maxRecDepth 100000
namespace Go.Proofs.YtoigogjmhkpdlaaGreat
open Go.RowKit
theorem mnew_any (W : World) : Calls Tryz.prog 225 #[] W fun e W' => e = .returned (.pointer (some ⟨W.heap.size, 0, none⟩)) ∧ W'.heap[W.heap.size]? = some (.cells #[.slice none 0 0, .int .i64 0] 355) ∧ Below W.heap.size W W' ∧ W'.heap.size = W.heap.size + 1 := by
  go_enter Tryz.func225, Tryz.ntmps225
  go_wp2
  go_ret
  exact ⟨rfl, heap_alloc_new _ _, (Below.refl _ _).alloc (Nat.le_refl _) _, by simp⟩
theorem tin_any (n m : Int) (h1 : 1 ≤ n) (h2 : n ≤ m) (W : World) : Calls Tryz.prog 224 #[.int .i64 n, .int .i64 m] W fun e W' => e = .returned (.bool true) ∧ W = W' := by
  have d1 : decide ((1 : Int) ≤ n) = true := by simpa using h1
  have d2 : decide (n ≤ m) = true := by simpa using h2
  go_enter Tryz.func224, Tryz.ntmps224
  go_wp2
  go_ret
  exact ⟨rfl, rfl⟩
def TreeE (W : World) (S : Nat → Prop) (T : Nat) : Prop :=
  ∃ M, W.heap[T]? = some (.cells #[.int .i64 200, .int .i64 100, .int .i64 3, .pointer (some ⟨M, 0, none⟩), .slice none 0 0] 318) ∧ W.heap[M]? = some (.cells #[.slice none 0 0, .int .i64 0] 355) ∧ S T ∧ S M
theorem tnew_any (W : World) : Calls Tryz.prog 192 #[.agg #[.int .i64 200, .int .i64 100, .int .i64 3]] W fun e W' => ∃ T, e = .returned (.tuple #[.pointer (some ⟨T, 0, none⟩), .int .i64 0]) ∧ TreeE W' (fun k => W.heap.size ≤ k ∧ k < W'.heap.size) T ∧ Below W.heap.size W W' := by
  have HIn := Lib.hid tin_any
  have HM := Lib.hid mnew_any
  go_enter Tryz.func192, Tryz.ntmps192
  go_wp2_with (first | (go_at_call 224; refine (HIn.out _ _ (by decide) (by decide) _).mono ?_; rintro e w1 ⟨rfl, rfl⟩))
  generalize hw1 : World.alloc W _ = w1
  have hX1 := named_new hw1.symm
  have hb1 := named_below hw1.symm
  have hlt1 : W.heap.size < w1.heap.size := by rw [named_size hw1.symm]; omega
  clear hw1
  obtain ⟨X, hX⟩ : ∃ X, w1.heap[W.heap.size]? = some X := ⟨_, hX1⟩
  have x0 : ∀ w : World, w.heap[W.heap.size]? = some X → w.cell? ⟨W.heap.size, 0, none⟩ = some (.int .i64 200) := fun w hw => cob (hw.trans (hX.symm.trans hX1)) 0 rfl
  have x1 : ∀ w : World, w.heap[W.heap.size]? = some X → w.cell? ⟨W.heap.size, 1, none⟩ = some (.int .i64 100) := fun w hw => cob (hw.trans (hX.symm.trans hX1)) 1 rfl
  have x2 : ∀ w : World, w.heap[W.heap.size]? = some X → w.cell? ⟨W.heap.size, 2, none⟩ = some (.int .i64 3) := fun w hw => cob (hw.trans (hX.symm.trans hX1)) 2 rfl
  have hXd : w1.drew.heap[W.heap.size]? = some X := hX
  go_region_held3 (fun w' => w'.heap[W.heap.size]? = some X)
    (first | with_reducible exact hX | with_reducible exact hXd | with_reducible exact hX2 | with_reducible exact hX3 _)
    (first | (go_at_call 225; refine (HM.out _).mono ?_; rintro e w2 ⟨rfl, hm2, hb2', hz2⟩; have hb2 : Below w1.heap.size w1 w2 := below_undrew hb2'; have hX2 := (hb2.block W.heap.size hlt1).trans hX; have hX3 := (fun o => (((Below.refl w2.heap.size w2).alloc (Nat.le_refl _) o).block W.heap.size (by have := hb2.size; omega)).trans hX2)))
  go_wp2
  go_ret2
  rw [drew_size] at hm2 hz2
  have hb2s := hb2.size
  have hW1 := hb1.size
  refine ⟨w1.heap.size + 1, rfl, ⟨w1.heap.size, new_at _ _ _ (by omega), (heap_alloc_old _ _ (by omega)).trans hm2, ⟨by omega, by simp; omega⟩, ⟨by omega, by simp; omega⟩⟩, (hb1.trans (hb2.mono (by omega))).alloc (by omega) _⟩
def StAt (R : World → (Nat → Prop) → Nat → Prop) (W : World) (S : Nat → Prop) (P : Nat) (cl : List (Value × Value)) : Prop :=
  ∃ T M, W.heap[P]? = some (.cells #[.pointer (some ⟨T, 0, none⟩), .map (some M)] 213) ∧ S P ∧ S M ∧ R W S T ∧ MapIs W (.int .i64) M cl
structure Framed (R : World → (Nat → Prop) → Nat → Prop) : Prop where
  mono : ∀ {W : World} {S S2 : Nat → Prop} {T : Nat}, R W S T → (∀ k, S k → k < W.heap.size → S2 k) → R W S2 T
  frame : ∀ {W W' : World} {S : Nat → Prop} {T : Nat}, R W S T → (∀ k, S k → W'.heap[k]? = W.heap[k]?) → R W' S T
theorem TreeE.framed : Framed TreeE := by
  refine ⟨fun h hs => ?_, fun h hb => ?_⟩
  · obtain ⟨M, hT, hM, sT, sM⟩ := h
    exact ⟨M, hT, hM, hs _ sT (Array.getElem?_eq_some_iff.1 hT).1, hs _ sM (Array.getElem?_eq_some_iff.1 hM).1⟩
  · obtain ⟨M, hT, hM, sT, sM⟩ := h
    exact ⟨M, (hb _ sT).trans hT, (hb _ sM).trans hM, sT, sM⟩
theorem StAt.frame {R : World → (Nat → Prop) → Nat → Prop} (hR : Framed R) {W W' : World} {S : Nat → Prop} {P : Nat} {cl : List (Value × Value)} (h : StAt R W S P cl) (hb : ∀ k, S k → W'.heap[k]? = W.heap[k]?) : StAt R W' S P cl := by
  obtain ⟨T, M, hP, sP, sM, hT, hM⟩ := h
  exact ⟨T, M, (hb P sP).trans hP, sP, sM, hR.frame hT hb, hM.of_block (hb M sM)⟩
theorem stnew_any (W : World) : Calls Tryz.prog 154 #[] W fun e W' => ∃ P, e = .returned (.pointer (some ⟨P, 0, none⟩)) ∧ StAt TreeE W' (fun k => W.heap.size ≤ k ∧ k < W'.heap.size) P [] ∧ Below W.heap.size W W' := by
  have HT := Lib.hid tnew_any
  have hmm := @run_makeMap Tryz.prog
  go_enter Tryz.func154, Tryz.ntmps154
  go_wp2_with (first | (go_at_call 192; refine (HT.out _).mono ?_; rintro e w1 ⟨T, rfl, hT1, hb1⟩))
  go_ret
  have hs1 := hb1.size
  have hbf : Below W.heap.size W ((w1.alloc (.map #[] 0)).alloc (.cells #[.pointer (some ⟨T, 0, none⟩), .map (some w1.heap.size)] 213)) := (hb1.alloc hs1 _).alloc (by simp; omega) _
  refine ⟨w1.heap.size + 1, rfl, ⟨T, w1.heap.size, new_at _ _ _ (by simp), ⟨by omega, by simp⟩, ⟨by omega, by simp; omega⟩, ?_, ?_⟩, hbf⟩
  · refine TreeE.framed.mono (TreeE.framed.frame hT1 (fun k hk => ?_)) (fun k hk _ => ⟨hk.1, by simp; omega⟩)
    exact ((((Below.refl w1.heap.size w1).alloc (Nat.le_refl _) (.map #[] 0)).alloc (by simp) (.cells #[.pointer (some ⟨T, 0, none⟩), .map (some w1.heap.size)] 213))).block k hk.2
  · exact (MapIs.made w1 (.int .i64)).of_block (heap_alloc_old _ _ (by simp))
/-! ### Disjoint parts of the heap, numbered -/
structure Pts (p : Nat → Nat → Prop) (W : World) : Prop where
  dj : ∀ i j, i ≠ j → Dj (p i) (p j)
  lt : ∀ i, Lt (p i) W
def upd (p : Nat → Nat → Prop) (i : Nat) (s : Nat → Prop) : Nat → Nat → Prop := fun j => if j = i then s else p j
theorem upd_same (p : Nat → Nat → Prop) (i : Nat) (s : Nat → Prop) : upd p i s i = s := by simp [upd]
theorem upd_other (p : Nat → Nat → Prop) {i j : Nat} (s : Nat → Prop) (h : j ≠ i) : upd p i s j = p j := by simp [upd, h]
def uni (p : Nat → Nat → Prop) : Nat → Prop := fun k => ∃ j, p j k
theorem Pts.step {p : Nat → Nat → Prop} {W W' : World} {i : Nat} {S' : Nat → Prop} (h : Pts p W) (hs : Step (p i) W W' S') : Pts (upd p i S') W' := by
  refine ⟨fun a b hab => ?_, fun a => ?_⟩
  · by_cases ha : a = i
    · subst ha
      rw [upd_same, upd_other p _ (fun e => hab e.symm)]
      exact (hs.dj (h.dj b a (fun e => hab e.symm)) (h.lt b)).symm
    · rw [upd_other p _ ha]
      by_cases hb : b = i
      · subst hb
        rw [upd_same]
        exact hs.dj (h.dj a b hab) (h.lt a)
      · rw [upd_other p _ hb]
        exact h.dj a b hab
  · by_cases ha : a = i
    · subst ha; rw [upd_same]; exact hs.lt
    · rw [upd_other p _ ha]; exact (h.lt a).wide hs.t.size
theorem Pts.keeps {p : Nat → Nat → Prop} {W W' : World} {i : Nat} {S' : Nat → Prop} (h : Pts p W) (hs : Step (p i) W W' S') {j : Nat} (hj : j ≠ i) : ∀ k, p j k → W'.heap[k]? = W.heap[k]? :=
  hs.t.keeps (h.dj j i hj) (h.lt j)
theorem Pts.uni_step {p : Nat → Nat → Prop} {W W' : World} {i : Nat} {S' : Nat → Prop} (h : Pts p W) (hs : Step (p i) W W' S') : Step (uni p) W W' (uni (upd p i S')) := by
  refine ⟨hs.t.wide fun k hk _ => ⟨i, hk⟩, ?_, ?_⟩
  · rintro k ⟨j, hj⟩
    by_cases hji : j = i
    · subst hji
      rw [upd_same] at hj
      rcases hs.sub k hj with h1 | h1
      · exact .inl ⟨j, h1⟩
      · exact .inr h1
    · rw [upd_other p _ hji] at hj
      exact .inl ⟨j, hj⟩
  · rintro k ⟨j, hj⟩
    exact (h.step hs).lt j k hj
theorem Pts.uni_lt {p : Nat → Nat → Prop} {W : World} (h : Pts p W) : Lt (uni p) W := fun k ⟨j, hj⟩ => h.lt j k hj
theorem Pts.wide {p : Nat → Nat → Prop} {W W' : World} (h : Pts p W) (hs : W.heap.size ≤ W'.heap.size) : Pts p W' := ⟨h.dj, fun i => (h.lt i).wide hs⟩
def ncells (s : Shp) (me D G : Nat) (ld : Option Addr) (st ap : Value) (w d : Value) : List Value := [.int .i64 (s.K : Int), .int .i64 (s.F : Int), .int .i64 (me : Int), .pointer (some ⟨D, 0, none⟩), .pointer (some ⟨G, 0, none⟩), .pointer ld, st, ap, .int .i64 0, w, d]
theorem nfresh_any (N : Nat) (c0 c1 c2 c3 c4 c5 c6 c7 c8 c9 c10 : Value) (W : World) (hN : W.heap[N]? = some (.cells #[c0, c1, c2, c3, c4, c5, c6, c7, c8, c9, c10] 150)) :
    Calls Tryz.prog 114 #[.pointer (some ⟨N, 0, none⟩)] W fun e W' => ∃ ST Mw Md Ss, e = .returned (.tuple #[]) ∧ W'.heap[N]? = some (.cells #[c0, c1, c2, c3, c4, c5, .pointer (some ⟨ST, 0, none⟩), .int .i64 0, c8, .map (some Mw), .map (some Md)] 150) ∧ StAt TreeE W' Ss ST [] ∧ MapIs W' (.int .i64) Mw [] ∧ MapIs W' (.int .i64) Md [] ∧
      (∀ k, Ss k → W.heap.size ≤ k ∧ k < Mw) ∧ Md = Mw + 1 ∧ W.heap.size ≤ Mw ∧ Md < W'.heap.size ∧ Turned (fun k => k = N) W W' := by
  have hNl := (Array.getElem?_eq_some_iff.1 hN).1
  have HN := Lib.hid hN
  have HS := Lib.hid stnew_any
  have hmm := @run_makeMap Tryz.prog
  clear hN
  go_enter Tryz.func114, Tryz.ntmps114
  go_wp2_with fail
  refine (HS.out W).mono ?_
  rintro e w1 ⟨ST, rfl, hS1, hb1⟩
  have hN1 := (hb1.block N hNl).trans HN.out
  have hs1 := hb1.size
  have d6 : w1.cell? ⟨N, 6, none⟩ = some c6 := cob hN1 6 rfl
  have d7 : w1.cell? ⟨N, 7, none⟩ = some c7 := cob hN1 7 rfl
  have d9 : w1.cell? ⟨N, 9, none⟩ = some c9 := cob hN1 9 rfl
  have d10 : w1.cell? ⟨N, 10, none⟩ = some c10 := cob hN1 10 rfl
  have hfr : ∀ j, w1.frozen? ⟨N, j, none⟩ = false := fun j => by simp [World.frozen?, hN1]
  have hNl1 : N < w1.heap.size := by omega
  have HN1 := Lib.hid hN1
  clear hN1
  go_wp2
  go_end0
  have h6 := heap_setCell_same w1 N 6 _ _ (.pointer (some ⟨ST, 0, none⟩)) HN1.out
  have h7 := heap_setCell_same _ N 7 _ _ (.int .i64 0) h6
  have h9 := heap_setCell_same _ N 9 _ _ (.map (some w1.heap.size)) h7
  have h10 := heap_setCell_same _ N 10 _ _ (.map (some (w1.heap.size + 1))) h9
  have hT5 : Turned (fun k => k = N) W ((((w1.setCell ⟨N, 6, none⟩ (.pointer (some ⟨ST, 0, none⟩))).setCell ⟨N, 7, none⟩ (.int .i64 0)).setCell ⟨N, 9, none⟩ (.map (some w1.heap.size))).setCell ⟨N, 10, none⟩ (.map (some (w1.heap.size + 1)))) :=
    ((((Turned.of_below (S := fun k => k = N) hb1).setCell (p := ⟨N, 6, none⟩) (.inl rfl) _).setCell (p := ⟨N, 7, none⟩) (.inl rfl) _).setCell (p := ⟨N, 9, none⟩) (.inl rfl) _).setCell (p := ⟨N, 10, none⟩) (.inl rfl) _
  have ho5 : ∀ k, k ≠ N → ((((w1.setCell ⟨N, 6, none⟩ (.pointer (some ⟨ST, 0, none⟩))).setCell ⟨N, 7, none⟩ (.int .i64 0)).setCell ⟨N, 9, none⟩ (.map (some w1.heap.size))).setCell ⟨N, 10, none⟩ (.map (some (w1.heap.size + 1)))).heap[k]? = w1.heap[k]? := fun k hk =>
    (heap_setCell_other _ ⟨N, 10, none⟩ _ _ hk).trans ((heap_setCell_other _ ⟨N, 9, none⟩ _ _ hk).trans ((heap_setCell_other _ ⟨N, 7, none⟩ _ _ hk).trans (heap_setCell_other _ ⟨N, 6, none⟩ _ _ hk)))
  obtain ⟨w5, hw5⟩ : ∃ w5, w5 = (((w1.setCell ⟨N, 6, none⟩ (.pointer (some ⟨ST, 0, none⟩))).setCell ⟨N, 7, none⟩ (.int .i64 0)).setCell ⟨N, 9, none⟩ (.map (some w1.heap.size))).setCell ⟨N, 10, none⟩ (.map (some (w1.heap.size + 1))) := ⟨_, rfl⟩
  have hz5 : w5.heap.size = w1.heap.size := by rw [hw5]; simp
  rw [← hw5] at h10 hT5 ho5 ⊢
  clear hw5 h6 h7 h9 d6 d7 d9 d10 hfr
  have h11 : w5.heap[N]? = some (.cells #[c0, c1, c2, c3, c4, c5, .pointer (some ⟨ST, 0, none⟩), .int .i64 0, c8, .map (some w1.heap.size), .map (some (w1.heap.size + 1))] 150) := h10
  refine ⟨ST, w1.heap.size, w1.heap.size + 1, fun k => W.heap.size ≤ k ∧ k < w1.heap.size, rfl, ?_, ?_, ?_, ?_, fun k hk => ⟨hk.1, hk.2⟩, rfl, hs1, by simp; omega, (hT5.alloc _).alloc _⟩
  · exact (heap_alloc_old _ _ (by simp; omega)).trans ((heap_alloc_old _ _ (by omega)).trans h11)
  · refine StAt.frame TreeE.framed hS1 fun k hk => ?_
    exact (heap_alloc_old _ _ (by simp; omega)).trans ((heap_alloc_old _ _ (by omega)).trans (ho5 k (by omega)))
  · have := (MapIs.made w5 (.int .i64)).of_block (w' := (w5.alloc (.map #[] 0)).alloc (.map #[] 0)) (heap_alloc_old _ _ (by simp))
    rw [hz5] at this
    exact this
  · have := MapIs.made (w5.alloc (.map #[] 0)) (.int .i64)
    rw [World.size_alloc, hz5] at this
    exact this
structure LdM where
  b : Nat
  ps : List Nat
  es : List Ent
  leads : Bool
def NodeAt (R : World → (Nat → Prop) → Nat → Prop) (W : World) (S : Nat → Prop) (N : Nat) (s : Shp) (me D m : Nat) (rs : List Rc) (ld : Option LdM) (app : Nat) (cl ws dn : List (Value × Value)) : Prop :=
  ∃ p G LP ST Mw Md, Pts p W ∧ (∀ k, uni p k → S k) ∧ p 0 N ∧ W.heap[N]? = some (.cells (ncells s me D G LP (.pointer (some ⟨ST, 0, none⟩)) (.int .i64 (app : Int)) (.map (some Mw)) (.map (some Md))).toArray 150) ∧
    LogAt W (p 1) G D m rs ∧ (match ld with | none => LP = none | some l => ∃ P, LP = some ⟨P, 0, none⟩ ∧ LdAt W (p 2) P s me l.b l.ps l.es l.leads) ∧
    StAt R W (p 3) ST cl ∧ p 4 Mw ∧ MapIs W (.int .i64) Mw ws ∧ p 5 Md ∧ MapIs W (.int .i64) Md dn
theorem NodeAt.frame {R : World → (Nat → Prop) → Nat → Prop} (hR : Framed R) {W W' : World} {S : Nat → Prop} {N : Nat} {s : Shp} {me D m : Nat} {rs : List Rc} {ld : Option LdM} {app : Nat} {cl ws dn : List (Value × Value)} (h : NodeAt R W S N s me D m rs ld app cl ws dn) (hz : W.heap.size ≤ W'.heap.size) (hb : ∀ k, S k → W'.heap[k]? = W.heap[k]?) : NodeAt R W' S N s me D m rs ld app cl ws dn := by
  obtain ⟨p, G, LP, ST, Mw, Md, hp, hS, h0, hN, hl, hld, hst, h4, hw, h5, hd⟩ := h
  have hb' : ∀ j k, p j k → W'.heap[k]? = W.heap[k]? := fun j k hk => hb k (hS k ⟨j, hk⟩)
  refine ⟨p, G, LP, ST, Mw, Md, hp.wide hz, hS, h0, (hb' 0 N h0).trans hN, hl.frame (hb' 1), ?_, hst.frame hR (hb' 3), h4, hw.of_block (hb' 4 _ h4), h5, hd.of_block (hb' 5 _ h5)⟩
  cases ld with
  | none => exact hld
  | some l =>
    obtain ⟨P, h1, h2⟩ := hld
    exact ⟨P, h1, h2.frame (hb' 2)⟩
def parts6 (a b c d : Nat → Prop) (e f : Nat) : Nat → Nat → Prop
  | 0 => a | 1 => b | 2 => c | 3 => d | 4 => fun k => k = e | 5 => fun k => k = f | _ => fun _ => False
theorem parts6_ok {N z Mw Md : Nat} {b d : Nat → Prop} {W : World} (hb : ∀ k, b k → k < z ∧ k ≠ N) (hd : ∀ k, d k → z ≤ k ∧ k < Mw) (hN : N < z) (hz : z ≤ Mw) (hM : Md = Mw + 1) (hW : Md < W.heap.size) :
    Pts (parts6 (fun k => k = N) b (fun _ => False) d Mw Md) W := by
  refine ⟨fun i j hij k hi hj => ?_, fun i k hi => ?_⟩
  · rcases i with _ | _ | _ | _ | _ | _ | i <;> rcases j with _ | _ | _ | _ | _ | _ | j <;> simp only [parts6] at hi hj <;>
      first
        | exact hij rfl
        | exact hi
        | exact hj
        | omega
        | (have := hb k hi; omega)
        | (have := hb k hj; omega)
        | (have := hd k hi; omega)
        | (have := hd k hj; omega)
        | (have := hb k hi; have := hd k hj; omega)
        | (have := hb k hj; have := hd k hi; omega)
  · rcases i with _ | _ | _ | _ | _ | _ | i <;> simp only [parts6] at hi <;>
      first
        | exact hi.elim
        | omega
        | (have := hb k hi; omega)
        | (have := hd k hi; omega)
theorem nopen_any (N : Nat) (s : Shp) (me D m : Nat) (rs : List Rc) (hok : LogOk rs) (hlen : (logB rs).length ≤ 65536) (c4 c5 c6 c7 c8 c9 c10 : Value) (W : World) (hN : W.heap[N]? = some (.cells #[.int .i64 (s.K : Int), .int .i64 (s.F : Int), .int .i64 (me : Int), .pointer (some ⟨D, 0, none⟩), c4, c5, c6, c7, c8, c9, c10] 150))
    (Sd : Nat → Prop) (hD : DiskAt W Sd D m (fileOf rs)) (hSd : Lt Sd W) (hNd : ¬ Sd N) :
    Calls Tryz.prog 90 #[.pointer (some ⟨N, 0, none⟩)] W fun e W' => e = .returned (.tuple #[]) ∧ ∃ S', NodeAt TreeE W' S' N s me D m rs none 0 [] [] [] ∧ Step (fun k => k = N ∨ Sd k) W W' S' := by
  have hNl := (Array.getElem?_eq_some_iff.1 hN).1
  have HN := Lib.hid hN
  have HO := Lib.hid (lopen_any Sd D m rs hok hlen W hD hSd)
  have HF := Lib.hid (fun G w h => nfresh_any N (.int .i64 (s.K : Int)) (.int .i64 (s.F : Int)) (.int .i64 (me : Int)) (.pointer (some ⟨D, 0, none⟩)) (.pointer (some ⟨G, 0, none⟩)) (.pointer none) c6 c7 (.int .i64 0) c9 c10 w h)
  have d3 : W.cell? ⟨N, 3, none⟩ = some (.pointer (some ⟨D, 0, none⟩)) := cob hN 3 rfl
  clear hN
  go_enter Tryz.func90, Tryz.ntmps90
  go_wp2_with fail
  refine HO.out.mono ?_
  rintro e w1 ⟨G, Sl, rfl, hL1, hS1⟩
  have hN1 := (hS1.t.block N hNl hNd).trans HN.out
  have hz1 := hS1.t.size
  have d4 : w1.cell? ⟨N, 4, none⟩ = some c4 := cob hN1 4 rfl
  have d5 : w1.cell? ⟨N, 5, none⟩ = some c5 := cob hN1 5 rfl
  have d8 : w1.cell? ⟨N, 8, none⟩ = some c8 := cob hN1 8 rfl
  have hfr : ∀ j, w1.frozen? ⟨N, j, none⟩ = false := fun j => by simp [World.frozen?, hN1]
  have HN1 := Lib.hid hN1
  clear hN1 d3
  go_wp2_with fail
  have h4 := heap_setCell_same w1 N 4 _ _ (.pointer (some ⟨G, 0, none⟩)) HN1.out
  have h5 := heap_setCell_same _ N 5 _ _ (.pointer none) h4
  have h8 := heap_setCell_same _ N 8 _ _ (.int .i64 0) h5
  have hT1 : Turned (fun k => k = N ∨ Sd k) W w1 := hS1.t.wide fun k hk _ => .inr hk
  have hT5 : Turned (fun k => k = N ∨ Sd k) W (((w1.setCell ⟨N, 4, none⟩ (.pointer (some ⟨G, 0, none⟩))).setCell ⟨N, 5, none⟩ (.pointer none)).setCell ⟨N, 8, none⟩ (.int .i64 0)) :=
    ((hT1.setCell (p := ⟨N, 4, none⟩) (.inl (.inl rfl)) _).setCell (p := ⟨N, 5, none⟩) (.inl (.inl rfl)) _).setCell (p := ⟨N, 8, none⟩) (.inl (.inl rfl)) _
  have ho5 : ∀ k, k ≠ N → (((w1.setCell ⟨N, 4, none⟩ (.pointer (some ⟨G, 0, none⟩))).setCell ⟨N, 5, none⟩ (.pointer none)).setCell ⟨N, 8, none⟩ (.int .i64 0)).heap[k]? = w1.heap[k]? := fun k hk =>
    (heap_setCell_other _ ⟨N, 8, none⟩ _ _ hk).trans ((heap_setCell_other _ ⟨N, 5, none⟩ _ _ hk).trans (heap_setCell_other _ ⟨N, 4, none⟩ _ _ hk))
  obtain ⟨w5, hw5⟩ : ∃ w5, w5 = ((w1.setCell ⟨N, 4, none⟩ (.pointer (some ⟨G, 0, none⟩))).setCell ⟨N, 5, none⟩ (.pointer none)).setCell ⟨N, 8, none⟩ (.int .i64 0) := ⟨_, rfl⟩
  have hz5 : w5.heap.size = w1.heap.size := by rw [hw5]; simp
  rw [← hw5] at h8 hT5 ho5 ⊢
  clear hw5 h4 h5 d4 d5 d8 hfr
  have h11 : w5.heap[N]? = some (.cells #[.int .i64 (s.K : Int), .int .i64 (s.F : Int), .int .i64 (me : Int), .pointer (some ⟨D, 0, none⟩), .pointer (some ⟨G, 0, none⟩), .pointer none, c6, c7, .int .i64 0, c9, c10] 150) := h8
  refine (HF.out G w5 h11).mono ?_
  rintro e w6 ⟨ST, Mw, Md, Ss, rfl, hN6, hSt6, hMw6, hMd6, hSs, hMdE, hMwz, hMdz, hT6⟩
  clear h8 h11
  go_wp2
  go_end0
  have hSl : ∀ k, Sl k → k < w1.heap.size ∧ k ≠ N := fun k hk => ⟨hS1.lt k hk, fun e => by
    rcases hS1.sub k hk with h | h
    · exact hNd (e ▸ h)
    · omega⟩
  have hPts : Pts (parts6 (fun k => k = N) Sl (fun _ => False) Ss Mw Md) w6 := parts6_ok (z := w1.heap.size) hSl (fun k hk => by have := hSs k hk; omega) (by omega) (by omega) hMdE (by omega)
  refine ⟨rfl, uni (parts6 (fun k => k = N) Sl (fun _ => False) Ss Mw Md), ⟨_, G, none, ST, Mw, Md, hPts, fun k hk => hk, rfl, hN6, ?_, rfl, hSt6, rfl, hMw6, rfl, hMd6⟩, ?_, ?_, fun k hk => hPts.uni_lt k hk⟩
  · exact hL1.frame fun k hk => (hT6.block k (by have := (hSl k hk).1; omega) (hSl k hk).2).trans (ho5 k (hSl k hk).2)
  · exact hT5.trans (hT6.wide fun k hk _ => .inl hk)
  · rintro k ⟨i, hi⟩
    rcases i with _ | _ | _ | _ | _ | _ | i <;> simp only [parts6] at hi
    · exact .inl (.inl hi)
    · rcases hS1.sub k hi with h | h
      · exact .inl (.inr h)
      · exact .inr h
    · exact .inr (by have := hSs k hi; omega)
    · exact .inr (by omega)
    · exact .inr (by omega)
theorem nnew_any (s : Shp) (hs : s.Ok) (me : Nat) (hme : me < s.n) (D m : Nat) (Sd : Nat → Prop) (W : World) (hD : DiskAt W Sd D m none) (hSd : Lt Sd W) :
    Calls Tryz.prog 60 #[shv s, .int .i64 (me : Int), .pointer (some ⟨D, 0, none⟩)] W fun e W' => ∃ N S', e = .returned (.tuple #[.pointer (some ⟨N, 0, none⟩), .int .i64 0]) ∧ NodeAt TreeE W' S' N s me D m [] none 0 [] [] [] ∧ Step Sd W W' S' := by
  have Hn := Lib.hid (fun w => cn_any s hs w)
  have d0 : decide ((me : Int) < 0) = false := by simp
  have d1 : decide ((s.n : Int) ≤ (me : Int)) = false := by simp; omega
  have HOp := Lib.hid (fun N c4 c5 c6 c7 c8 c9 c10 w hN hD hS hNd => nopen_any N s me D m [] LogOk.nil (by simp [logB]) c4 c5 c6 c7 c8 c9 c10 w hN Sd hD hS hNd)
  unfold shv at Hn ⊢
  go_enter Tryz.func60, Tryz.ntmps60
  go_wp2_with fail
  generalize hw1 : World.alloc W _ = w1
  have hX1 := named_new hw1.symm
  have hb1 := named_below hw1.symm
  have hs1 : W.heap.size < w1.heap.size := by rw [named_size hw1.symm]; omega
  clear hw1
  refine (Hn.out w1).mono ?_
  rintro e w2 ⟨rfl, hb2⟩
  have hX2 := (hb2.block W.heap.size hs1).trans hX1
  have x0 := cob hX2 0 rfl
  have x1 := cob hX2 1 rfl
  have hz2 := hb2.size
  have HB2 := Lib.hid (show Below W.heap.size W w2 from hb1.trans (hb2.mono (by omega)))
  clear hX1 hX2 hb1 hb2
  go_wp2_with fail
  generalize hw3 : World.alloc w2 _ = w3
  have hN3 := named_new hw3.symm
  have hb3 := named_below hw3.symm
  have hz3 : w3.heap.size = w2.heap.size + 1 := named_size hw3.symm
  have hB3 : Below W.heap.size W w3 := HB2.out.trans (hb3.mono (by omega))
  clear hw3
  refine (HOp.out w2.heap.size _ _ _ _ _ _ _ w3 hN3 (hD.frame fun k hk => hB3.block k (hSd k hk)) (fun k hk => by have := hSd k hk; omega) (fun h => by have := hSd _ h; omega)).mono ?_
  rintro e w4 ⟨rfl, S', hA4, hS4⟩
  go_wp2
  go_ret2
  refine ⟨w2.heap.size, S', rfl, hA4, ?_, fun k hk => ?_, hS4.lt⟩
  · refine (Turned.of_below hB3).next hS4.t fun k hk => ?_
    rcases hk with hk | hk
    · exact .inr (by omega)
    · exact .inl hk
  · rcases hS4.sub k hk with (h | h) | h
    · exact .inr (by omega)
    · exact .inl h
    · exact .inr (by omega)
theorem ncrash_any (R : World → (Nat → Prop) → Nat → Prop) (S : Nat → Prop) (N : Nat) (s : Shp) (me D m : Nat) (rs : List Rc) (hrs : rs ≠ []) (ld : Option LdM) (app : Nat) (cl ws dn : List (Value × Value)) (K : Value) (W : World) (h : NodeAt R W S N s me D m rs ld app cl ws dn) :
    Calls Tryz.prog 75 #[.pointer (some ⟨N, 0, none⟩), K] W fun e W' => e = .returned (.tuple #[]) ∧ ∃ S', NodeAt TreeE W' S' N s me D m rs none 0 [] [] [] ∧ Step S W W' S' := by
  obtain ⟨p, G, LP, ST, Mw, Md, hp, hS, h0, hN, hl, hld, hst, h4, hw, h5, hd⟩ := h
  obtain ⟨X, Sd, Ss, hG, sG, hd1, hss, hdj, hD, hsa, hok, hlen⟩ := hl
  have hNl := hp.lt 0 N h0
  have hf := fileOf_cons hrs
  have hD' := hD
  rw [hf] at hD'
  have HCr := Lib.hid (dcrash_synced Sd D m _ W hD' K)
  have hSdl : Lt Sd W := fun k hk => hp.lt 1 k (hd1 k hk).1
  have hNSd : ¬ Sd N := fun e => hp.dj 0 1 (by decide) N h0 (hd1 N e).1
  have HOp := Lib.hid (fun c4 c5 c6 c7 c8 c9 c10 w hN hD hS hNd => nopen_any N s me D m rs hok hlen c4 c5 c6 c7 c8 c9 c10 w hN Sd hD hS hNd)
  have HN := Lib.hid hN
  have e3 : W.cell? ⟨N, 3, none⟩ = some (.pointer (some ⟨D, 0, none⟩)) := cob hN 3 rfl
  clear hN hst hw hd hsa hG
  go_enter Tryz.func75, Tryz.ntmps75
  go_wp2_with fail
  refine HCr.out.mono ?_
  rintro e w1 ⟨rfl, hb1⟩
  have hN1 := (hb1.block N hNl).trans HN.out
  have hz1 := hb1.size
  go_wp2_with fail
  refine (HOp.out _ _ _ _ _ _ _ w1 hN1 (hD.frame fun k hk => hb1.block k (hSdl k hk)) (hSdl.wide hz1) hNSd).mono ?_
  rintro e w2 ⟨rfl, S', hA2, hS2⟩
  go_wp2
  go_end0
  refine ⟨rfl, S', hA2, ?_, fun k hk => ?_, hS2.lt⟩
  · refine (Turned.of_below hb1).next hS2.t fun k hk => ?_
    rcases hk with hk | hk
    · exact .inl (hS k ⟨0, hk ▸ h0⟩)
    · exact .inl (hS k ⟨1, (hd1 k hk).1⟩)
  · rcases hS2.sub k hk with (h | h) | h
    · exact .inl (hS k ⟨0, h ▸ h0⟩)
    · exact .inl (hS k ⟨1, (hd1 k h).1⟩)
    · exact .inr (by omega)
end Go.Proofs.YtoigogjmhkpdlaaGreat
