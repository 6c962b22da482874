/- A part of the proof of WholeFew: the texts NodeD, NodeE, NodeF, NodeG, NodeH, StateB, NodeI, NodeJ. -/
import Derived.Test.YtoigogjmhkpdlaaGreatJ07
import Derived.Test.YtoigogjmhkpdlaaGreatJ17
import Derived.Test.YtoigogjmhkpdlaaGreatJ21
import Derived.BigQuiet
set_option maxHeartbeats 6400000
set_option maxRecDepth 100000
namespace Go.Proofs.YtoigogjmhkpdlaaGreat
open Go.RowKit
def ldB (ld : Option LdM) : Bool := match ld with | none => false | some l => l.leads
theorem nleads_any (R : World → (Nat → Prop) → Nat → Prop) (S : Nat → Prop) (N : Nat) (s : Shp) (me D m : Nat) (rs : List Rc) (ld : Option LdM) (app : Nat) (cl ws dn : List (Value × Value)) (W : World) (h : NodeAt R W S N s me D m rs ld app cl ws dn) :
    Calls Tryz.prog 62 #[.pointer (some ⟨N, 0, none⟩)] W fun e W' => e = .returned (.bool (ldB ld)) ∧ W = W' := by
  obtain ⟨p, G, LP, ST, Mw, Md, hp, hS, h0, hN, hl, hld, _⟩ := h
  have e5 : W.cell? ⟨N, 5, none⟩ = some (.pointer LP) := cob hN 5 rfl
  clear hN hl
  cases ld with
  | none =>
    simp only at hld
    subst hld
    go_enter Tryz.func62, Tryz.ntmps62
    go_wp2
    go_ret
    exact ⟨rfl, rfl⟩
  | some l =>
    obtain ⟨P, rfl, hL⟩ := hld
    have HL := Lib.hid (ldleads_any (p 2) P s me l.b l.ps l.es l.leads W hL)
    clear hL
    go_enter Tryz.func62, Tryz.ntmps62
    go_wp2_with (first | (go_at_call 91; refine HL.out.mono ?_; rintro e w1 ⟨rfl, rfl⟩))
    go_ret
    exact ⟨rfl, rfl⟩
theorem napplied_any (R : World → (Nat → Prop) → Nat → Prop) (S : Nat → Prop) (N : Nat) (s : Shp) (me D m : Nat) (rs : List Rc) (ld : Option LdM) (app : Nat) (cl ws dn : List (Value × Value)) (W : World) (h : NodeAt R W S N s me D m rs ld app cl ws dn) :
    Calls Tryz.prog 40 #[.pointer (some ⟨N, 0, none⟩)] W fun e W' => e = .returned (.int .i64 (app : Int)) ∧ W = W' := by
  obtain ⟨p, G, LP, ST, Mw, Md, hp, hS, h0, hN, _⟩ := h
  have e7 : W.cell? ⟨N, 7, none⟩ = some (.int .i64 (app : Int)) := cob hN 7 rfl
  clear hN
  go_enter Tryz.func40, Tryz.ntmps40
  go_wp2
  go_ret
  exact ⟨rfl, rfl⟩
theorem nvotes_any (R : World → (Nat → Prop) → Nat → Prop) (S : Nat → Prop) (N : Nat) (s : Shp) (me D m : Nat) (rs : List Rc) (ld : Option LdM) (app : Nat) (cl ws dn : List (Value × Value)) (W : World) (h : NodeAt R W S N s me D m rs ld app cl ws dn) :
    Calls Tryz.prog 67 #[.pointer (some ⟨N, 0, none⟩)] W fun e W' => ∃ (L : List Vt) (A : Option Addr) (c : Nat), Hid (L = (say rs).2) ∧ e = .returned (.slice A L.length c) ∧ OwnT vcells 62 5 W' W.heap.size A c L ∧ Below W.heap.size W W' := by
  obtain ⟨p, G, LP, ST, Mw, Md, hp, hS, h0, hN, hl, _⟩ := h
  have HL := Lib.hid (lvotes_any (p 1) G D m rs W hl (hp.lt 1))
  have e4 : W.cell? ⟨N, 4, none⟩ = some (.pointer (some ⟨G, 0, none⟩)) := cob hN 4 rfl
  clear hN hl
  go_enter Tryz.func67, Tryz.ntmps67
  go_wp2_with (first | (go_at_call 100; refine HL.out.mono ?_; rintro e w1 ⟨L, A, c, h1, rfl, h2, _, h3⟩))
  go_ret
  exact ⟨L, A, c, h1, rfl, h2, h3⟩
theorem ntick_any (R : World → (Nat → Prop) → Nat → Prop) (S : Nat → Prop) (N : Nat) (s : Shp) (hs : s.Ok) (me D m : Nat) (hme : me < s.n) (rs : List Rc) (l : LdM) (hl : l.leads = true) (h1 : 1 ≤ l.b) (h2 : l.b ≤ 2147483647) (h64 : l.es.length ≤ 64) (hok : ∀ e ∈ l.es, EntOk s.n l.b e ∧ e.acks.length ≤ 7) (app : Nat) (cl ws dn : List (Value × Value)) (full : Bool) (W : World) (h : NodeAt R W S N s me D m rs (some l) app cl ws dn) :
    Calls Tryz.prog 74 #[.pointer (some ⟨N, 0, none⟩), .bool full] W fun e W' => ∃ (L : List Mg) (A : Option Addr) (c : Nat), Hid (L.map absM = againL s.q s.n me l.b l.es l.es.length) ∧ (∀ m ∈ L, MgOk m) ∧ e = .returned (.slice A L.length c) ∧ OwnT mcells 133 11 W' W.heap.size A c L ∧ Below W.heap.size W W' := by
  obtain ⟨p, G, LP, ST, Mw, Md, hp, hS, h0, hN, _, ⟨P, rfl, hL⟩, _⟩ := h
  rw [hl] at hL
  have HL := Lib.hid (ldagain_any (p 2) P s hs me l.b hme h1 h2 l.ps l.es full W hL (hp.lt 2) h64 hok)
  have e5 : W.cell? ⟨N, 5, none⟩ = some (.pointer (some ⟨P, 0, none⟩)) := cob hN 5 rfl
  clear hN hL
  go_enter Tryz.func74, Tryz.ntmps74
  go_wp2_with (first | (go_at_call 116; refine HL.out.mono ?_; rintro e w1 ⟨L, A, c, q1, q2, rfl, q3, q4⟩))
  go_ret
  exact ⟨L, A, c, q1, q2, rfl, q3, q4⟩
def nextB (me : Nat) : Nat := if me = 0 then 8 else me
theorem snext_zero (me : Nat) (hme : me < 7) (W : World) : Calls Tryz.prog 111 #[.int .i64 0, .int .i64 (me : Int)] W fun e W' => e = .returned (.int .i64 (nextB me : Nat)) ∧ W = W' := by
  by_cases h0 : me = 0
  · subst h0
    go_enter Tryz.func111, Tryz.ntmps111
    go_wp2
    go_ret
    exact ⟨rfl, rfl⟩
  · have HC := Lib.hid (show nextB me = me by unfold nextB; rw [if_neg h0])
    rw [HC.out]
    have d1 : decide (((me : Nat) : Int) ≤ 0) = false := by simp; omega
    have d2 : decide ((2147483647 : Int) < ((me : Nat) : Int)) = false := by simp; omega
    go_enter Tryz.func111, Tryz.ntmps111
    go_wp2
    go_ret
    exact ⟨rfl, rfl⟩
theorem parts6_ok2 {N zl z Mw Md : Nat} {b c d : Nat → Prop} {W : World} (hb : ∀ k, b k → k < zl ∧ k ≠ N) (hc : ∀ k, c k → zl ≤ k ∧ k < z) (hd : ∀ k, d k → z ≤ k ∧ k < Mw) (hN : N < zl) (hl : zl ≤ z) (hz : z ≤ Mw) (hM : Md = Mw + 1) (hW : Md < W.heap.size) :
    Pts (parts6 (fun k => k = N) b c d Mw Md) W := by
  refine ⟨fun i j hij k hi hj => ?_, fun i k hi => ?_⟩
  · rcases i with _ | _ | _ | _ | _ | _ | i <;> rcases j with _ | _ | _ | _ | _ | _ | j <;> simp only [parts6] at hi hj <;>
      first
        | exact hij rfl
        | exact hi
        | exact hj
        | omega
        | (have := hb k hi; omega)
        | (have := hb k hj; omega)
        | (have := hc k hi; omega)
        | (have := hc k hj; omega)
        | (have := hd k hi; omega)
        | (have := hd k hj; omega)
        | (have := hb k hi; have := hd k hj; omega)
        | (have := hb k hj; have := hd k hi; omega)
        | (have := hb k hi; have := hc k hj; omega)
        | (have := hb k hj; have := hc k hi; omega)
        | (have := hc k hi; have := hd k hj; omega)
        | (have := hc k hj; have := hd k hi; omega)
  · rcases i with _ | _ | _ | _ | _ | _ | i <;> simp only [parts6] at hi <;>
      first
        | exact hi.elim
        | omega
        | (have := hb k hi; omega)
        | (have := hc k hi; omega)
        | (have := hd k hi; omega)
theorem nstand_any (R : World → (Nat → Prop) → Nat → Prop) (S : Nat → Prop) (N : Nat) (s : Shp) (hs : s.Ok) (me D m : Nat) (hme : me < s.n) (hm : 556 ≤ m) (cl ws dn : List (Value × Value)) (app : Nat) (W : World) (h : NodeAt R W S N s me D m [] none app cl ws dn) :
    Calls Tryz.prog 73 #[.pointer (some ⟨N, 0, none⟩)] W fun e W' => ∃ (L : List Mg) (A : Option Addr) (c : Nat) (S' : Nat → Prop), Hid (L = (List.range s.n).map (prep me (nextB me))) ∧ e = .returned (.slice A L.length c) ∧ OwnT mcells 133 11 W' W.heap.size A c L ∧ NodeAt TreeE W' S' N s me D m [.p (nextB me)] (some ⟨nextB me, [], [], false⟩) 0 [] [] [] ∧ Step S W W' S' := by
  obtain ⟨p, G, LP, ST, Mw, Md, hp, hS, h0, hN, hl, hld, hst, h4, hw, h5, hd⟩ := h
  simp only at hld
  subst hld
  have hn7 : s.n ≤ 7 := hs.n7
  have hb1 : 1 ≤ nextB me := by unfold nextB; split <;> omega
  have hb8 : nextB me ≤ 8 := by unfold nextB; split <;> omega
  have HNx := Lib.hid (snext_zero me (by omega))
  obtain ⟨b, hb⟩ : ∃ b, b = nextB me := ⟨_, rfl⟩
  rw [← hb] at HNx hb1 hb8 ⊢
  clear hb
  have hNl := hp.lt 0 N h0
  have HP1 := Lib.hid (show ∀ w, LogAt w (p 1) G D m [] → Calls Tryz.prog 102 #[.pointer (some ⟨G, 0, none⟩)] w fun e w' => e = .returned (.int .i64 0) ∧ w = w' from fun w h => (lpromised_any (p 1) G D m [] w h).mono fun e w' hh => hh)
  have hl0 := hl
  have hld : LogAt W.drew (p 1) G D m [] := hl.frame fun k hk => rfl
  have HPr := Lib.hid (lpromise_any (p 1) G D m [] b hb1 (by omega) (by show 0 < b; omega) (by simp [logB]; exact hm) W.drew (hl.frame fun k hk => rfl) (hp.lt 1))
  have HNw := Lib.hid (ldnew_any s hs me b hme hb1 (by omega))
  have HN := Lib.hid hN
  obtain ⟨Y, hY⟩ : ∃ Y, W.heap[N]? = some Y := ⟨_, hN⟩
  have k4 : ∀ w : World, w.heap[N]? = some Y → w.cell? ⟨N, 4, none⟩ = some (.pointer (some ⟨G, 0, none⟩)) := fun w hw => cob (hw.trans (hY.symm.trans hN)) 4 rfl
  have k8 : ∀ w : World, w.heap[N]? = some Y → w.cell? ⟨N, 8, none⟩ = some (.int .i64 0) := fun w hw => cob (hw.trans (hY.symm.trans hN)) 8 rfl
  have k2 : ∀ w : World, w.heap[N]? = some Y → w.cell? ⟨N, 2, none⟩ = some (.int .i64 (me : Int)) := fun w hw => cob (hw.trans (hY.symm.trans hN)) 2 rfl
  have k0 : ∀ w : World, w.heap[N]? = some Y → w.cell? ⟨N, 0, none⟩ = some (.int .i64 (s.K : Int)) := fun w hw => cob (hw.trans (hY.symm.trans hN)) 0 rfl
  have k1 : ∀ w : World, w.heap[N]? = some Y → w.cell? ⟨N, 1, none⟩ = some (.int .i64 (s.F : Int)) := fun w hw => cob (hw.trans (hY.symm.trans hN)) 1 rfl
  have k5 : ∀ w : World, w.heap[N]? = some Y → w.cell? ⟨N, 5, none⟩ = some (.pointer none) := fun w hw => cob (hw.trans (hY.symm.trans hN)) 5 rfl
  have hz0 : (((b : Nat) : Int) == 0) = false := by rw [beq_eq_false_iff_ne]; omega
  have hYd : W.drew.heap[N]? = some Y := hY
  clear hN hst hw hd
  go_enter Tryz.func73, Tryz.ntmps73
  go_wp2
  go_region_held3 (fun w' => w'.heap[N]? = some Y)
    (first | with_reducible exact hY | with_reducible exact hYd)
    (first | (go_at_call 111; refine (HNx.out _).mono ?_; rintro e w1 ⟨rfl, rfl⟩) | (go_at_call 102; first | ((with_reducible refine (HP1.out _ hl0).mono ?_); rintro e w1 ⟨rfl, rfl⟩) | ((with_reducible refine (HP1.out _ hld).mono ?_); rintro e w1 ⟨rfl, rfl⟩)))
  go_wp2_with fail
  refine HPr.out.mono ?_
  rintro e w2 ⟨S1, rfl, hL2, hS2⟩
  have hd2 : ¬ p 1 N := fun e => hp.dj 0 1 (by decide) N h0 e
  have hY2 : w2.heap[N]? = some Y := (hS2.t.block N hNl hd2).trans hY
  have hz2 : W.heap.size ≤ w2.heap.size := hS2.t.size
  have hY2d : w2.drew.heap[N]? = some Y := hY2
  clear hYd
  go_wp2
  go_region_held3 (fun w' => w'.heap[N]? = some Y)
    (first | with_reducible exact hY3 | with_reducible exact hY2 | with_reducible exact hY2d)
    (first | (go_at_call 113; refine (HNw.out _).mono ?_; rintro e w3 ⟨P, rfl, hL3, hb3'⟩; have hb3 : Below w2.heap.size w2 w3 := below_undrew hb3'; have hY3 := (hb3.block N (by omega)).trans hY2))
  have hz3 := hb3.size
  have e5 := k5 w3 hY3
  have f5 : w3.frozen? ⟨N, 5, none⟩ = false := by simp [World.frozen?, hY3.trans (hY.symm.trans HN.out)]
  have hN3 := hY3.trans (hY.symm.trans HN.out)
  have h45 := heap_setCell_same w3 N 5 _ _ (.pointer (some ⟨P, 0, none⟩)) hN3
  have ho4 : ∀ k, k ≠ N → (w3.setCell ⟨N, 5, none⟩ (.pointer (some ⟨P, 0, none⟩))).heap[k]? = w3.heap[k]? := fun k hk => heap_setCell_other _ ⟨N, 5, none⟩ _ _ hk
  have HFr := Lib.hid (nfresh_any N _ _ _ _ _ _ _ _ _ _ _ (w3.setCell ⟨N, 5, none⟩ (.pointer (some ⟨P, 0, none⟩))) h45)
  clear k0 k1 k2 k4 k8 hY3 hN3
  go_wp2_with fail
  refine HFr.out.mono ?_
  rintro e w5 ⟨ST5, Mw5, Md5, Ss, rfl, hN5, hSt5, hMw5, hMd5, hSs, hMdE, hMwz, hMdz, hT5⟩
  have hz4 : (w3.setCell ⟨N, 5, none⟩ (.pointer (some ⟨P, 0, none⟩))).heap.size = w3.heap.size := by simp
  rw [hz4] at hSs hMwz
  have hk5 : ∀ k, k < w3.heap.size → k ≠ N → w5.heap[k]? = w3.heap[k]? := fun k hk hn => (hT5.block k (by rw [hz4]; exact hk) hn).trans (ho4 k hn)
  have hL5 : LdAt w5 (fun k => w2.heap.size ≤ k ∧ k < w3.heap.size) P s me b [] [] false := hL3.frame fun k hk => hk5 k hk.2 (by have h1 : w2.heap.size ≤ k := hk.1; omega)
  have HPs := Lib.hid (ldprepares_any _ P s hs me b [] [] false w5 hL5)
  have hS1 : ∀ k, S1 k → k < w2.heap.size ∧ k ≠ N := fun k hk => ⟨hS2.lt k hk, fun e => by
    rcases hS2.sub k hk with h | h
    · exact hd2 (e ▸ h)
    · have : W.heap.size ≤ k := h
      omega⟩
  have hPts : Pts (parts6 (fun k => k = N) S1 (fun k => w2.heap.size ≤ k ∧ k < w3.heap.size) Ss Mw5 Md5) w5 :=
    parts6_ok2 (zl := w2.heap.size) (z := w3.heap.size) hS1 (fun k hk => hk) (fun k hk => by have := hSs k hk; omega) (by omega) hz3 (by omega) hMdE hMdz
  have hNode : NodeAt TreeE w5 (uni (parts6 (fun k => k = N) S1 (fun k => w2.heap.size ≤ k ∧ k < w3.heap.size) Ss Mw5 Md5)) N s me D m [.p b] (some ⟨b, [], [], false⟩) 0 [] [] [] := by
    refine ⟨_, G, some ⟨P, 0, none⟩, ST5, Mw5, Md5, hPts, fun k hk => hk, rfl, hN5, ?_, ⟨P, rfl, hL5⟩, hSt5, rfl, hMw5, rfl, hMd5⟩
    exact hL2.frame fun k hk => (hk5 k (by have := (hS1 k hk).1; omega) (hS1 k hk).2).trans (hb3.block k (hS1 k hk).1)
  have hT : Turned S W w5 := by
    have t2 : Turned S W w2 := (hS2.t.undrew).wide fun k hk _ => hS k ⟨1, hk⟩
    have t3 : Turned S W w3 := t2.below hb3 hz2
    have t4 := t3.setCell (p := ⟨N, 5, none⟩) (.inl (hS N ⟨0, h0⟩)) (.pointer (some ⟨P, 0, none⟩))
    exact t4.trans (hT5.wide fun k hk _ => hS k ⟨0, hk ▸ h0⟩)
  have hsub : ∀ k, uni (parts6 (fun k => k = N) S1 (fun k => w2.heap.size ≤ k ∧ k < w3.heap.size) Ss Mw5 Md5) k → S k ∨ W.heap.size ≤ k := by
    rintro k ⟨i, hi⟩
    rcases i with _ | _ | _ | _ | _ | _ | i <;> simp only [parts6] at hi
    · exact .inl (hS k ⟨0, hi ▸ h0⟩)
    · rcases hS2.sub k hi with h | h
      · exact .inl (hS k ⟨1, h⟩)
      · exact .inr h
    · exact .inr (by omega)
    · exact .inr (by have := hSs k hi; omega)
    · exact .inr (by omega)
    · exact .inr (by omega)
  have HNode := Lib.hid hNode
  have HPts := Lib.hid hPts
  have HT := Lib.hid hT
  have HSub := Lib.hid hsub
  clear hNode hPts hT hsub hL5 hL3 hSt5 hMw5 hMd5 hL2 hk5 ho4 h45 e5 f5
  go_wp2_with (first | (go_at_call 115; refine HPs.out.mono ?_; rintro e w6 ⟨L, A, c, HL, rfl, hO6, hb6⟩))
  go_ret
  have hz6 := hb6.size
  exact ⟨L, A, c, _, HL, rfl, hO6.low HT.out.size, HNode.out.frame TreeE.framed hz6 (fun k hk => hb6.block k (HPts.out.uni_lt k hk)), HT.out.below hb6 HT.out.size, HSub.out, fun k hk => Nat.lt_of_lt_of_le (HPts.out.uni_lt k hk) hz6⟩
theorem NodeAt.log_step {R : World → (Nat → Prop) → Nat → Prop} (hR : Framed R) {W W' : World} {N : Nat} {s : Shp} {me D m : Nat} {rs' : List Rc} {ld : Option LdM} {app : Nat} {cl ws dn : List (Value × Value)} {p : Nat → Nat → Prop} {G ST Mw Md : Nat} {LP : Option Addr} {S1 : Nat → Prop}
    (hp : Pts p W) (h0 : p 0 N) (hN : W.heap[N]? = some (.cells (ncells s me D G LP (.pointer (some ⟨ST, 0, none⟩)) (.int .i64 (app : Int)) (.map (some Mw)) (.map (some Md))).toArray 150))
    (hld : match ld with | none => LP = none | some l => ∃ P, LP = some ⟨P, 0, none⟩ ∧ LdAt W (p 2) P s me l.b l.ps l.es l.leads)
    (hst : StAt R W (p 3) ST cl) (h4 : p 4 Mw) (hw : MapIs W (.int .i64) Mw ws) (h5 : p 5 Md) (hd : MapIs W (.int .i64) Md dn)
    (hl' : LogAt W' S1 G D m rs') (hs : Step (p 1) W W' S1) : NodeAt R W' (uni (upd p 1 S1)) N s me D m rs' ld app cl ws dn := by
  have hk : ∀ j, j ≠ 1 → ∀ k, p j k → W'.heap[k]? = W.heap[k]? := fun j hj => hp.keeps hs hj
  refine ⟨upd p 1 S1, G, LP, ST, Mw, Md, hp.step hs, fun k hk => hk, by rw [upd_other p _ (by decide)]; exact h0, (hk 0 (by decide) N h0).trans hN, by rw [upd_same]; exact hl', ?_, by rw [upd_other p _ (by decide)]; exact hst.frame hR (hk 3 (by decide)), by rw [upd_other p _ (by decide)]; exact h4, hw.of_block (hk 4 (by decide) _ h4), by rw [upd_other p _ (by decide)]; exact h5, hd.of_block (hk 5 (by decide) _ h5)⟩
  cases ld with
  | none => exact hld
  | some l =>
    obtain ⟨P, h1, h2⟩ := hld
    exact ⟨P, h1, by rw [upd_other p _ (by decide)]; exact h2.frame (hk 2 (by decide))⟩
theorem nhear_acc (R : World → (Nat → Prop) → Nat → Prop) (hR : Framed R) (S : Nat → Prop) (N : Nat) (s : Shp) (me D m : Nat) (rs rs' : List Rc) (ld : Option LdM) (app : Nat) (cl ws dn : List (Value × Value)) (a ans : Mg) (hk : a.kind = 1 ∨ a.kind = 3) (hto : a.to = me)
    (HA : ∀ S G w, LogAt w S G D m rs → Lt S w → Calls Tryz.prog 101 #[.pointer (some ⟨G, 0, none⟩), .int .i64 (a.to : Int), mgv a] w fun e w' => AnsMsg w S G D m rs' ans e w')
    (hlost : ∀ l, ld = some l → (say rs').1 ≤ l.b) (W : World) (h : NodeAt R W S N s me D m rs ld app cl ws dn) :
    Calls Tryz.prog 68 #[.pointer (some ⟨N, 0, none⟩), mgv a] W fun e W' => ∃ S' g, e = .returned (.tuple #[.slice none 0 0, .slice (some ⟨g, 0, none⟩) 1 1]) ∧ W'.heap[g]? = some (.cells (mcells ans).toArray 133) ∧ W.heap.size ≤ g ∧ ¬ S' g ∧ NodeAt R W' S' N s me D m rs' ld app cl ws dn ∧ Step S W W' S' := by
  obtain ⟨p, G, LP, ST, Mw, Md, hp, hSu, h0, hN, hl, hld, hst, h4, hw, h5, hd⟩ := h
  have hNl := hp.lt 0 N h0
  have hd1 : ¬ p 1 N := fun e => hp.dj 0 1 (by decide) N h0 e
  have HFin := Lib.hid (show ∀ (W1 W' : World) (S1 : Nat → Prop) (g : Nat), Below W.heap.size W W1 → Step (p 1) W1 W' S1 → LogAt W' S1 G D m rs' → W1.heap.size ≤ g → ¬ S1 g → ∃ S' , ¬ S' g ∧ NodeAt R W' S' N s me D m rs' ld app cl ws dn ∧ Step S W W' S' from by
    intro W1 W' S1 g hb hs hl' hg hn
    have hz := hb.size
    have hk : ∀ j k, p j k → W1.heap[k]? = W.heap[k]? := fun j k hk => hb.block k (hp.lt j k hk)
    have hp1 : Pts p W1 := hp.wide hz
    have hnode := NodeAt.log_step hR (W := W1) (ld := ld) hp1 h0 ((hk 0 N h0).trans hN) (by
      cases ld with
      | none => exact hld
      | some l =>
        obtain ⟨P, h1, h2⟩ := hld
        exact ⟨P, h1, h2.frame (hk 2)⟩) (hst.frame hR (hk 3)) h4 (hw.of_block (hk 4 _ h4)) h5 (hd.of_block (hk 5 _ h5)) hl' hs
    have hus := hp1.uni_step hs
    refine ⟨uni (upd p 1 S1), ?_, hnode, ?_, ?_, hus.lt⟩
    · rintro ⟨j, hj⟩
      by_cases h1 : j = 1
      · subst h1; rw [upd_same] at hj; exact hn hj
      · rw [upd_other p _ h1] at hj
        have := hp.lt j g hj
        omega
    · exact (Turned.of_below hb).next hus.t fun k hk => .inl (hSu k hk)
    · intro k hk
      rcases hus.sub k hk with h | h
      · exact .inl (hSu k h)
      · exact .inr (by omega))
  have HAc := Lib.hid (fun w hl hS => HA (p 1) G w hl hS)
  obtain ⟨Y, hY⟩ : ∃ Y, W.heap[N]? = some Y := ⟨_, hN⟩
  have k4 : ∀ w : World, w.heap[N]? = some Y → w.cell? ⟨N, 4, none⟩ = some (.pointer (some ⟨G, 0, none⟩)) := fun w hw => cob (hw.trans (hY.symm.trans hN)) 4 rfl
  have k2 : ∀ w : World, w.heap[N]? = some Y → w.cell? ⟨N, 2, none⟩ = some (.int .i64 (me : Int)) := fun w hw => cob (hw.trans (hY.symm.trans hN)) 2 rfl
  have k5 : ∀ w : World, w.heap[N]? = some Y → w.cell? ⟨N, 5, none⟩ = some (.pointer LP) := fun w hw => cob (hw.trans (hY.symm.trans hN)) 5 rfl
  have HLg := Lib.hid hl
  have HP1 := Lib.hid (show ∀ w S1, LogAt w S1 G D m rs' → Calls Tryz.prog 102 #[.pointer (some ⟨G, 0, none⟩)] w fun e w' => e = .returned (.int .i64 ((say rs').1 : Int)) ∧ w = w' from fun w S1 h => lpromised_any S1 G D m rs' w h)
  have HLd := Lib.hid (show ∀ l P, ld = some l → LP = some ⟨P, 0, none⟩ → ∀ w, (∀ k, p 2 k → w.heap[k]? = W.heap[k]?) → Calls Tryz.prog 103 #[.pointer (some ⟨P, 0, none⟩)] w fun e w' => e = .returned (.int .i64 (l.b : Int)) ∧ w = w' from fun l P h1 h2 w hw => by
    subst h1
    obtain ⟨P', h3, h4⟩ := hld
    rw [h2] at h3
    injection h3 with h3
    injection h3 with h3
    subst h3
    exact ldballot_any (p 2) P s me l.b l.ps l.es l.leads w (h4.frame hw))
  have hcs : LP = none ∨ ∃ l P, ld = some l ∧ LP = some (⟨P, 0, none⟩ : Addr) := by
    cases ld with
    | none => exact .inl hld
    | some l =>
      obtain ⟨P, h1, _⟩ := hld
      exact .inr ⟨l, P, rfl, h1⟩
  have HCs := Lib.hid hcs
  clear hcs
  have HLs := Lib.hid hlost
  obtain ⟨pr, hpr⟩ : ∃ pr, pr = (say rs').1 := ⟨_, rfl⟩
  rw [← hpr] at HP1 HLs
  have HSu := Lib.hid hSu
  clear hl hst hw hd hN HA hlost hpr
  obtain ⟨kd, a1, a2, a3, a4, ⟨a5, a6, a7, a8, a9⟩⟩ := a
  simp only at hk hto
  subst hto
  unfold mgv mcells at HAc ⊢
  simp only [] at HAc ⊢
  have hkk : (((kd : Nat) : Int) == 1) = true ∨ ((((kd : Nat) : Int) == 1) = false ∧ (((kd : Nat) : Int) == 3) = true) := by
    rcases hk with rfl | rfl
    · exact .inl rfl
    · exact .inr ⟨rfl, rfl⟩
  have hYa : ∀ o, (W.alloc o).heap[N]? = some Y := fun o => (heap_alloc_old _ _ hNl).trans hY
  rcases hkk with hkk | ⟨hk1, hkk⟩
  all_goals
    go_enter Tryz.func68, Tryz.ntmps68
    go_wp2
    generalize hw1 : World.alloc W _ = w1
    have hB := named_new hw1.symm
    have hb1 := named_below hw1.symm
    have hs1 : w1.heap.size = W.heap.size + 1 := named_size hw1.symm
    clear hw1
    have hY1 := (hb1.block N hNl).trans hY
    have hY1d : w1.drew.heap[N]? = some Y := hY1
    have hz1 : W.heap.size < w1.heap.size := by omega
    clear hs1
    obtain ⟨Z, hZ⟩ : ∃ Z, w1.heap[W.heap.size]? = some Z := ⟨_, hB⟩
    have hZd : w1.drew.heap[W.heap.size]? = some Z := hZ
    have HZ := Lib.hid (show ∀ (o : Nat) (v : Value), w1.cell? ⟨W.heap.size, o, none⟩ = some v → ∀ w : World, w.heap[W.heap.size]? = some Z → w.cell? ⟨W.heap.size, o, none⟩ = some v from fun o v hc w hw => (World.cell?_of_block (hw.trans hZ.symm)).trans hc)
    have e0 := HZ.out 0 (.int .i64 (kd : Int)) (cob hB 0 rfl)
    have e1 := HZ.out 1 (.int .i64 (a1 : Int)) (cob hB 1 rfl)
    have e2 := HZ.out 2 (.int .i64 (a2 : Int)) (cob hB 2 rfl)
    have e3 := HZ.out 3 (.int .i64 (a3 : Int)) (cob hB 3 rfl)
    have e4 := HZ.out 4 (.int .i64 (a4 : Int)) (cob hB 4 rfl)
    have e5 := HZ.out 5 (.int .i64 (a5 : Int)) (cob hB 5 rfl)
    have e6 := HZ.out 6 (.int .i64 (a6 : Int)) (cob hB 6 rfl)
    have e7 := HZ.out 7 (.int .i64 (a7 : Int)) (cob hB 7 rfl)
    have e8 := HZ.out 8 (.bool a8) (cob hB 8 rfl)
    have e9 := HZ.out 9 (.string a9) (cob hB 9 rfl)
    have e10 := HZ.out 10 (.slice none 0 0) (cob hB 10 rfl)
    have HL1 := Lib.hid (HLg.out.frame (W' := w1.drew) fun k hk => hb1.block k (hp.lt 1 k hk))
    have hS1 : Lt (p 1) w1.drew := fun k hk => Nat.lt_of_lt_of_le (hp.lt 1 k hk) hb1.size
    have HL1' := Lib.hid (HLg.out.frame (W' := w1) fun k hk => hb1.block k (hp.lt 1 k hk))
    have hS1' : Lt (p 1) w1 := hS1
    clear hB
    go_region_held3 (fun w' => w'.heap[N]? = some Y ∧ w'.heap[W.heap.size]? = some Z)
      (first | with_reducible exact HS2 | with_reducible exact And.intro hY1 hZ | with_reducible exact And.intro hY1d hZd)
      (first | (go_at_call 101; (with_reducible refine (HAc.out w1.drew HL1.out hS1).mono ?_); rintro e w2 ⟨S1, g, rfl, hg2, hgz, hgn, hL2, hSt2⟩; have HS2 : _ ∧ _ := And.intro ((hSt2.t.block N (Nat.lt_trans hNl hz1) hd1).trans hY1d) ((hSt2.t.block W.heap.size hz1 (fun e => by have := hp.lt 1 _ e; omega)).trans hZd)))
    obtain ⟨S', hg', hA', hSt'⟩ := HFin.out w1.drew w2 S1 g hb1.drew hSt2 hL2 (Nat.le_of_lt (Nat.lt_of_lt_of_le hz1 hgz) |> fun _ => hgz) hgn
    have hgW : W.heap.size ≤ g := Nat.le_trans (Nat.le_of_lt hz1) hgz
    have HEnd := Lib.hid (show ∀ n, ∃ S' g', (Ending.returned (.tuple #[.slice none 0 0, .slice (some ⟨g, 0, none⟩) 1 1]) = .returned (.tuple #[.slice none 0 0, .slice (some ⟨g', 0, none⟩) 1 1])) ∧ (w2.drewN n).heap[g']? = some (.cells (mcells ans).toArray 133) ∧ W.heap.size ≤ g' ∧ ¬ S' g' ∧ NodeAt R (w2.drewN n) S' N s a2 D m rs' ld app cl ws dn ∧ Step S W (w2.drewN n) S' from fun n =>
      ⟨S', g, rfl, hg2, hgW, hg', hA'.frame hR (Nat.le_refl _) (fun k hk => rfl), hSt'.t.drewN n, hSt'.sub, hSt'.lt⟩)
    have hN2 := HS2.1
    have f5 := k5 w2 hN2
    have f4 := k4 w2 hN2
    have hp2 : ∀ k, p 2 k → w2.heap[k]? = W.heap[k]? := fun k hk => (hSt2.t.block k (Nat.lt_trans (hp.lt 2 k hk) hz1) (fun e => hp.dj 1 2 (by decide) k e hk)).trans (hb1.block k (hp.lt 2 k hk))
    have HPn := Lib.hid (fun n => (HP1.out (w2.drewN n) S1 (hL2.frame (W' := w2.drewN n) fun k hk => rfl)).mono (fun e w' h => (⟨h.1, h.2.symm⟩ : e = .returned (.int .i64 (pr : Int)) ∧ w' = w2.drewN n)))
    clear e0 e1 e2 e3 e4 e5 e6 e7 e8 e9 e10 HS2 hYa hY1 hY1d hZ hZd hg2 hSt2 hL2 hA' hSt' k4 k2 k5 hN2
    go_wp2
    rcases HCs.out with rfl | ⟨l, P, hl1, rfl⟩
    · go_quiet (fail)
      go_wp2
      go_ret2
      exact HEnd.out _
    · have hlb := HLs.out l hl1
      have hdl : decide (((l.b : Nat) : Int) < ((pr : Nat) : Int)) = false := by simp; omega
      have HBn := Lib.hid (fun n => (HLd.out l P hl1 rfl (w2.drewN n) hp2).mono (fun e w' h => (⟨h.1, h.2.symm⟩ : e = .returned (.int .i64 (l.b : Int)) ∧ w' = w2.drewN n)))
      go_quiet (first | (go_at_call 102; exact Calls.quiet_of_same (HPn.out _)) | (go_at_call 103; exact Calls.quiet_of_same (HBn.out _)))
      go_wp2
      go_ret2
      exact HEnd.out _
theorem napply_none (R : World → (Nat → Prop) → Nat → Prop) (hR : Framed R) (S : Nat → Prop) (N : Nat) (s : Shp) (hs : s.Ok) (me D m : Nat) (rs : List Rc) (ld : Option LdM) (app : Nat) (cl ws dn : List (Value × Value))
    (hno : ∀ l, ld = some l → l.leads = true → chosenN s.q l.es ≤ app ∧ l.es.length ≤ 64 ∧ ∀ e ∈ l.es, e.acks.length ≤ 7) (W : World) (h : NodeAt R W S N s me D m rs ld app cl ws dn) :
    Calls Tryz.prog 107 #[.pointer (some ⟨N, 0, none⟩)] W fun e W' => e = .returned (.slice none 0 0) ∧ Below W.heap.size W W' := by
  have HLe := Lib.hid (fun n => (nleads_any R S N s me D m rs ld app cl ws dn (W.drewN n) (h.frame hR (Nat.le_refl _) fun k hk => rfl)).mono (fun e w' h => (⟨h.1, h.2.symm⟩ : e = .returned (.bool (ldB ld)) ∧ w' = W.drewN n)))
  obtain ⟨p, G, LP, ST, Mw, Md, hp, hSu, h0, hN, hl, hld, _⟩ := h
  have hNl := hp.lt 0 N h0
  rcases bool_dec (ldB ld) with hb | hb
  · rw [hb] at HLe
    clear hN hl hld hno hb
    go_enter Tryz.func107, Tryz.ntmps107
    go_wp2
    refine wp_loop_rounds 1 ?_
    rw [rounds_succ]
    go_wp2
    go_quiet (first | (go_at_call 62; exact Calls.quiet_of_same (HLe.out _)))
    go_wp2
    go_ret
    exact ⟨rfl, below_drewN (Below.refl _ _)⟩
  · cases ld with
    | none => cases hb
    | some l =>
      obtain ⟨P, rfl, hL⟩ := hld
      have hlt : l.leads = true := hb
      obtain ⟨hc, h64, hac⟩ := hno l rfl hlt
      rw [hb] at HLe
      have HCh := Lib.hid (fun w hw => ldchosen_any (p 2) P s hs me l.b l.ps l.es l.leads w (hL.frame hw))
      obtain ⟨Y, hY⟩ : ∃ Y, W.heap[N]? = some Y := ⟨_, hN⟩
      have k5 : ∀ w : World, w.heap[N]? = some Y → w.cell? ⟨N, 5, none⟩ = some (.pointer (some ⟨P, 0, none⟩)) := fun w hw => cob (hw.trans (hY.symm.trans hN)) 5 rfl
      have k7 : ∀ w : World, w.heap[N]? = some Y → w.cell? ⟨N, 7, none⟩ = some (.int .i64 (app : Int)) := fun w hw => cob (hw.trans (hY.symm.trans hN)) 7 rfl
      have hdc : decide (((app : Nat) : Int) < ((chosenN s.q l.es : Nat) : Int)) = false := by simp; omega
      have HLe0 := Lib.hid (show Calls _ _ _ W _ from HLe.out 0)
      have HLe1 := Lib.hid (show Calls _ _ _ W.drew _ from HLe.out 1)
      have hYd : W.drew.heap[N]? = some Y := hY
      have hY1 : (W.drewN 1).heap[N]? = some Y := hY
      have HC0 := Lib.hid (HCh.out (W.drewN 1) (fun k hk => rfl) (hp.lt 2) h64 hac)
      clear hN hl hno hb hL
      go_enter Tryz.func107, Tryz.ntmps107
      go_wp2
      refine wp_loop_rounds 1 ?_
      rw [rounds_succ]
      go_wp2
      go_region_held3 (fun w' => w'.heap[N]? = some Y)
        (first | with_reducible exact hY | with_reducible exact hYd | with_reducible exact hY1 | with_reducible exact hY2)
        (first | (go_at_call 62; (with_reducible refine HLe1.out.mono ?_); rintro e w1 ⟨rfl, rfl⟩) | (go_at_call 143; (with_reducible refine HC0.out.mono ?_); rintro e w2 ⟨rfl, hb2⟩; have hY2 := (hb2.block N hNl).trans hYd))
      go_wp2
      go_ret
      exact ⟨rfl, ⟨hb2.os, hb2.tape, hb2.output, hb2.size, hb2.block⟩⟩
theorem NodeAt.ld_step {R : World → (Nat → Prop) → Nat → Prop} (hR : Framed R) {W W' : World} {N : Nat} {s : Shp} {me D m : Nat} {rs : List Rc} {l' : LdM} {app : Nat} {cl ws dn : List (Value × Value)} {p : Nat → Nat → Prop} {G P ST Mw Md : Nat}
    (hp : Pts p W) (h0 : p 0 N) (hN : W.heap[N]? = some (.cells (ncells s me D G (some ⟨P, 0, none⟩) (.pointer (some ⟨ST, 0, none⟩)) (.int .i64 (app : Int)) (.map (some Mw)) (.map (some Md))).toArray 150))
    (hl : LogAt W (p 1) G D m rs) (hst : StAt R W (p 3) ST cl) (h4 : p 4 Mw) (hw : MapIs W (.int .i64) Mw ws) (h5 : p 5 Md) (hd : MapIs W (.int .i64) Md dn)
    (hL' : LdAt W' (p 2) P s me l'.b l'.ps l'.es l'.leads) (ht : Turned (p 2) W W') : NodeAt R W' (uni p) N s me D m rs (some l') app cl ws dn := by
  have hk : ∀ j, j ≠ 2 → ∀ k, p j k → W'.heap[k]? = W.heap[k]? := fun j hj => hp.keeps (Step.of_turned ht (hp.lt 2)) hj
  exact ⟨p, G, some ⟨P, 0, none⟩, ST, Mw, Md, hp.wide ht.size, fun k hk => hk, h0, (hk 0 (by decide) N h0).trans hN, hl.frame (hk 1 (by decide)), ⟨P, rfl, hL'⟩, hst.frame hR (hk 3 (by decide)), h4, hw.of_block (hk 4 (by decide) _ h4), h5, hd.of_block (hk 5 (by decide) _ h5)⟩
theorem nhear_ld (R : World → (Nat → Prop) → Nat → Prop) (hR : Framed R) (S : Nat → Prop) (N : Nat) (s : Shp) (me D m : Nat) (rs : List Rc) (l l' : LdM) (app : Nat) (cl ws dn : List (Value × Value)) (a : Mg) (hk : a.kind = 2 ∨ a.kind = 4)
    (HH : ∀ S P w, LdAt w S P s me l.b l.ps l.es l.leads → Lt S w → Calls Tryz.prog 106 #[.pointer (some ⟨P, 0, none⟩), mgv a] w fun e w' => e = .returned (.slice none 0 0) ∧ LdAt w' S P s me l'.b l'.ps l'.es l'.leads ∧ Turned S w w')
    (QA : (Nat → Prop) → World → Value → World → Prop)
    (HApp : ∀ S w, NodeAt R w S N s me D m rs (some l') app cl ws dn → Lt S w → Calls Tryz.prog 107 #[.pointer (some ⟨N, 0, none⟩)] w fun e w' => ∃ v, e = .returned v ∧ QA S w v w')
    (W : World) (h : NodeAt R W S N s me D m rs (some l) app cl ws dn) :
    Calls Tryz.prog 68 #[.pointer (some ⟨N, 0, none⟩), mgv a] W fun e W' => ∃ S1 w1 v, e = .returned (.tuple #[v, .slice none 0 0]) ∧ NodeAt R w1 S1 N s me D m rs (some l') app cl ws dn ∧ Step S W w1 S1 ∧ QA S1 w1 v W' := by
  obtain ⟨p, G, LP, ST, Mw, Md, hp, hSu, h0, hN, hl, ⟨P, rfl, hL⟩, hst, h4, hw, h5, hd⟩ := h
  have hNl := hp.lt 0 N h0
  have hd2 : ¬ p 2 N := fun e => hp.dj 0 2 (by decide) N h0 e
  have HFin := Lib.hid (show ∀ (W1 W' : World), Below W.heap.size W W1 → Turned (p 2) W1 W' → LdAt W' (p 2) P s me l'.b l'.ps l'.es l'.leads → NodeAt R W' (uni p) N s me D m rs (some l') app cl ws dn ∧ Step S W W' (uni p) ∧ Lt (uni p) W' from by
    intro W1 W' hb ht hL'
    have hz := hb.size
    have hk : ∀ j k, p j k → W1.heap[k]? = W.heap[k]? := fun j k hk => hb.block k (hp.lt j k hk)
    have hp1 : Pts p W1 := hp.wide hz
    have hnode := NodeAt.ld_step hR (W := W1) (l' := l') hp1 h0 ((hk 0 N h0).trans hN) (hl.frame (hk 1)) (hst.frame hR (hk 3)) h4 (hw.of_block (hk 4 _ h4)) h5 (hd.of_block (hk 5 _ h5)) hL' ht
    have hlt : Lt (uni p) W' := (hp1.wide ht.size).uni_lt
    exact ⟨hnode, ⟨(Turned.of_below hb).next (ht.wide fun k hk _ => (⟨2, hk⟩ : uni p k)) (fun k hk => .inl (hSu k hk)), fun k hk => .inl (hSu k hk), hlt⟩, hlt⟩)
  have HHr := Lib.hid (fun w hl hS => HH (p 2) P w hl hS)
  obtain ⟨Y, hY⟩ : ∃ Y, W.heap[N]? = some Y := ⟨_, hN⟩
  have k5 : ∀ w : World, w.heap[N]? = some Y → w.cell? ⟨N, 5, none⟩ = some (.pointer (some ⟨P, 0, none⟩)) := fun w hw => cob (hw.trans (hY.symm.trans hN)) 5 rfl
  have HLd := Lib.hid hL
  have HAp := Lib.hid HApp
  have HSu := Lib.hid hSu
  clear hl hst hw hd hN HH hL HApp hSu
  obtain ⟨kd, a1, a2, a3, a4, ⟨a5, a6, a7, a8, a9⟩⟩ := a
  simp only at hk
  unfold mgv mcells at HHr ⊢
  simp only [] at HHr ⊢
  have q1 : (((kd : Nat) : Int) == 1) = false := by rcases hk with rfl | rfl <;> rfl
  have q3 : (((kd : Nat) : Int) == 3) = false := by rcases hk with rfl | rfl <;> rfl
  have q5 : (((kd : Nat) : Int) == 5) = false := by rcases hk with rfl | rfl <;> rfl
  have hYa : ∀ o, (W.alloc o).heap[N]? = some Y := fun o => (heap_alloc_old _ _ hNl).trans hY
  go_enter Tryz.func68, Tryz.ntmps68
  go_wp2
  generalize hw1 : World.alloc W _ = w1
  have hB := named_new hw1.symm
  have hb1 := named_below hw1.symm
  have hs1 : w1.heap.size = W.heap.size + 1 := named_size hw1.symm
  clear hw1
  have hY1 := (hb1.block N hNl).trans hY
  have hz1 : W.heap.size < w1.heap.size := by omega
  clear hs1
  obtain ⟨Z, hZ⟩ : ∃ Z, w1.heap[W.heap.size]? = some Z := ⟨_, hB⟩
  have HZ := Lib.hid (show ∀ (o : Nat) (v : Value), w1.cell? ⟨W.heap.size, o, none⟩ = some v → ∀ w : World, w.heap[W.heap.size]? = some Z → w.cell? ⟨W.heap.size, o, none⟩ = some v from fun o v hc w hw => (World.cell?_of_block (hw.trans hZ.symm)).trans hc)
  have e0 := HZ.out 0 (.int .i64 (kd : Int)) (cob hB 0 rfl)
  have e1 := HZ.out 1 (.int .i64 (a1 : Int)) (cob hB 1 rfl)
  have e2 := HZ.out 2 (.int .i64 (a2 : Int)) (cob hB 2 rfl)
  have e3 := HZ.out 3 (.int .i64 (a3 : Int)) (cob hB 3 rfl)
  have e4 := HZ.out 4 (.int .i64 (a4 : Int)) (cob hB 4 rfl)
  have e5 := HZ.out 5 (.int .i64 (a5 : Int)) (cob hB 5 rfl)
  have e6 := HZ.out 6 (.int .i64 (a6 : Int)) (cob hB 6 rfl)
  have e7 := HZ.out 7 (.int .i64 (a7 : Int)) (cob hB 7 rfl)
  have e8 := HZ.out 8 (.bool a8) (cob hB 8 rfl)
  have e9 := HZ.out 9 (.string a9) (cob hB 9 rfl)
  have e10 := HZ.out 10 (.slice none 0 0) (cob hB 10 rfl)
  have f0 := e0 w1 hZ
  clear hB
  go_quiet (fail)
  generalize hw2 : World.drewN w1 _ = w2
  have hh2 : ∀ k : Nat, w2.heap[k]? = w1.heap[k]? := fun k => by rw [← hw2]; rfl
  have hb2 : Below W.heap.size W w2 := by rw [← hw2]; exact below_drewN hb1
  have hz2 : w2.heap.size = w1.heap.size := by rw [← hw2]; rfl
  clear hw2
  have hY2 : w2.heap[N]? = some Y := (hh2 N).trans hY1
  have hZ2 : w2.heap[W.heap.size]? = some Z := (hh2 _).trans hZ
  have hY2d : w2.drew.heap[N]? = some Y := hY2
  have hZ2d : w2.drew.heap[W.heap.size]? = some Z := hZ2
  have hzz : W.heap.size < w2.heap.size := by omega
  have HL2 := Lib.hid (HLd.out.frame (W' := w2.drew) fun k hk => hb2.block k (hp.lt 2 k hk))
  have hS2 : Lt (p 2) w2.drew := fun k hk => Nat.lt_of_lt_of_le (hp.lt 2 k hk) hb2.size
  have f5 := k5 w2 hY2
  clear hh2 hz2 hY1 hZ f0 q1 q3 q5 hYa
  go_wp2
  clear f5
  go_region_held3 (fun w' => w'.heap[N]? = some Y ∧ w'.heap[W.heap.size]? = some Z)
    (first | with_reducible exact HS3 | with_reducible exact And.intro hY2 hZ2 | with_reducible exact And.intro hY2d hZ2d)
    (first | (go_at_call 106; (with_reducible refine (HHr.out w2.drew HL2.out hS2).mono ?_); rintro e w3 ⟨rfl, hL3, hT3⟩; have HS3 : _ ∧ _ := And.intro ((hT3.block N (Nat.lt_trans hNl hzz) hd2).trans hY2d) ((hT3.block W.heap.size hzz (fun e => by have := hp.lt 2 _ e; omega)).trans hZ2d)))
  obtain ⟨hA3, hSt3, hlt3⟩ := HFin.out w2.drew w3 hb2.drew hT3 hL3
  have HA3 := Lib.hid hA3
  have HSt3 := Lib.hid hSt3
  have HApp3 := Lib.hid (HAp.out (uni p) w3 hA3 hlt3)
  clear e0 e1 e2 e3 e4 e5 e6 e7 e8 e9 e10 HS3 hY2 hZ2 hY2d hZ2d hT3 hL3 hA3 hSt3 hlt3 k5
  go_wp2_with (first | (go_at_call 107; refine HApp3.out.mono ?_; rintro e w4 ⟨v, rfl, hQ⟩))
  go_ret2
  exact ⟨_, w3, v, rfl, HA3.out, HSt3.out, hQ⟩
structure Rp where
  e : Int
  did : Bool
  value : ByteArray
def rpcells (r : Rp) : List Value := [.int .i64 r.e, .bool r.did, .string r.value, .slice none 0 0]
def rpv (r : Rp) : Value := .agg (rpcells r).toArray
def lastv (seq : Int) (r : Rp) : Value := .agg (.int .i64 seq :: rpcells r).toArray
theorem zlast (w : World) : (zeroValue 209).run Tryz.prog w = .ok (.agg #[.int .i64 0, .int .i64 0, .bool false, .string ByteArray.empty, .slice none 0 0]) w := by kernel_rfl
theorem flast (w : World) (q e : Int) (d : Bool) (v : ByteArray) : (Instr.field 209 (.agg #[.int .i64 q, .int .i64 e, .bool d, .string v, .slice none 0 0]) 0).run Tryz.prog w = .ok (.int .i64 q) w := by kernel_rfl
theorem stlast_none (R : World → (Nat → Prop) → Nat → Prop) (S : Nat → Prop) (P : Nat) (client : Int) (W : World) (h : StAt R W S P []) :
    Calls Tryz.prog 94 #[.pointer (some ⟨P, 0, none⟩), .int .i64 client] W fun e W' => e = .returned (.int .i64 0) ∧ W = W' := by
  obtain ⟨T, M, hP, _, _, _, hM⟩ := h
  have c1 : W.cell? ⟨P, 1, none⟩ = some (.map (some M)) := cob hP 1 rfl
  have hl := hM.look_none (P := Tryz.prog) (key := .int .i64 client) Tryz.underlying211 Tryz.underlying3 rfl false (fun q hq => by cases hq) (zlast W)
  simp only [Bool.false_eq_true, if_false] at hl
  have hf := flast
  clear hP hM
  go_enter Tryz.func94, Tryz.ntmps94
  go_wp2
  go_ret
  exact ⟨rfl, rfl⟩
theorem stlast_some (R : World → (Nat → Prop) → Nat → Prop) (S : Nat → Prop) (P : Nat) (client q : Int) (r : Rp) (W : World) (h : StAt R W S P [(.int .i64 client, lastv q r)]) :
    Calls Tryz.prog 94 #[.pointer (some ⟨P, 0, none⟩), .int .i64 client] W fun e W' => e = .returned (.int .i64 q) ∧ W = W' := by
  obtain ⟨T, M, hP, _, _, _, hM⟩ := h
  obtain ⟨re, rd, rv⟩ := r
  have c1 : W.cell? ⟨P, 1, none⟩ = some (.map (some M)) := cob hP 1 rfl
  have hl := hM.look (P := Tryz.prog) (key := .int .i64 client) Tryz.underlying211 Tryz.underlying3 rfl false (v := lastv q ⟨re, rd, rv⟩) (by simp)
  simp only [Bool.false_eq_true, if_false] at hl
  unfold lastv rpcells at hl
  simp only [] at hl
  have hf := flast
  clear hP hM
  go_enter Tryz.func94, Tryz.ntmps94
  go_wp2
  go_ret
  exact ⟨rfl, rfl⟩
theorem clonec_nil (W : World) : Calls Tryz.prog 42 #[.slice none 0 0] W fun e W' => e = .returned (.slice none 0 0) ∧ W = W' := by
  have hq := fun w => Lib.run_eql_slice_nil (P := Tryz.prog) w 41 93 none 0 0 0 0 Tryz.underlying41
  go_enter Tryz.func42, Tryz.ntmps42
  go_wp2
  go_ret
  exact ⟨rfl, rfl⟩
theorem Tryz.sizeRp : (Tryz.prog.info? 43).map (·.size) = some 4 := by kernel_rfl
theorem copied_any (r : Rp) (W : World) : Calls Tryz.prog 130 #[rpv r] W fun e W' => e = .returned (rpv r) ∧ Below W.heap.size W W' := by
  have HC := Lib.hid clonec_nil
  obtain ⟨re, rd, rv⟩ := r
  unfold rpv rpcells
  simp only []
  go_enter Tryz.func130, Tryz.ntmps130
  go_wp2_with (first | (go_at_call 42; refine (HC.out _).mono ?_; rintro e w1 ⟨rfl, rfl⟩))
  refine bodyPost_ret (results_c rfl _ _ (W.heap.size + 1) _ _ (0, 0) _ rfl (two_new W _ _ rfl).2.1 Tryz.underlying43 rfl Tryz.sizeRp) rfl ⟨rfl, ?_⟩
  exact ((Below.refl _ _).alloc (Nat.le_refl _) _).alloc (by simp) _
theorem nwaiting_none (R : World → (Nat → Prop) → Nat → Prop) (S : Nat → Prop) (N : Nat) (s : Shp) (me D m : Nat) (rs : List Rc) (ld : Option LdM) (app : Nat) (cl dn : List (Value × Value)) (c : Cm) (W : World) (h : NodeAt R W S N s me D m rs ld app cl [] dn) :
    Calls Tryz.prog 96 #[.pointer (some ⟨N, 0, none⟩), cmv c] W fun e W' => e = .returned (.bool false) ∧ Below W.heap.size W W' := by
  obtain ⟨p, G, LP, ST, Mw, Md, hp, hS, h0, hN, hl, hld, hst, h4, hw, _⟩ := h
  have hNl := hp.lt 0 N h0
  have e9 : W.cell? ⟨N, 9, none⟩ = some (.map (some Mw)) := cob hN 9 rfl
  have HW := Lib.hid hw
  have hMl := hw.lt
  clear hN hl hld hst hw
  obtain ⟨x, hx⟩ : ∃ x, x = (cmcells c).toArray := ⟨_, rfl⟩
  obtain ⟨cl, sq, kind, row, col, to, at_, value, expect, has⟩ := c
  unfold cmv cmcells
  simp only []
  clear hx
  go_enter Tryz.func96, Tryz.ntmps96
  go_wp2_with (at_range; refine wpList_range_is rfl _ 147 rfl _ _ Tryz.underlying147 _ Mw _ rfl (HW.out.of_block (heap_alloc_old _ _ hMl)) ?_; rintro es clock w1 hl rfl hI)
  have hes : es = #[] := by
    have : es.toList = [] := by simpa using hl
    exact Array.toList_inj.1 (by simpa using this)
  subst hes
  refine wp_loop_rounds 1 ?_
  rw [rounds_succ]
  go_wp2_with (at_next; refine wpList_next_is rfl _ rfl _ Mw _ clock #[] rfl hI ?_ ?_)
  · intro _
    go_wp2
    go_ret
    refine ⟨rfl, ?_⟩
    exact ((Below.refl _ _).alloc (Nat.le_refl _) _).alloc (by simp) _
  · intro e he
    have := left_mem he
    simp at this
theorem nask_any (R : World → (Nat → Prop) → Nat → Prop) (hR : Framed R) (S : Nat → Prop) (N : Nat) (s : Shp) (hs : s.Ok) (me D m : Nat) (hme : me < s.n) (rs : List Rc) (l : LdM) (hl : l.leads = true) (hb1 : 1 ≤ l.b) (hb2 : l.b ≤ 2147483647) (h64 : l.es.length < 64) (app : Nat) (cl dn : List (Value × Value)) (c : Cm) (hr : rightC c = true)
    (q : Int) (hq : q < c.seq) (HLast : ∀ S P w, StAt R w S P cl → Calls Tryz.prog 94 #[.pointer (some ⟨P, 0, none⟩), .int .i64 c.client] w fun e w' => e = .returned (.int .i64 q) ∧ w = w') (W : World) (h : NodeAt R W S N s me D m rs (some l) app cl [] dn) :
    Calls Tryz.prog 63 #[.pointer (some ⟨N, 0, none⟩), cmv c] W fun e W' => ∃ (L : List Mg) (A : Option Addr) (cc : Nat) (S' : Nat → Prop) (qm : Nat), Hid (L.map absM = accL me l.b l.es.length l.b [] s.n) ∧ (∀ m ∈ L, MgOk m) ∧ e = .returned (.tuple #[.slice none 0 0, .slice A L.length cc]) ∧ OwnT mcells 133 11 W' W.heap.size A cc L ∧
      NodeAt R W' S' N s me D m rs (some ⟨l.b, l.ps, l.es ++ [⟨strN (cmdN c), l.b, qm, []⟩], true⟩) app cl [(.int .i64 (l.es.length : Nat), .agg #[.int .i64 c.client, .int .i64 c.seq])] dn ∧ Step S W W' S' := by
  have hsz : (strN (cmdN c)).size ≤ 512 := by
    rw [strN_size]
    unfold rightC at hr; simp only [Bool.and_eq_true, decide_eq_true_eq] at hr; exact hr.2
  have HPut := Lib.hid (fun w => cmdput_any c hr w)
  obtain ⟨p, G, LP, ST, Mw, Md, hp, hSu, h0, hN, hlg, ⟨P, rfl, hL⟩, hst, h4, hw, h5, hd⟩ := h
  rw [hl] at hL
  have hNl := hp.lt 0 N h0
  have HFr := Lib.hid (show ∀ w, Below W.heap.size W w → NodeAt R w (uni p) N s me D m rs (some l) app cl [] dn from fun w hb =>
    NodeAt.frame (W := W) hR ⟨p, G, some ⟨P, 0, none⟩, ST, Mw, Md, hp, fun k hk => hk, h0, hN, hlg, ⟨P, rfl, by rw [hl]; exact hL⟩, hst, h4, hw, h5, hd⟩ hb.size (fun k hk => hb.block k (hp.uni_lt k hk)))
  have HWa := Lib.hid (fun w hb => nwaiting_none R (uni p) N s me D m rs (some l) app cl dn c w (HFr.out w hb))
  have HLe := Lib.hid (fun w hb => (nleads_any R (uni p) N s me D m rs (some l) app cl [] dn w (HFr.out w hb)).mono (fun e w' h => (show e = .returned (.bool true) ∧ w = w' from ⟨by rw [h.1]; show _ = Ending.returned (.bool true); rw [show ldB (some l) = true from hl], h.2⟩)))
  have HLs := Lib.hid (fun w (hb : Below W.heap.size W w) => (HLast (p 3) ST w (hst.frame hR fun k hk => hb.block k (hp.lt 3 k hk))).mono (fun e w' h => (⟨h.1, h.2.symm⟩ : e = .returned (.int .i64 q) ∧ w' = w)))
  have HPp := Lib.hid (fun w (hb : Below W.heap.size W w) => ldpropose_any (p 2) P s hs me l.b hme hb1 hb2 l.ps l.es w (hL.frame fun k hk => hb.block k (hp.lt 2 k hk)) ((hp.lt 2).wide hb.size) h64 (strN (cmdN c)) hsz)
  obtain ⟨y, hy⟩ : ∃ y, y = strN (cmdN c) := ⟨_, rfl⟩
  rw [← hy] at HPut HPp ⊢
  obtain ⟨Y, hY⟩ : ∃ Y, W.heap[N]? = some Y := ⟨_, hN⟩
  have k5 : ∀ w : World, w.heap[N]? = some Y → w.cell? ⟨N, 5, none⟩ = some (.pointer (some ⟨P, 0, none⟩)) := fun w hw => cob (hw.trans (hY.symm.trans hN)) 5 rfl
  have k6 : ∀ w : World, w.heap[N]? = some Y → w.cell? ⟨N, 6, none⟩ = some (.pointer (some ⟨ST, 0, none⟩)) := fun w hw => cob (hw.trans (hY.symm.trans hN)) 6 rfl
  have k9 : ∀ w : World, w.heap[N]? = some Y → w.cell? ⟨N, 9, none⟩ = some (.map (some Mw)) := fun w hw => cob (hw.trans (hY.symm.trans hN)) 9 rfl
  have HN := Lib.hid hN
  have HG := Lib.hid hlg
  have HSt := Lib.hid hst
  have HW := Lib.hid hw
  have HD := Lib.hid hd
  have HSu := Lib.hid hSu
  clear hN hlg hL hst hw hd hSu hy hl hr HLast hsz
  obtain ⟨cl0, sq, kind, row, col, to, at_, value, expect, has⟩ := c
  simp only at hq
  have d1 : (q == sq) = false := by rw [beq_eq_false_iff_ne]; omega
  have d2 : decide (sq < q) = false := by simp; omega
  unfold cmv cmcells at HPut HWa ⊢
  simp only [] at HPut HWa HLs ⊢
  go_enter Tryz.func63, Tryz.ntmps63
  go_wp2_with fail
  generalize hw1 : World.alloc W _ = w1
  have hB := named_new hw1.symm
  have hb1 := named_below hw1.symm
  have hz1 : W.heap.size < w1.heap.size := by rw [named_size hw1.symm]; omega
  clear hw1
  refine (HPut.out w1).mono ?_
  rintro e w2 ⟨rfl, hb2⟩
  have hB2 : Below W.heap.size W w2 := hb1.trans (hb2.mono (by omega))
  have hBx := (hb2.block W.heap.size hz1).trans hB
  have hz2 : W.heap.size < w2.heap.size := Nat.lt_of_lt_of_le hz1 hb2.size
  obtain ⟨Z, hZ2⟩ : ∃ Z, w2.heap[W.heap.size]? = some Z := ⟨_, hBx⟩
  have HZ := Lib.hid (show ∀ (o : Nat) (v : Value), w2.cell? ⟨W.heap.size, o, none⟩ = some v → ∀ w : World, w.heap[W.heap.size]? = some Z → w.cell? ⟨W.heap.size, o, none⟩ = some v from fun o v hc w hw => (World.cell?_of_block (hw.trans hZ2.symm)).trans hc)
  have e0 := HZ.out 0 (.int .i64 cl0) (cob hBx 0 rfl)
  have e1 := HZ.out 1 (.int .i64 sq) (cob hBx 1 rfl)
  have e2 := HZ.out 2 (.int .i64 kind) (cob hBx 2 rfl)
  have e3 := HZ.out 3 (.string row) (cob hBx 3 rfl)
  have e4 := HZ.out 4 (.string col) (cob hBx 4 rfl)
  have e5 := HZ.out 5 (.string to) (cob hBx 5 rfl)
  have e6 := HZ.out 6 (.int .i64 at_) (cob hBx 6 rfl)
  have e7 := HZ.out 7 (.string value) (cob hBx 7 rfl)
  have e8 := HZ.out 8 (.string expect) (cob hBx 8 rfl)
  have e9 := HZ.out 9 (.bool has) (cob hBx 9 rfl)
  have hY2 := (hB2.block N hNl).trans hY
  clear hB hb1 hb2 hBx hz1
  have g0 := e0 w2 hZ2
  have g1 := e1 w2 hZ2
  have g6 := k6 w2 hY2
  have HLs2 := Lib.hid (fun n => HLs.out (w2.drewN n) (below_drewN hB2))
  go_wp2_with (first | (go_at_call 62; refine (HLe.out w2 hB2).mono ?_; rintro e w2' ⟨rfl, rfl⟩))
  go_quiet (first | (go_at_call 94; exact Calls.quiet_of_same (HLs2.out _)))
  generalize hw3 : World.drewN w2 _ = w3
  have hB3 : Below W.heap.size W w3 := by rw [← hw3]; exact below_drewN hB2
  have hY3 : w3.heap[N]? = some Y := by rw [← hw3]; exact hY2
  have hZ3 : w3.heap[W.heap.size]? = some Z := by rw [← hw3]; exact hZ2
  have hz3 : W.heap.size < w3.heap.size := by rw [← hw3]; exact hz2
  clear hw3 g0 g1 g6 HLs2
  have g0 := e0 w3 hZ3
  have g1 := e1 w3 hZ3
  have g6 := k6 w3 hY3
  have HLs3 := Lib.hid (fun n => HLs.out (w3.drewN n) (below_drewN hB3))
  go_wp2
  go_quiet (first | (go_at_call 94; exact Calls.quiet_of_same (HLs3.out _)))
  generalize hw4 : World.drewN w3 _ = w4
  have hB4 : Below W.heap.size W w4 := by rw [← hw4]; exact below_drewN hB3
  have hY4 : w4.heap[N]? = some Y := by rw [← hw4]; exact hY3
  have hZ4 : w4.heap[W.heap.size]? = some Z := by rw [← hw4]; exact hZ3
  have hz4 : W.heap.size < w4.heap.size := by rw [← hw4]; exact hz3
  clear hw4 g0 g1 g6 HLs3
  have g0 := e0 w4 hZ4
  have g1 := e1 w4 hZ4
  have g6 := k6 w4 hY4
  have HLs4 := Lib.hid (fun n => HLs.out (w4.drewN n) (below_drewN hB4))
  have HWa4 := Lib.hid (HWa.out w4 hB4)
  have x0 := e0 w4 hZ4
  have x1 := e1 w4 hZ4
  have x2 := e2 w4 hZ4
  have x3 := e3 w4 hZ4
  have x4 := e4 w4 hZ4
  have x5 := e5 w4 hZ4
  have x6 := e6 w4 hZ4
  have x7 := e7 w4 hZ4
  have x8 := e8 w4 hZ4
  have x9 := e9 w4 hZ4
  go_wp2_with fail
  refine HWa4.out.mono ?_
  rintro e w5 ⟨rfl, hb5⟩
  clear g0 g1 g6 x0 x1 x2 x3 x4 x5 x6 x7 x8 x9 HLs4
  have hB5 : Below W.heap.size W w5 := hB4.trans (hb5.mono hB4.size)
  have hY5 := (hb5.block N (by have := hB4.size; omega)).trans hY4
  have hZ5 := (hb5.block W.heap.size hz4).trans hZ4
  have hz5 : W.heap.size < w5.heap.size := Nat.lt_of_lt_of_le hz4 hb5.size
  have g5 := k5 w5 hY5
  have HPp5 := Lib.hid (HPp.out w5 hB5)
  clear hB2 hB3 hY2 hY3 hY4 hZ3 hZ4 hb5
  go_wp2_with fail
  refine HPp5.out.mono ?_
  rintro e w6 ⟨L, A, cc, S2, qm, HL, hLm, rfl, hO6, hL6, hS6⟩
  have hd2 : ¬ p 2 N := fun e => hp.dj 0 2 (by decide) N h0 e
  have hY6 := (hS6.t.block N (Nat.lt_trans hNl hz5) hd2).trans hY5
  have hZ6 := (hS6.t.block W.heap.size hz5 (fun e => by have := hp.lt 2 _ e; omega)).trans hZ5
  clear g5 hY5 hZ5
  have hMl := hp.lt 4 Mw h4
  have hm2 : ¬ p 2 Mw := fun e => hp.dj 4 2 (by decide) Mw h4 e
  have hMN : Mw ≠ N := fun e => hp.dj 4 0 (by decide) Mw h4 (e ▸ h0)
  have hM6 := HW.out.of_block ((hS6.t.block Mw (Nat.lt_trans hMl hz5) hm2).trans (hB5.block Mw hMl))
  have hz6 : w5.heap.size ≤ w6.heap.size := hS6.t.size
  obtain ⟨w7, hst7, hM7, hg7, hz7⟩ := (hM6.of_block (w' := w6.drew) rfl).store_new (P := Tryz.prog) (key := .int .i64 (l.es.length : Nat)) Tryz.underlying147 Tryz.underlying3 rfl (fun x hx => by cases hx) (.agg #[.int .i64 cl0, .int .i64 sq])
  have hY6d : w6.drew.heap[N]? = some Y := hY6
  have hZ6d : w6.drew.heap[W.heap.size]? = some Z := hZ6
  have hY7 : w7.heap[N]? = some Y := (hg7.block N (by rw [drew_size]; omega) (fun e => hMN (by injection e with e; exact e.symm))).trans hY6d
  have hZ7 : w7.heap[W.heap.size]? = some Z := (hg7.block W.heap.size (by rw [drew_size]; omega) (fun e => by injection e with e; omega)).trans hZ6d
  have HM7 := Lib.hid hM7
  have HL6 := Lib.hid hL6
  have HO6 := Lib.hid hO6
  clear hM7 hL6 hO6 hM6
  go_wp2
  go_region_held3 (fun w' => w'.heap[N]? = some Y ∧ w'.heap[W.heap.size]? = some Z)
    (first | with_reducible exact And.intro hY6 hZ6 | with_reducible exact And.intro hY6d hZ6d | with_reducible exact And.intro hY7 hZ7)
    (fail)
  go_wp2
  go_ret2
  have hp5 : Pts p w5 := hp.wide hB5.size
  have hp6 := hp5.step hS6
  have hu6 := hp5.uni_step hS6
  have hk7 : ∀ k, k < w6.heap.size → k ≠ Mw → w7.heap[k]? = w6.heap[k]? := fun k hk hn => hg7.block k (by rw [drew_size]; exact hk) (fun e => hn (by injection e))
  have hlt6 : ∀ j k, upd p 2 S2 j k → k < w6.heap.size := fun j k h => hp6.lt j k h
  have hkp : ∀ j, j ≠ 4 → ∀ k, upd p 2 S2 j k → w7.heap[k]? = w6.heap[k]? := fun j hj k hk => hk7 k (hlt6 j k hk) (fun e => hp6.dj j 4 hj k hk (by rw [upd_other p _ (by decide)]; exact e ▸ h4))
  have hk6 : ∀ j, j ≠ 2 → ∀ k, p j k → w6.heap[k]? = W.heap[k]? := fun j hj k hk => (hp5.keeps hS6 hj k hk).trans (hB5.block k (hp.lt j k hk))
  have hz76 : w7.heap.size = w6.heap.size := by rw [hz7, drew_size]
  refine ⟨L, A, cc, uni (upd p 2 S2), qm, HL, hLm, rfl, ?_, ⟨upd p 2 S2, G, some ⟨P, 0, none⟩, ST, Mw, Md, hp6.wide (by omega), fun k hk => hk, by rw [upd_other p _ (by decide)]; exact h0, hY7.trans (hY.symm.trans HN.out), ?_, ⟨P, rfl, ?_⟩, ?_, by rw [upd_other p _ (by decide)]; exact h4, HM7.out, by rw [upd_other p _ (by decide)]; exact h5, ?_⟩, ?_, ?_, ?_⟩
  · refine (HO6.out.of_block (fun k hk => hk7 k (HO6.out.lt k hk).2 (fun e => ?_))).low hB5.size
    have := (HO6.out.lt k hk).1
    omega
  · rw [upd_other p _ (by decide)]
    exact HG.out.frame fun k hk => (hkp 1 (by decide) k (by rw [upd_other p _ (by decide)]; exact hk)).trans (hk6 1 (by decide) k hk)
  · rw [upd_same]
    exact HL6.out.frame fun k hk => hkp 2 (by decide) k (by rw [upd_same]; exact hk)
  · rw [upd_other p _ (by decide)]
    exact HSt.out.frame hR fun k hk => (hkp 3 (by decide) k (by rw [upd_other p _ (by decide)]; exact hk)).trans (hk6 3 (by decide) k hk)
  · exact HD.out.of_block ((hkp 5 (by decide) Md (by rw [upd_other p _ (by decide)]; exact h5)).trans (hk6 5 (by decide) Md h5))
  · have t6 : Turned S W w6 := (Turned.of_below hB5).next hu6.t fun k hk => .inl (HSu.out k hk)
    exact (t6.drew).grown hg7 fun k hk => .inl (HSu.out k ⟨4, by injection hk with hk; exact hk ▸ h4⟩)
  · intro k hk
    rcases hu6.sub k hk with h | h
    · exact .inl (HSu.out k h)
    · exact .inr (Nat.le_trans (Nat.le_of_lt hz5) h)
  · intro k hk
    have := hu6.lt k hk
    omega
end Go.Proofs.YtoigogjmhkpdlaaGreat
