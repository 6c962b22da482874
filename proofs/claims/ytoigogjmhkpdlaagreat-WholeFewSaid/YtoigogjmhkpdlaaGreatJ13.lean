/- A part of the proof of WholeFew: the texts NetF, NetG, NetH. -/
import Derived.Test.YtoigogjmhkpdlaaGreatJ12
set_option maxHeartbeats 6400000
set_option maxRecDepth 100000
namespace Go.Proofs.YtoigogjmhkpdlaaGreat
open Go.RowKit
def PlAt (W : World) (S : Nat → Prop) (G nx : Nat) (l : List Pk) : Prop :=
  ∃ A c, W.heap[G]? = some (.cells #[.slice A l.length c, .int .i64 (nx : Int)] 154) ∧ PkRow W 0 A c l ∧ S G ∧ (∀ k, blk A = some k → S k) ∧ blk A ≠ some G
theorem PlAt.mono {W : World} {S S2 : Nat → Prop} {G nx : Nat} {l : List Pk} (h : PlAt W S G nx l) (hs : ∀ k, S k → k < W.heap.size → S2 k) : PlAt W S2 G nx l := by
  obtain ⟨A, c, hG, hO, sG, sA, hn⟩ := h
  exact ⟨A, c, hG, hO, hs G sG (Array.getElem?_eq_some_iff.1 hG).1, fun k hk => hs k (sA k hk) (hO.lt k hk).2, hn⟩
theorem PlAt.frame {W W' : World} {S : Nat → Prop} {G nx : Nat} {l : List Pk} (h : PlAt W S G nx l) (hb : ∀ k, S k → W'.heap[k]? = W.heap[k]?) : PlAt W' S G nx l := by
  obtain ⟨A, c, hG, hO, sG, sA, hn⟩ := h
  exact ⟨A, c, (hb G sG).trans hG, hO.of_block fun k hk => hb k (sA k hk), sG, sA, hn⟩
def lessB (p q : Pk) : Bool := decide (befI p q < 0)
def hpv (G : Nat) : Value := .iface 184 (.pointer (some ⟨G, 0, none⟩))
theorem load_sl {w : World} {G : Nat} {A : Option Addr} {n c : Nat} (h : w.cell? ⟨G, 0, none⟩ = some (.slice A n c)) : (loadVar 152 ⟨G, 0, none⟩).run Tryz.prog w = .ok (.slice A n c) w := by
  have ha : (isAgg 152).run Tryz.prog w = .ok false w := by kernel_rfl
  simp [loadVar, Sem.run_bind, ha, h]
theorem m_len {w : World} {G : Nat} {A : Option Addr} {n c : Nat} (h : w.cell? ⟨G, 0, none⟩ = some (.slice A n c)) : (method 564 184 (.pointer (some ⟨G, 0, none⟩)) "Len").run Tryz.prog w = .ok (360, .slice A n c) w := by
  have e : (method 564 184 (.pointer (some ⟨G, 0, none⟩)) "Len").run Tryz.prog w = (do let v ← loadVar 152 ⟨G, 0, none⟩; pure (360, v) : Sem (FuncId × Value)).run Tryz.prog w := by kernel_rfl
  rw [e, Sem.run_bind, load_sl h]
  rfl
theorem m_less {w : World} {G : Nat} {A : Option Addr} {n c : Nat} (h : w.cell? ⟨G, 0, none⟩ = some (.slice A n c)) : (method 564 184 (.pointer (some ⟨G, 0, none⟩)) "Less").run Tryz.prog w = .ok (361, .slice A n c) w := by
  have e : (method 564 184 (.pointer (some ⟨G, 0, none⟩)) "Less").run Tryz.prog w = (do let v ← loadVar 152 ⟨G, 0, none⟩; pure (361, v) : Sem (FuncId × Value)).run Tryz.prog w := by kernel_rfl
  rw [e, Sem.run_bind, load_sl h]
  rfl
theorem m_swap {w : World} {G : Nat} {A : Option Addr} {n c : Nat} (h : w.cell? ⟨G, 0, none⟩ = some (.slice A n c)) : (method 564 184 (.pointer (some ⟨G, 0, none⟩)) "Swap").run Tryz.prog w = .ok (362, .slice A n c) w := by
  have e : (method 564 184 (.pointer (some ⟨G, 0, none⟩)) "Swap").run Tryz.prog w = (do let v ← loadVar 152 ⟨G, 0, none⟩; pure (362, v) : Sem (FuncId × Value)).run Tryz.prog w := by kernel_rfl
  rw [e, Sem.run_bind, load_sl h]
  rfl
theorem m_push (w : World) (G : Nat) : (method 564 184 (.pointer (some ⟨G, 0, none⟩)) "Push").run Tryz.prog w = .ok (364, .pointer (some ⟨G, 0, none⟩)) w := by kernel_rfl
theorem m_pop (w : World) (G : Nat) : (method 564 184 (.pointer (some ⟨G, 0, none⟩)) "Pop").run Tryz.prog w = .ok (363, .pointer (some ⟨G, 0, none⟩)) w := by kernel_rfl
theorem hup_any (S : Nat → Prop) (G nx : Nat) (l : List Pk) (j : Nat) (hj : j < l.length) (hlen : l.length ≤ 600) (hup : ∀ p q, l[j]? = some p → l[(j - 1) / 2]? = some q → (j - 1) / 2 ≠ j → lessB p q = false) (W : World) (h : PlAt W S G nx l) :
    Calls Tryz.prog 151 #[hpv G, .int .i64 (j : Int)] W fun e W' => e = .returned (.tuple #[]) ∧ Below W.heap.size W W' := by
  obtain ⟨A, c, hG, hO, sG, sA, hAG⟩ := h
  unfold hpv
  by_cases h0 : j = 0
  · subst h0
    go_enter Tryz.func151, Tryz.ntmps151
    go_wp2
    refine wp_loop_rounds 1 ?_
    rw [rounds_succ]
    go_wp2
    go_end0
    exact ⟨rfl, Below.refl _ _⟩
  · obtain ⟨i, hi⟩ : ∃ i, i = (j - 1) / 2 := ⟨_, rfl⟩
    have hij : i < j := by omega
    have hdiv : (((j : Nat) : Int) - 1) / 2 = ((i : Nat) : Int) := by omega
    have heq : (((i : Nat) : Int) == ((j : Nat) : Int)) = false := by simp; omega
    have hm := m_less (cob hG 0 rfl)
    obtain ⟨p, hp⟩ : ∃ p, l[j]? = some p := ⟨_, List.getElem?_eq_getElem hj⟩
    obtain ⟨q, hq⟩ : ∃ q, l[i]? = some q := ⟨_, List.getElem?_eq_getElem (by omega)⟩
    have hno := hup p q hp (by rw [← hi]; exact hq) (by omega)
    have Hless := Lib.hid (pkless_any 0 A c l j i p q hp hq W hO)
    have Hno := Lib.hid (show decide (befI p q < 0) = false from hno)
    clear hup hp hq hi hG hO hno
    go_enter Tryz.func151, Tryz.ntmps151
    go_wp2
    refine wp_loop_rounds 1 ?_
    rw [rounds_succ]
    go_wp2_with (first | (go_at_call 361; refine Hless.out.mono ?_; rintro e w1 ⟨rfl, hb1⟩; rw [Hno.out]))
    go_end0
    exact ⟨rfl, hb1⟩
section
variable {α : Type}
def ltG (less : α → α → Bool) (l : List α) (a b : Nat) : Bool := match l[a]?, l[b]? with | some x, some y => less x y | _, _ => false
def pickG (less : α → α → Bool) (n : Nat) (l : List α) (i : Nat) : Nat := if (decide (2 * i + 2 < n) && ltG less l (2 * i + 2) (2 * i + 1)) = true then 2 * i + 2 else 2 * i + 1
def swapG (l : List α) (i j : Nat) : List α := match l[i]?, l[j]? with | some p, some q => (l.set i q).set j p | _, _ => l
def downG (less : α → α → Bool) (n : Nat) : Nat → List α → Nat → List α
  | 0, l, _ => l
  | f + 1, l, i => if n ≤ 2 * i + 1 then l else if ltG less l (pickG less n l i) i = true then downG less n f (swapG l i (pickG less n l i)) (pickG less n l i) else l
theorem pickG_gt {less : α → α → Bool} {n : Nat} {l : List α} {i : Nat} : i < pickG less n l i := by unfold pickG; split <;> omega
theorem downG_fuel {less : α → α → Bool} {n : Nat} : ∀ {f f' : Nat} {l : List α} {i : Nat}, n - i ≤ f → n - i ≤ f' → downG less n f l i = downG less n f' l i
  | 0, f', l, i, h, _ => by
    cases f' with
    | zero => rfl
    | succ f' => rw [downG, downG, if_pos (by omega)]
  | f + 1, 0, l, i, _, h => by rw [downG, downG, if_pos (by omega)]
  | f + 1, f' + 1, l, i, h, h' => by
    rw [downG, downG]
    split
    · rfl
    · rename_i hn
      have := pickG_gt (less := less) (n := n) (l := l) (i := i)
      split
      · exact downG_fuel (by omega) (by omega)
      · rfl
theorem downG_step {less : α → α → Bool} {n : Nat} {l : List α} {i j : Nat} (h : 2 * i + 1 < n) (hp : pickG less n l i = j) (hl : ltG less l j i = true) : downG less n n l i = downG less n n (swapG l i j) j := by
  rw [downG_fuel (f := n) (f' := n + 1) (by omega) (by omega), downG, if_neg (by omega), hp, if_pos hl]
theorem downG_stop {less : α → α → Bool} {n : Nat} {l : List α} {i j : Nat} (h : 2 * i + 1 < n) (hp : pickG less n l i = j) (hl : ltG less l j i = false) : downG less n n l i = l := by
  rw [downG_fuel (f := n) (f' := n + 1) (by omega) (by omega), downG, if_neg (by omega), hp, hl]
  rfl
theorem downG_end {less : α → α → Bool} {n : Nat} {l : List α} {i : Nat} (h : n ≤ 2 * i + 1) : downG less n n l i = l := by
  rw [downG_fuel (f := n) (f' := n + 1) (by omega) (by omega), downG, if_pos h]
end
theorem hdown_any (S : Nat → Prop) (G nx : Nat) (l : List Pk) (n : Nat) (hn : n ≤ l.length) (hlen6 : l.length ≤ 600) (W : World) (h : PlAt W S G nx l) :
    Calls Tryz.prog 135 #[hpv G, .int .i64 0, .int .i64 (n : Int)] W fun e W' => (∃ b, e = .returned (.bool b)) ∧ PlAt W' S G nx (downG lessB n n l 0) ∧ (downG lessB n n l 0).length = l.length ∧ Turned S W W' := by
  unfold hpv
  have HP := Lib.hid h
  clear h
  go_enter Tryz.func135, Tryz.ntmps135
  go_wp2
  go_loopw [7] (fun iv wr => ∃ (i : Nat) (l' : List Pk), iv = .int .i64 i ∧ i ≤ n ∧ l'.length = l.length ∧ PlAt wr S G nx l' ∧ Turned S W wr ∧ Hid (downG lessB n n l 0 = downG lessB n n l' i)) (fun iv _ => n - (intOf iv).toNat)
  case atStart => exact ⟨0, l, rfl, Nat.zero_le _, rfl, HP.out, Turned.refl _ _, Lib.hid rfl⟩
  case round =>
    obtain ⟨i, l', rfl, hin, hlen, hP, hT, Hf⟩ := hrel
    have Hlen := Lib.hid hlen
    have hnl : n ≤ l'.length := by omega
    have hl6 : l'.length ≤ 600 := by omega
    clear hlen
    obtain ⟨A, c, hG, hO, sG, sA, hAG⟩ := hP
    have hGl := (Array.getElem?_eq_some_iff.1 hG).1
    have hsw0 : W.heap.size ≤ wr.heap.size := hT.size
    have HG := Lib.hid hG
    have HEnd := Lib.hid (show ∀ (b : Bool) (w : World), Below wr.heap.size wr w → downG lessB n n l' i = l' → ((∃ b', Ending.returned (.bool b) = .returned (.bool b')) ∧ PlAt w S G nx (downG lessB n n l 0) ∧ (downG lessB n n l 0).length = l.length ∧ Turned S W w) from
      fun b w hB hd => ⟨⟨b, rfl⟩, by rw [Hf.out, hd]; exact ⟨A, c, (hB.block G hGl).trans hG, hO.below hB (Nat.le_refl _), sG, sA, hAG⟩, by rw [Hf.out, hd]; exact Hlen.out, hT.below hB hsw0⟩)
    have HC := Lib.hid (show ∀ w, Below wr.heap.size wr w → w.cell? ⟨G, 0, none⟩ = some (.slice A l'.length c) from fun w hB => cob ((hB.block G hGl).trans hG) 0 rfl)
    have HLess := Lib.hid (show ∀ w, Below wr.heap.size wr w → ∀ a b p q, l'[a]? = some p → l'[b]? = some q → _ from fun w hB a b p q hp hq => pkless_any 0 A c l' a b p q hp hq w (hO.below hB (Nat.le_refl _)))
    have hm := m_less (HC.out wr (Below.refl _ _))
    obtain ⟨j1, hj1⟩ : ∃ j, j = 2 * i + 1 := ⟨_, rfl⟩
    have Hc1 := Lib.hid (show (2 : Int) * ((i : Nat) : Int) + 1 = ((j1 : Nat) : Int) by omega)
    by_cases hend : n ≤ j1
    · have hd1 : decide (((n : Nat) : Int) ≤ 2 * ((i : Nat) : Int) + 1) = true := by simp; omega
      have Hd := Lib.hid (downG_end (less := lessB) (l := l') (show n ≤ 2 * i + 1 by omega))
      clear hO hG
      go_wp2
      go_ret
      exact HEnd.out _ wr (Below.refl _ _) Hd.out
    · have hd1 : decide (((n : Nat) : Int) ≤ 2 * ((i : Nat) : Int) + 1) = false := by simp; omega
      have hd0 : decide (2 * ((i : Nat) : Int) + 1 < 0) = false := by simp; omega
      obtain ⟨j2, hj2⟩ : ∃ j, j = j1 + 1 := ⟨_, rfl⟩
      have Hc2 := Lib.hid (show (2 : Int) * ((i : Nat) : Int) + 1 + 1 = ((j2 : Nat) : Int) by omega)
      obtain ⟨pi, hpi⟩ : ∃ p, l'[i]? = some p := ⟨_, List.getElem?_eq_getElem (by omega)⟩
      obtain ⟨p1, hp1⟩ : ∃ p, l'[j1]? = some p := ⟨_, List.getElem?_eq_getElem (by omega)⟩
      have HSwap := Lib.hid (show ∀ w, Below wr.heap.size wr w → ∀ j p, l'[j]? = some p → i ≠ j → _ from fun w hB j p hp hij => pkswap_any 0 A c l' i j pi p hpi hp hij w (hO.below hB (Nat.le_refl _)))
      clear hO hG
      by_cases hj2n : j2 < n
      · obtain ⟨p2, hp2⟩ : ∃ p, l'[j2]? = some p := ⟨_, List.getElem?_eq_getElem (by omega)⟩
        have hd2 : decide (2 * ((i : Nat) : Int) + 1 + 1 < ((n : Nat) : Int)) = true := by simp; omega
        by_cases hless1 : lessB p2 p1 = true
        · have Hb1 := Lib.hid (show decide (befI p2 p1 < 0) = true from hless1)
          have hpick : pickG lessB n l' i = j2 := by
            unfold pickG ltG
            rw [hj1.symm, show 2 * i + 2 = j2 by omega, hp1, hp2]
            simp only []
            rw [if_pos]
            simp; exact ⟨hj2n, hless1⟩
          by_cases hless2 : lessB p2 pi = true
          · have Hb2 := Lib.hid (show decide (befI p2 pi < 0) = true from hless2)
            have Hd := Lib.hid (downG_step (less := lessB) (n := n) (l := l') (i := i) (j := j2) (by omega) hpick (by unfold ltG; rw [hp2, hpi]; exact hless2))
            have hsw : swapG l' i j2 = (l'.set i p2).set j2 pi := by unfold swapG; rw [hpi, hp2]
            rw [hsw] at Hd
            clear hpick hless2 hsw
            go_wp2_with (first | (have _ := hB2; go_at_call 362; (try rw [Hc2.out]); (try rw [Hc1.out]); refine (HSwap.out w2 hB2 j2 p2 hp2 (by omega)).mono ?_; rintro e w3 ⟨rfl, hO3, hg3, hs3⟩) | (have _ := hB1; go_at_call 361; (try rw [Hc2.out]); (try rw [Hc1.out]); refine (HLess.out w1 hB1 j2 i p2 pi hp2 hpi).mono ?_; rintro e w2 ⟨rfl, hb2⟩; have hB2 := below_next hB1 hb2; rw [Hb2.out]; have hmS2 := m_swap (HC.out w2 hB2)) | (go_at_call 361; (try rw [Hc2.out]); (try rw [Hc1.out]); refine (HLess.out wr (Below.refl _ _) j2 j1 p2 p1 hp2 hp1).mono ?_; rintro e w1 ⟨rfl, hB1⟩; rw [Hb1.out]; have hmL1 := m_less (HC.out w1 hB1)))
            have hP3 : PlAt w3 S G nx ((l'.set i p2).set j2 pi) := ⟨A, c, by rw [List.length_set, List.length_set]; exact (hg3.block G (by have := hB2.size; omega) (fun e => hAG e.symm)).trans ((hB2.block G hGl).trans HG.out), hO3, sG, sA, hAG⟩
            have hT3 : Turned S W w3 := (hT.below hB2 hsw0).grown hg3 (fun k hk => .inl (sA k hk))
            go_roundw
            case rel => exact ⟨j2, _, by go_num, by omega, by rw [List.length_set, List.length_set]; exact Hlen.out, hP3, hT3, Lib.hid (by rw [Hf.out, Hd.out])⟩
            case measure => simp [intOf]; omega
          · have Hb2 := Lib.hid (show decide (befI p2 pi < 0) = false from (by simpa [lessB] using hless2))
            have Hd := Lib.hid (downG_stop (less := lessB) (n := n) (l := l') (i := i) (j := j2) (by omega) hpick (by unfold ltG; rw [hp2, hpi]; simpa using hless2))
            clear hpick hless2
            go_wp2_with (first | (have _ := hB1; go_at_call 361; (try rw [Hc2.out]); (try rw [Hc1.out]); refine (HLess.out w1 hB1 j2 i p2 pi hp2 hpi).mono ?_; rintro e w2 ⟨rfl, hb2⟩; have hB2 := below_next hB1 hb2; rw [Hb2.out]; have hmS2 := m_swap (HC.out w2 hB2)) | (go_at_call 361; (try rw [Hc2.out]); (try rw [Hc1.out]); refine (HLess.out wr (Below.refl _ _) j2 j1 p2 p1 hp2 hp1).mono ?_; rintro e w1 ⟨rfl, hB1⟩; rw [Hb1.out]; have hmL1 := m_less (HC.out w1 hB1)))
            go_ret
            exact HEnd.out _ w2 hB2 Hd.out
        · have Hb1 := Lib.hid (show decide (befI p2 p1 < 0) = false from (by simpa [lessB] using hless1))
          have hpick : pickG lessB n l' i = j1 := by
            unfold pickG ltG
            rw [hj1.symm, show 2 * i + 2 = j2 by omega, hp1, hp2]
            simp only []
            rw [if_neg]
            simp; intro _; simpa using hless1
          by_cases hless2 : lessB p1 pi = true
          · have Hb2 := Lib.hid (show decide (befI p1 pi < 0) = true from hless2)
            have Hd := Lib.hid (downG_step (less := lessB) (n := n) (l := l') (i := i) (j := j1) (by omega) hpick (by unfold ltG; rw [hp1, hpi]; exact hless2))
            have hsw : swapG l' i j1 = (l'.set i p1).set j1 pi := by unfold swapG; rw [hpi, hp1]
            rw [hsw] at Hd
            clear hpick hless2 hsw
            go_wp2_with (first | (have _ := hB2; go_at_call 362; (try rw [Hc2.out]); (try rw [Hc1.out]); refine (HSwap.out w2 hB2 j1 p1 hp1 (by omega)).mono ?_; rintro e w3 ⟨rfl, hO3, hg3, hs3⟩) | (have _ := hB1; go_at_call 361; (try rw [Hc2.out]); (try rw [Hc1.out]); refine (HLess.out w1 hB1 j1 i p1 pi hp1 hpi).mono ?_; rintro e w2 ⟨rfl, hb2⟩; have hB2 := below_next hB1 hb2; rw [Hb2.out]; have hmS2 := m_swap (HC.out w2 hB2)) | (go_at_call 361; (try rw [Hc2.out]); (try rw [Hc1.out]); refine (HLess.out wr (Below.refl _ _) j2 j1 p2 p1 hp2 hp1).mono ?_; rintro e w1 ⟨rfl, hB1⟩; rw [Hb1.out]; have hmL1 := m_less (HC.out w1 hB1)))
            have hP3 : PlAt w3 S G nx ((l'.set i p1).set j1 pi) := ⟨A, c, by rw [List.length_set, List.length_set]; exact (hg3.block G (by have := hB2.size; omega) (fun e => hAG e.symm)).trans ((hB2.block G hGl).trans HG.out), hO3, sG, sA, hAG⟩
            have hT3 : Turned S W w3 := (hT.below hB2 hsw0).grown hg3 (fun k hk => .inl (sA k hk))
            go_roundw
            case rel => exact ⟨j1, _, by go_num, by omega, by rw [List.length_set, List.length_set]; exact Hlen.out, hP3, hT3, Lib.hid (by rw [Hf.out, Hd.out])⟩
            case measure => simp [intOf]; omega
          · have Hb2 := Lib.hid (show decide (befI p1 pi < 0) = false from (by simpa [lessB] using hless2))
            have Hd := Lib.hid (downG_stop (less := lessB) (n := n) (l := l') (i := i) (j := j1) (by omega) hpick (by unfold ltG; rw [hp1, hpi]; simpa using hless2))
            clear hpick hless2
            go_wp2_with (first | (have _ := hB1; go_at_call 361; (try rw [Hc2.out]); (try rw [Hc1.out]); refine (HLess.out w1 hB1 j1 i p1 pi hp1 hpi).mono ?_; rintro e w2 ⟨rfl, hb2⟩; have hB2 := below_next hB1 hb2; rw [Hb2.out]; have hmS2 := m_swap (HC.out w2 hB2)) | (go_at_call 361; (try rw [Hc2.out]); (try rw [Hc1.out]); refine (HLess.out wr (Below.refl _ _) j2 j1 p2 p1 hp2 hp1).mono ?_; rintro e w1 ⟨rfl, hB1⟩; rw [Hb1.out]; have hmL1 := m_less (HC.out w1 hB1)))
            go_ret
            exact HEnd.out _ w2 hB2 Hd.out
      · have hd2 : decide (2 * ((i : Nat) : Int) + 1 + 1 < ((n : Nat) : Int)) = false := by simp; omega
        have hpick : pickG lessB n l' i = j1 := by
          unfold pickG ltG
          rw [hj1.symm, show 2 * i + 2 = j2 by omega, hp1]
          rw [if_neg]
          intro h
          exact hj2n (by simp at h; exact h.1)
        by_cases hless2 : lessB p1 pi = true
        · have Hb2 := Lib.hid (show decide (befI p1 pi < 0) = true from hless2)
          have Hd := Lib.hid (downG_step (less := lessB) (n := n) (l := l') (i := i) (j := j1) (by omega) hpick (by unfold ltG; rw [hp1, hpi]; exact hless2))
          have hsw : swapG l' i j1 = (l'.set i p1).set j1 pi := by unfold swapG; rw [hpi, hp1]
          rw [hsw] at Hd
          clear hpick hless2 hsw
          go_wp2_with (first | (go_at_call 362; (try rw [Hc2.out]); (try rw [Hc1.out]); refine (HSwap.out w2 hB2 j1 p1 hp1 (by omega)).mono ?_; rintro e w3 ⟨rfl, hO3, hg3, hs3⟩) | (go_at_call 361; (try rw [Hc2.out]); (try rw [Hc1.out]); refine (HLess.out wr (Below.refl _ _) j1 i p1 pi hp1 hpi).mono ?_; rintro e w2 ⟨rfl, hB2⟩; rw [Hb2.out]; have hmS2 := m_swap (HC.out w2 hB2)))
          have hP3 : PlAt w3 S G nx ((l'.set i p1).set j1 pi) := ⟨A, c, by rw [List.length_set, List.length_set]; exact (hg3.block G (by have := hB2.size; omega) (fun e => hAG e.symm)).trans ((hB2.block G hGl).trans HG.out), hO3, sG, sA, hAG⟩
          have hT3 : Turned S W w3 := (hT.below hB2 hsw0).grown hg3 (fun k hk => .inl (sA k hk))
          go_roundw
          case rel => exact ⟨j1, _, by go_num, by omega, by rw [List.length_set, List.length_set]; exact Hlen.out, hP3, hT3, Lib.hid (by rw [Hf.out, Hd.out])⟩
          case measure => simp [intOf]; omega
        · have Hb2 := Lib.hid (show decide (befI p1 pi < 0) = false from (by simpa [lessB] using hless2))
          have Hd := Lib.hid (downG_stop (less := lessB) (n := n) (l := l') (i := i) (j := j1) (by omega) hpick (by unfold ltG; rw [hp1, hpi]; simpa using hless2))
          clear hpick hless2
          go_wp2_with (first | (go_at_call 361; (try rw [Hc2.out]); (try rw [Hc1.out]); refine (HLess.out wr (Below.refl _ _) j1 i p1 pi hp1 hpi).mono ?_; rintro e w2 ⟨rfl, hB2⟩; rw [Hb2.out]; have hmS2 := m_swap (HC.out w2 hB2)))
          go_ret
          exact HEnd.out _ w2 hB2 Hd.out
theorem hpush_any (S : Nat → Prop) (G nx : Nat) (l : List Pk) (p : Pk) (hlen : l.length ≤ 500) (hmax : ∀ q ∈ l, lessB p q = false) (W : World) (h : PlAt W S G nx l) (hS : Lt S W) :
    Calls Tryz.prog 133 #[hpv G, .iface 181 (pkvl p)] W fun e W' => e = .returned (.tuple #[]) ∧ ∃ S', PlAt W' S' G nx (l ++ [p]) ∧ Step S W W' S' := by
  obtain ⟨A, c, hG, hO, sG, sA, hAG⟩ := h
  have Hpush := Lib.hid (pkpush_any G nx A c l p W hG hO hAG (by omega))
  have hmp := m_push
  have HUp := Lib.hid (fun S w (h : PlAt w S G nx (l ++ [p])) => hup_any S G nx (l ++ [p]) l.length (by simp) (by simp; omega) (by
    intro p' q' hp hq hne
    rw [List.getElem?_append_right (Nat.le_refl _)] at hp
    simp at hp
    rw [List.getElem?_append_left (by omega)] at hq
    rw [← hp]
    exact hmax q' (List.mem_of_getElem? hq)) w h)
  have hsub : (((l.length + 1 : Nat) : Int) - 1) = ((l.length : Nat) : Int) := by omega
  have Hx := Lib.hid (pklen_any)
  unfold hpv at HUp ⊢
  clear hG hO hmax
  obtain ⟨x, hx⟩ : ∃ x, x = pkvl p := ⟨_, rfl⟩
  rw [← hx] at Hpush ⊢
  clear hx
  go_enter Tryz.func133, Tryz.ntmps133
  go_wp2_with (first | (go_at_call 151; refine (HUp.out _ w1 HP1.out).mono ?_; rintro e w2 ⟨rfl, hb2⟩) | (go_at_call 360; refine (Hx.out _ _ _ _).mono ?_; rintro e w1' ⟨rfl, rfl⟩) | (go_at_call 364; refine Hpush.out.mono ?_; rintro e w1 ⟨A1, c1, rfl, hG1, hO1, hT1, hA1, hAG1⟩; have HP1 := Lib.hid (show PlAt w1 (fun k => S k ∨ blk A1 = some k) G nx (l ++ [p]) from ⟨A1, c1, by rw [List.length_append]; exact hG1, hO1, .inl sG, fun k hk => .inr hk, hAG1⟩); have hml := m_len (cob hG1 0 rfl)))
  go_end0
  have hT2 : Turned S W w2 := (hT1.wide (fun k hk _ => by
    rcases hk with hk | hk
    · exact hk ▸ sG
    · exact sA k hk)).below hb2 hT1.size
  refine ⟨rfl, _, HP1.out.frame (fun k hk => hb2.block k ?_), hT2, ?_, ?_⟩
  · rcases hk with hk | hk
    · exact Nat.lt_of_lt_of_le (hS k hk) hT1.size
    · exact (hO1.lt k hk).2
  · intro k hk
    rcases hk with hk | hk
    · exact .inl hk
    · rcases hA1 k hk with h | h
      · exact .inl (sA k h)
      · exact .inr h
  · intro k hk
    have := hb2.size
    rcases hk with hk | hk
    · have := hS k hk; have := hT1.size; omega
    · have := (hO1.lt k hk).2; omega
def popG {α : Type} (less : α → α → Bool) (l : List α) : Option (α × List α) :=
  let l2 := downG less (l.length - 1) (l.length - 1) (swapG l 0 (l.length - 1)) 0
  match l2.getLast? with
  | some p => some (p, l2.dropLast)
  | none => none
theorem swapG_len {α : Type} (l : List α) (i j : Nat) : (swapG l i j).length = l.length := by
  unfold swapG; split <;> simp
theorem hpop_any (S : Nat → Prop) (G nx : Nat) (l : List Pk) (h0 : 0 < l.length) (hlen : l.length ≤ 600) (W : World) (h : PlAt W S G nx l) :
    Calls Tryz.prog 99 #[hpv G] W fun e W' => ∃ p l2, Hid (popG lessB l = some (p, l2)) ∧ e = .returned (.iface 181 (pkvl p)) ∧ PlAt W' S G nx l2 ∧ Turned S W W' := by
  obtain ⟨n, hn⟩ : ∃ n, n = l.length - 1 := ⟨_, rfl⟩
  have hsub : IntKind.i64.wrap (((l.length : Nat) : Int) - 1) = ((n : Nat) : Int) := by rw [wrap_small _ (by omega) (by omega)]; omega
  have Hx := Lib.hid (pklen_any)
  have hmp := m_pop
  obtain ⟨A, c, hG, hO, sG, sA, hAG⟩ := h
  have HSw : Hid (Calls Tryz.prog 362 #[.slice A l.length c, .int .i64 0, .int .i64 (n : Int)] W fun e W' => e = .returned (.tuple #[]) ∧ PlAt W' S G nx (swapG l 0 n) ∧ Turned S W W') := by
    have hGl := (Array.getElem?_eq_some_iff.1 hG).1
    obtain ⟨p, hp⟩ : ∃ p, l[0]? = some p := ⟨_, List.getElem?_eq_getElem h0⟩
    by_cases hn0 : n = 0
    · subst hn0
      refine Lib.hid ((pkswap_one 0 _ _ l 0 p hp W hO).mono ?_)
      rintro e w ⟨rfl, hO1, hg1, _⟩
      have hsl : swapG l 0 0 = l := by
        unfold swapG
        rw [hp]
        simp only []
        rw [List.set_set]
        apply List.ext_getElem?
        intro k
        rw [List.getElem?_set]
        split
        · rename_i e; subst e; rw [hp]
        · rfl
      refine ⟨rfl, ?_, (Turned.refl S W).grown hg1 fun k hk => .inl (sA k hk)⟩
      rw [hsl]
      exact ⟨_, _, (hg1.block G hGl (fun e => hAG e.symm)).trans hG, hO1, sG, sA, hAG⟩
    · obtain ⟨q, hq⟩ : ∃ p, l[n]? = some p := ⟨_, List.getElem?_eq_getElem (by omega)⟩
      refine Lib.hid ((pkswap_any 0 _ _ l 0 n p q hp hq (by omega) W hO).mono ?_)
      rintro e w ⟨rfl, hO1, hg1, _⟩
      have hsl : swapG l 0 n = (l.set 0 q).set n p := by
        unfold swapG
        rw [hp, hq]
      refine ⟨rfl, ?_, (Turned.refl S W).grown hg1 fun k hk => .inl (sA k hk)⟩
      rw [hsl]
      exact ⟨_, _, by rw [List.length_set, List.length_set]; exact (hg1.block G hGl (fun e => hAG e.symm)).trans hG, hO1, sG, sA, hAG⟩
  have hml := m_len (cob hG 0 rfl)
  have hms := m_swap (cob hG 0 rfl)
  have HDn := Lib.hid (fun w h => hdown_any S G nx (swapG l 0 n) n (by rw [swapG_len]; omega) (by rw [swapG_len]; omega) w h)
  have HPop := Lib.hid (show ∀ w, PlAt w S G nx (downG lessB n n (swapG l 0 n) 0) → (downG lessB n n (swapG l 0 n) 0).length = (swapG l 0 n).length → Calls Tryz.prog 363 #[.pointer (some ⟨G, 0, none⟩)] w fun e w' => ∃ p l2, popG lessB l = some (p, l2) ∧ e = .returned (.iface 181 (pkvl p)) ∧ PlAt w' S G nx l2 ∧ Turned S w w' from by
    intro w hP hl
    obtain ⟨l3, p, hl3⟩ : ∃ l3 p, downG lessB n n (swapG l 0 n) 0 = l3 ++ [p] := by
      rcases List.eq_nil_or_concat (downG lessB n n (swapG l 0 n) 0) with h | ⟨l3, p, h⟩
      · rw [h, swapG_len] at hl; simp at hl; omega
      · exact ⟨l3, p, by rw [h, List.concat_eq_append]⟩
    obtain ⟨A3, c3, hG3, hO3, sG3, sA3, hAG3⟩ := hP
    rw [hl3] at hG3 hO3
    rw [List.length_append] at hG3
    refine (pkpop_any G nx 0 A3 c3 l3 p w hG3 hO3 hAG3).mono ?_
    rintro e w' ⟨rfl, hG4, hO4, hg4⟩
    refine ⟨p, l3, ?_, rfl, ⟨A3, c3, hG4, hO4, sG3, sA3, hAG3⟩, (Turned.refl S w).grown hg4 fun k hk => .inl (by injection hk with hk; exact hk ▸ sG3)⟩
    unfold popG
    rw [← hn, hl3]
    simp)
  have hswl := swapG_len l 0 n
  have Hswl := Lib.hid hswl
  unfold hpv at HDn ⊢
  clear hG hO hn hswl
  go_enter Tryz.func99, Tryz.ntmps99
  go_wp2_with (first
    | (go_at_call 363; refine (HPop.out w2 HP2.out (HL2.out.trans rfl)).mono ?_; rintro e w3 ⟨p3, l3, hp3, rfl, hP3, hT3⟩) | (go_at_call 135; refine (HDn.out w1 HP1.out).mono ?_; rintro e w2 ⟨⟨b, rfl⟩, hP2, hL2, hT2⟩; have HP2 := Lib.hid hP2; have HL2 := Lib.hid hL2; clear hP2 hL2) | (go_at_call 362; refine HSw.out.mono ?_; rintro e w1 ⟨rfl, hP1, hT1⟩; have HP1 := Lib.hid hP1; clear hP1) | (go_at_call 360; refine (Hx.out _ _ _ _).mono ?_; rintro e w1' ⟨rfl, rfl⟩))
  go_ret
  exact ⟨p3, l3, Lib.hid hp3, rfl, hP3, (hT1.trans hT2).trans hT3⟩
end Go.Proofs.YtoigogjmhkpdlaaGreat
