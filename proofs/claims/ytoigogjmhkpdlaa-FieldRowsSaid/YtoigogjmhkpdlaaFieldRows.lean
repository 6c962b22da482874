/- The walk of FieldRows. -/
import Derived.Test.YtoigogjmhkpdlaaFieldKeeps
import Derived.Deep.RegionHeld3
namespace Go.Proofs.Ytoigogjmhkpdlaa
open Go.RowKit
open Gf

set_option maxHeartbeats 3200000 in
theorem fieldRows_any (c d : Nat) (A : Option Addr) (l : List Nat) (cap : Nat) (W : World) (hc : c < 256) (hd : d < 256) (hl : Bytes l) (hr : RdB W A l) (hm : l.length ≤ maxLen) :
    Calls Try.prog 10 #[.int .u8 (c : Int), .int .u8 (d : Int), .slice A l.length cap] W fun e W' => e = .returned (.bool true) ∧ Below W.heap.size W W' := by
  obtain ⟨i0, hi, hz0, hz1, hz2⟩ := info_parts Try.infoB
  have HA := Lib.hid hr
  clear hr
  unfold maxLen at hm
  by_cases h1 : l.length ≤ 1000
  · have hd1 : decide ((1000 : Int) < (l.length : Int)) = false := by simp; omega
    have hcd := xor_lt hc hd
    have hq0 : bits .xor .u8 (c : Int) (d : Int) = ((c ^^^ d : Nat) : Int) := u8_xor_nat c d hc hd
    go_enter Try.func10, Try.ntmps10
    go_wp2_with fail
    refine (field_new _).mono ?_
    rintro e w1 ⟨g, rfl, hF0, hB0⟩
    have HF0 := Lib.hid hF0
    clear hF0
    go_wp2_with fail
    refine (awake03_any _).mono ?_
    rintro e w2 ⟨rfl, hB1⟩
    have HF := Lib.hid (HF0.out.below hB1)
    have hB := below_next hB0 hB1
    have HA2 := Lib.hid (HA.out.below hB (Nat.le_refl _))
    go_wp2_with fail
    refine (row_any g c hc A l cap hl (by omega) _ HF.out HA2.out).mono ?_
    rintro e w3 ⟨X, A3, c3, HX, rfl, ho3, hb3⟩
    have HF3 := Lib.hid (HF.out.below hb3)
    have HA3 := Lib.hid (HA2.out.below hb3 (Nat.le_refl _))
    go_wp2_with fail
    refine (row_any g d hd A l cap hl (by omega) _ HF3.out HA3.out).mono ?_
    rintro e w4 ⟨Y, A4, c4, HY, rfl, ho4, hb4⟩
    have HF4 := Lib.hid (HF3.out.below hb4)
    have HA4 := Lib.hid (HA3.out.below hb4 (Nat.le_refl _))
    have HX4 := Lib.hid (ho3.rd.below hb4 (Nat.le_refl _))
    have HY4 := Lib.hid ho4.rd
    have hXb := mul_bytes HX.out
    have hYb := mul_bytes HY.out
    have hlx : X.length ≤ 1000 := by rw [HX.out]; simpa using h1
    have hx1 : ((X.length : Int) != (l.length : Int)) = false := by rw [HX.out]; simp
    have hy1 : ((Y.length : Int) != (l.length : Int)) = false := by rw [HY.out]; simp
    have hX1 : X.length ≤ l.length ∧ l.length ≤ X.length := by rw [HX.out]; simp
    have hY1 : Y.length ≤ l.length ∧ l.length ≤ Y.length := by rw [HY.out]; simp
    have HXi := Lib.hid (show ∀ k (h : k < X.length) (h' : k < l.length), X[k] = mulN c l[k] by intro k h h'; simp [HX.out])
    have HYi := Lib.hid (show ∀ k (h : k < Y.length) (h' : k < l.length), Y[k] = mulN d l[k] by intro k h h'; simp [HY.out])
    go_wp2
    go_loopw [8, 9, 12] (fun p q i wr => ∃ (k : Nat) (P Q : List Nat) (B1 B2 : Option Addr) (e1 e2 : Nat), k ≤ l.length ∧ i = .int .i64 k ∧ p = .slice B1 P.length e1 ∧ q = .slice B2 Q.length e2 ∧
        Hid (P = (l.take k).map (mulN c)) ∧ Hid (Q = (l.take k).map fun x => mulN c x ^^^ mulN d x) ∧ OwnB 5 wr w4.heap.size B1 e1 P ∧ OwnB 5 wr w4.heap.size B2 e2 Q ∧ Dist B1 B2 ∧ Below w4.heap.size w4 wr) (fun _ _ i _ => l.length - (intOf i).toNat)
    case atStart => exact ⟨0, [], [], none, none, 0, 0, Nat.zero_le _, rfl, rfl, rfl, Lib.hid rfl, Lib.hid rfl, OwnB.nil _ _ _, OwnB.nil _ _ _, .inl rfl, Below.refl _ _⟩
    case round =>
      obtain ⟨k, P, Q, B1, B2, e1, e2, hk, rfl, rfl, rfl, HP, HQ, hoP, hoQ, hD, hBw⟩ := hrel
      have hs := hBw.size
      have hPl : P.length ≤ 1000 := by rw [HP.out]; simp; omega
      have hQl : Q.length ≤ 1000 := by rw [HQ.out]; simp; omega
      by_cases hk8 : k < l.length
      · obtain ⟨a1, hA1, hc1⟩ := HA4.out (by omega)
        obtain ⟨a2, hA2, hc2⟩ := HX4.out (by omega)
        obtain ⟨a3, hA3, hc3⟩ := HY4.out (by omega)
        have hkx : k < X.length := by omega
        have hky : k < Y.length := by omega
        have KA := Lib.hid (hc1 k hk8)
        have KX := Lib.hid (hc2 k hkx)
        have KY := Lib.hid (hc3 k hky)
        have hb1 : l[k] < 256 := hl _ (List.getElem_mem _)
        have hb2 : X[k] < 256 := hXb _ (List.getElem_mem _)
        have hb3' : Y[k] < 256 := hYb _ (List.getElem_mem _)
        have hx5 := HXi.out k hkx hk8
        have hy5 := HYi.out k hky hk8
        have HM5 := Lib.hid (show X[k] ^^^ Y[k] = mulN c l[k] ^^^ mulN d l[k] by rw [hx5, hy5])
        clear hc1 hc2 hc3 hx5 hy5
        subst hA1 hA2 hA3
        have hca : wr.cell? (a1.add k) = some (.int .u8 (l[k] : Nat)) := (hBw.cell (lt_of_cell KA.out)).trans KA.out
        have hcx : wr.cell? (a2.add k) = some (.int .u8 (X[k] : Nat)) := (hBw.cell (lt_of_cell KX.out)).trans KX.out
        have hcy : wr.cell? (a3.add k) = some (.int .u8 (Y[k] : Nat)) := (hBw.cell (lt_of_cell KY.out)).trans KY.out
        obtain ⟨x, hx⟩ : ∃ x, x = X[k] := ⟨_, rfl⟩
        obtain ⟨y, hy⟩ : ∃ y, y = Y[k] := ⟨_, rfl⟩
        rw [← hx] at hcx hb2 KX HM5
        rw [← hy] at hcy hb3' KY HM5
        have hq5 : bits .xor .u8 (x : Int) (y : Int) = ((x ^^^ y : Nat) : Int) := u8_xor_nat x y hb2 hb3'
        clear hx hy
        go_wp2_with (first
          | (go_at_call 20; refine (refmul_any c _ hc hb1 _).mono ?_; rintro e w6 ⟨rfl, rfl⟩)
          | (at_builtin; refine wpList_append_bytes_at _ rfl (.tmp 52) (.tmp 59) _ rfl w4.heap.size 5 i0 Try.underlying22 hi hz0 hz1 hz2 _ _ P rfl (hoP.alloc _) _ _ [mulN c l[k]] rfl (rd_new _ _ _ _ _ _ rfl rfl) (by simp; omega) (by simp; omega) ?_; intro P2 B3 e3 v1 hP2 hoP2 hb5 hg1 ha1; have hB5 := (hBw.alloc hs (.cells #[.int .u8 ((mulN c l[k] : Nat) : Int)] 5)).trans hb5; have hs5 := hB5.size; have hoQ2 := (hoQ.alloc _).kept hg1 hD.symm; have hD2 := Dist.step ha1 hD (hoQ.alloc _); have hcx5 : v1.cell? (a2.add k) = some (.int .u8 (x : Nat)) := (hB5.cell (lt_of_cell KX.out)).trans KX.out; have hcy5 : v1.cell? (a3.add k) = some (.int .u8 (y : Nat)) := (hB5.cell (lt_of_cell KY.out)).trans KY.out))
        have hl2 := Nat.lt_of_lt_of_le (lt_of_cell KX.out) hs5
        have hl3 := Nat.lt_of_lt_of_le (lt_of_cell KY.out) hs5
        go_region_held3 (fun w' => w'.cell? (a2.add k) = some (.int .u8 (x : Int)) ∧ w'.cell? (a3.add k) = some (.int .u8 (y : Int)))
          (first
            | go_keep
            | exact ⟨(hB6.cell (lt_of_cell KX.out)).trans KX.out, (hB6.cell (lt_of_cell KY.out)).trans KY.out⟩
            | exact ⟨(World.cell?_alloc_lt _ _ _ hl2).trans hcx5, (World.cell?_alloc_lt _ _ _ hl3).trans hcy5⟩)
          (go_must (refine step_append_bytes_at _ (by rfl) _ _ _ (by rfl) w4.heap.size 5 i0 Try.underlying22 hi hz0 hz1 hz2 _ _ Q (by rfl) ((hoQ2.alloc _).drew) _ _ [x ^^^ y] (by rfl) (rd_new _ _ _ _ _ _ (by rfl) (by rfl)).drew (by simp; omega) (by simp; omega) ?_; intro Q2 B4 e4 v2 hQ2 hoQ3 hb6 hg2 ha2; have hb6' := below_undrew hb6; have hg2' := grown_undrew hg2; have hB6 := (hB5.alloc hs5 (.cells #[.int .u8 ((x ^^^ y : Nat) : Int)] 5)).trans hb6'))
        have hoP3 := (hoP2.alloc _).kept hg2' hD2
        have hD3 := (Dist.step ha2 hD2.symm (hoP2.alloc _)).symm
        go_wp2
        go_roundw
        case rel => exact ⟨k + 1, P2, Q2, B3, B4, e3, e4, by omega, by go_num, rfl, rfl, Lib.hid (by rw [hP2.out, HP.out, List.take_succ_eq_append_getElem hk8, List.map_append]; rfl), Lib.hid (by rw [hQ2.out, HQ.out, HM5.out, List.take_succ_eq_append_getElem hk8, List.map_append]; rfl), hoP3, hoQ3, hD3, hB6⟩
        case measure => simp [intOf]; omega
      · have HP9 := Lib.hid (show X = P by rw [HP.out, HX.out, List.take_of_length_le (by omega)])
        have HQ9 := Lib.hid (show Q = l.map (mulN (c ^^^ d)) by
          rw [HQ.out, List.take_of_length_le (by omega)]
          exact List.map_congr_left fun x hx => by rw [mulN_comm (c ^^^ d) x, mulN_xor x c d hc hd, mulN_comm c x, mulN_comm d x])
        go_wp2_with fail
        refine (same_any A3 B1 X P c3 e1 HP9.out _ (HX4.out.below hBw (Nat.le_refl _)) hoP.rd).mono ?_
        rintro e w6 ⟨rfl, rfl⟩
        go_wp2_with fail
        refine (row_any g (c ^^^ d) hcd A l cap hl (by omega) _ (HF4.out.below hBw) (HA4.out.below hBw (Nat.le_refl _))).mono ?_
        rintro e w7 ⟨Z, A7, c7, HZ, rfl, ho7, hb7⟩
        go_wp2_with fail
        refine (same_any B2 A7 Q Z e2 c7 (HQ9.out.trans HZ.out.symm) _ (hoQ.rd.below hb7 (Nat.le_refl _)) ho7.rd).mono ?_
        rintro e w8 ⟨rfl, rfl⟩
        go_wp2
        go_ret
        exact ⟨rfl, below_next (below_next (below_next (below_next hB hb3) hb4) hBw) hb7⟩
  · have hd1 : decide ((1000 : Int) < (l.length : Int)) = true := by simp; omega
    go_enter Try.func10, Try.ntmps10
    go_wp2_with fail
    refine (field_new _).mono ?_
    rintro e w1 ⟨g, rfl, _, hB0⟩
    go_wp2_with fail
    refine (awake03_any _).mono ?_
    rintro e w2 ⟨rfl, hB1⟩
    go_wp2_with fail
    refine (awake03_any _).mono ?_
    rintro e w3 ⟨rfl, hB2⟩
    go_wp2
    go_ret
    exact ⟨rfl, below_next (below_next hB0 hB1) hB2⟩
end Go.Proofs.Ytoigogjmhkpdlaa
