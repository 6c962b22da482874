/- A part of the proof of WholeFew: the texts Slot2, Slot3, Slot4, Shape. -/
import Derived.Test.YtoigogjmhkpdlaaGreatJ04
set_option maxHeartbeats 3200000
set_option maxRecDepth 100000
namespace Go.Proofs.YtoigogjmhkpdlaaGreat
open Go.RowKit
open Crc
def recV (v : Vt) : List Nat := numN 2 ++ numN v.slot ++ numN v.ballot ++ numN v.origin ++ numN v.full.toNat ++ textN v.bytes
theorem cell_new (w : World) (cs : Array Value) (e : TypeId) (g j : Nat) (v : Value) (hg : g = w.heap.size) (h : cs[j]? = some v) : (w.alloc (.cells cs e)).cell? ⟨g, j, none⟩ = some v := by
  subst hg
  have hh : (w.alloc (.cells cs e)).heap[w.heap.size]? = some (.cells cs e (0, 0)) := heap_alloc_new w _
  simp only [World.cell?, hh]; exact h
theorem k5 {B g : Nat} {w w' : World} {a b c d e : Value} (hb : Below B w w') (hg : g < B)
    (h : w.cell? ⟨g, 0, none⟩ = some a ∧ w.cell? ⟨g, 1, none⟩ = some b ∧ w.cell? ⟨g, 2, none⟩ = some c ∧ w.cell? ⟨g, 3, none⟩ = some d ∧ w.cell? ⟨g, 4, none⟩ = some e) :
    w'.cell? ⟨g, 0, none⟩ = some a ∧ w'.cell? ⟨g, 1, none⟩ = some b ∧ w'.cell? ⟨g, 2, none⟩ = some c ∧ w'.cell? ⟨g, 3, none⟩ = some d ∧ w'.cell? ⟨g, 4, none⟩ = some e :=
  ⟨(hb.cell hg).trans h.1, (hb.cell hg).trans h.2.1, (hb.cell hg).trans h.2.2.1, (hb.cell hg).trans h.2.2.2.1, (hb.cell hg).trans h.2.2.2.2⟩
theorem all6 {α : Type} {P : α → Prop} {a b c d e f : α} (ha : P a) (hb : P b) (hc : P c) (hd : P d) (he : P e) (hf : P f) : ∀ t ∈ [a, b, c, d, e, f], P t := by
  intro t ht
  simp only [List.mem_cons, List.not_mem_nil, or_false] at ht
  rcases ht with rfl | rfl | rfl | rfl | rfl | rfl <;> assumption
theorem vput_any (v : Vt) (h : VRight v) (W : World) :
    Calls Tryz.prog 163 #[vtv v] W fun e W' => ∃ (L : List Nat) (A : Option Addr) (c : Nat), Hid (L = recV v) ∧ e = .returned (.tuple #[.slice A L.length c, .int .i64 0]) ∧ OwnB 5 W' W.heap.size A c L ∧ L.length ≤ c ∧ Below W.heap.size W W' := by
  have hr := Lib.hid (fun w => vright_yes v h w)
  obtain ⟨s, b, o, f, y⟩ := v
  obtain ⟨h1, h2, h3, h4, h5, h6⟩ := h
  simp only at h1 h2 h3 h4 h5 h6
  unfold vtv at hr ⊢
  simp only at hr ⊢
  have hf : f.toNat ≤ 1 := by cases f <;> decide
  go_enter Tryz.func163, Tryz.ntmps163
  go_wp2_with fail
  refine (hr.out _).mono ?_
  rintro e w1 ⟨rfl, hb1'⟩
  have hb1 : Below W.heap.size W w1 := ((Below.refl W.heap.size W).alloc (Nat.le_refl _) _).trans (hb1'.mono (by simp))
  have hs1 := hb1'.size
  have hg : W.heap.size < w1.heap.size := by simp at hs1; omega
  have HS1 := k5 hb1' (g := W.heap.size) (a := .int .i64 (s : Int)) (b := .int .i64 (b : Int)) (c := .int .i64 (o : Int)) (d := .bool f) (e := .string y) (by simp) ⟨cell_new _ _ _ _ _ _ rfl rfl, cell_new _ _ _ _ _ _ rfl rfl, cell_new _ _ _ _ _ _ rfl rfl, cell_new _ _ _ _ _ _ rfl rfl, cell_new _ _ _ _ _ _ rfl rfl⟩
  clear hb1' hs1
  go_wp2
  have H22 := Lib.hid (show (2 : Int) = ((2 : Nat) : Int) from rfl)
  have q2 : 2 ≤ 4294967295 := by decide
  have qs : s ≤ 4294967295 := by omega
  have qb : b ≤ 4294967295 := by omega
  have qo : o ≤ 4294967295 := by omega
  have qf : f.toNat ≤ 4294967295 := by omega
  have qy : y.size ≤ 4294967295 := by omega
  go_region_held3 (fun w' => w'.cell? ⟨W.heap.size, 0, none⟩ = some (.int .i64 (s : Int)) ∧ w'.cell? ⟨W.heap.size, 1, none⟩ = some (.int .i64 (b : Int)) ∧ w'.cell? ⟨W.heap.size, 2, none⟩ = some (.int .i64 (o : Int)) ∧ w'.cell? ⟨W.heap.size, 3, none⟩ = some (.bool f) ∧ w'.cell? ⟨W.heap.size, 4, none⟩ = some (.string y))
    (first | exact HS9 | exact k5 ((Below.refl _ _).alloc (Nat.le_refl _) _) (lt_of_cell HS8.1) HS8 | exact HS8 | exact HS7 | exact HS6 | exact HS5 | exact HS4 | exact HS3 | exact HS2 | exact HS1)
    (first
      | (have _ := HS8; go_at_call 123; refine (concat_n _ [(A2, c2, L2), (A3, c3, L3), (A4, c4, L4), (A5, c5, L5), (A7, c7, L7), (A8, c8, L8)] 6 6 rfl (by simp) (by simp [flat]; omega) _ (rdSl_lit w8 _ _ _ _ rfl rfl (all6 (((((ho2.rd.below hb3 (Nat.le_refl _)).below hb4 (Nat.le_refl _)).below hb5 (Nat.le_refl _)).below hb7 (Nat.le_refl _)).below hb8 (Nat.le_refl _)) ((((ho3.rd.below hb4 (Nat.le_refl _)).below hb5 (Nat.le_refl _)).below hb7 (Nat.le_refl _)).below hb8 (Nat.le_refl _)) (((ho4.rd.below hb5 (Nat.le_refl _)).below hb7 (Nat.le_refl _)).below hb8 (Nat.le_refl _)) ((ho5.rd.below hb7 (Nat.le_refl _)).below hb8 (Nat.le_refl _)) (ho7.rd.below hb8 (Nat.le_refl _)) ho8.rd))).mono ?_; rintro e w9 ⟨L9, A9, c9, H9, rfl, ho9, hc9, hb9⟩; have hB9 := below_next (hB8.alloc hB8.size (.cells #[.slice A2 L2.length c2, .slice A3 L3.length c3, .slice A4 L4.length c4, .slice A5 L5.length c5, .slice A7 L7.length c7, .slice A8 L8.length c8] 67)) hb9; have hs9 := (hB8.alloc hB8.size (.cells #[.slice A2 L2.length c2, .slice A3 L3.length c3, .slice A4 L4.length c4, .slice A5 L5.length c5, .slice A7 L7.length c7, .slice A8 L8.length c8] 67)).size; have HS9 := k5 hb9 (lt_of_cell (k5 ((Below.refl w8.heap.size w8).alloc (Nat.le_refl _) _) (lt_of_cell HS8.1) HS8).1) (k5 ((Below.refl w8.heap.size w8).alloc (Nat.le_refl _) _) (lt_of_cell HS8.1) HS8))
      | (have _ := HS7; go_at_call 56; refine (text_any y qy _).mono ?_; rintro e w8 ⟨L8, A8, c8, H8, rfl, ho8, hc8, hb8⟩; have hB8 := below_next hB7 hb8; have HS8 := k5 hb8 (Nat.lt_of_lt_of_le (lt_of_cell HS7.1) (Nat.le_refl _)) HS7; have hl8 : L8.length ≤ 524 := (by rw [H8.out]; simp [textN, numN, keyN_length]; omega))
      | (have _ := M6; go_at_call 55; refine (num_any f.toNat qf _).mono ?_; rintro e w7 ⟨L7, A7, c7, H7, rfl, ho7, hc7, hb7⟩; have hB7 := below_next hB5 hb7; have HS7 := k5 hb7 (Nat.lt_of_lt_of_le (lt_of_cell HS5.1) (Nat.le_refl _)) HS5; have hl7 : L7.length ≤ 4 := (by rw [H7.out]; exact Nat.le_refl _))
      | (have _ := HS5; go_at_call 196; refine (full_any f _).mono ?_; rintro e w6 ⟨rfl, rfl⟩; have M6 : True := trivial)
      | (have _ := HS4; go_at_call 55; refine (num_any o qo _).mono ?_; rintro e w5 ⟨L5, A5, c5, H5, rfl, ho5, hc5, hb5⟩; have hB5 := below_next hB4 hb5; have HS5 := k5 hb5 (Nat.lt_of_lt_of_le (lt_of_cell HS4.1) (Nat.le_refl _)) HS4; have hl5 : L5.length ≤ 4 := (by rw [H5.out]; exact Nat.le_refl _))
      | (have _ := HS3; go_at_call 55; refine (num_any b qb _).mono ?_; rintro e w4 ⟨L4, A4, c4, H4, rfl, ho4, hc4, hb4⟩; have hB4 := below_next hB3 hb4; have HS4 := k5 hb4 (Nat.lt_of_lt_of_le (lt_of_cell HS3.1) (Nat.le_refl _)) HS3; have hl4 : L4.length ≤ 4 := (by rw [H4.out]; exact Nat.le_refl _))
      | (have _ := HS2; go_at_call 55; refine (num_any s qs _).mono ?_; rintro e w3 ⟨L3, A3, c3, H3, rfl, ho3, hc3, hb3⟩; have hB3 := below_next hB2 hb3; have HS3 := k5 hb3 (Nat.lt_of_lt_of_le (lt_of_cell HS2.1) (Nat.le_refl _)) HS2; have hl3 : L3.length ≤ 4 := (by rw [H3.out]; exact Nat.le_refl _))
      | (go_at_call 55; refine (num_i 2 2 H22.out q2 _).mono ?_; rintro e w2 ⟨L2, A2, c2, H2, rfl, ho2, hc2, hb2⟩; have hB2 := below_next hb1 (show Below w1.heap.size w1 w2 from below_undrew hb2); have HS2 := k5 (below_undrew hb2) hg HS1; have hl2 : L2.length ≤ 4 := (by rw [H2.out]; exact Nat.le_refl _)))
  go_wp2
  go_ret2
  exact ⟨L9, A9, c9, Lib.hid (by rw [H9.out]; simp [flat, recV, H2.out, H3.out, H4.out, H5.out, H7.out, H8.out]), rfl, own_base ho9 hs9, hc9, hB9⟩
open Crc
theorem Tryz.sizeV : (Tryz.prog.info? 62).map (·.size) = some 5 := by kernel_rfl
def iv (n : Nat) : Value := .int .i64 (n : Int)
def tailV (v : Vt) : List Nat := numN v.slot ++ numN v.ballot ++ numN v.origin ++ numN v.full.toNat ++ textN v.bytes
def valsV (v : Vt) : List Nat := [v.slot, v.ballot, v.origin, v.full.toNat]
theorem getD_append {l m : List Nat} {i : Nat} (h : i < l.length) : (l ++ m).getD i 0 = l.getD i 0 := by
  simp [List.getElem?_append_left h]
theorem unNum_app (n : Nat) (h : n < 4294967296) (m : List Nat) : unNum (numN n ++ m) = n := by
  have e : unNum (numN n ++ m) = unNum (numN n) := by
    unfold unNum
    rw [getD_append (by rw [numN_length]; decide), getD_append (by rw [numN_length]; decide), getD_append (by rw [numN_length]; decide), getD_append (by rw [numN_length]; decide)]
  rw [e, unNum_numN n h]
theorem drop_app (n : Nat) (m : List Nat) : (numN n ++ m).drop 4 = m := rfl
def leftV (v : Vt) (k : Nat) : List Nat := (tailV v).drop (4 * k)
theorem tail_le (v : Vt) (h : VRight v) : (tailV v).length ≤ 540 := by
  have := h.y
  simp [tailV, textN, numN_length, keyN_length]; omega
theorem leftV_len (v : Vt) (k : Nat) (hk : k < 4) : 4 ≤ (leftV v k).length := by
  simp [leftV, tailV, textN, numN_length, keyN_length]; omega
theorem leftV_num (v : Vt) (h : VRight v) (k : Nat) (hk : k < 4) : unNum (leftV v k) = (valsV v).getD k 0 := by
  have h1 := h.s; have h2 := h.b2; have h3 := h.o2
  have hf : v.full.toNat ≤ 1 := by cases v.full <;> decide
  match k, hk with
  | 0, _ => exact (by simp only [leftV, tailV, List.append_assoc]; exact unNum_app _ (by omega) _ : unNum (leftV v 0) = v.slot)
  | 1, _ => exact (by show unNum ((tailV v).drop 4) = v.ballot; simp only [tailV, List.append_assoc, drop_app]; exact unNum_app _ (by omega) _)
  | 2, _ => exact (by show unNum ((tailV v).drop 8) = v.origin; rw [show (8 : Nat) = 4 + 4 from rfl, ← List.drop_drop]; simp only [tailV, List.append_assoc, drop_app]; exact unNum_app _ (by omega) _)
  | 3, _ => exact (by show unNum ((tailV v).drop 12) = v.full.toNat; rw [show (12 : Nat) = 4 + 4 + 4 from rfl, ← List.drop_drop, ← List.drop_drop]; simp only [tailV, List.append_assoc, drop_app]; exact unNum_app _ (by omega) _)
theorem leftV_succ (v : Vt) (k : Nat) : leftV v (k + 1) = (leftV v k).drop 4 := by
  unfold leftV; rw [List.drop_drop]; rfl
theorem leftV_four (v : Vt) : leftV v 4 = textN v.bytes := by
  show (tailV v).drop 16 = _
  rw [show (16 : Nat) = 4 + 4 + 4 + 4 from rfl, ← List.drop_drop, ← List.drop_drop, ← List.drop_drop]; simp only [tailV, List.append_assoc, drop_app]
theorem strN_keyN (y : ByteArray) : strN (keyN y) = y := by
  have h : (strN (keyN y)).data.toList = y.data.toList := by
    unfold strN
    rw [strOfNums_data, keyN]
    simp only [List.map_map]
    conv => rhs; rw [← List.map_id y.data.toList]
    exact List.map_congr_left fun x _ => by simp
  rcases hs : strN (keyN y) with ⟨d⟩
  rcases y with ⟨d2⟩
  rw [hs] at h
  simp only at h
  congr 1
  exact Array.toList_inj.1 h
theorem textN_text (y : ByteArray) (h : y.size < 4294967296) : hasText (textN y) = true ∧ textOf (textN y) = y := by
  have hu : unNum (textN y) = y.size := unNum_app _ h _
  have hd : (textN y).drop 4 = keyN y := drop_app _ _
  refine ⟨?_, ?_⟩
  · unfold hasText; rw [hu]; simp [textN, numN_length, keyN_length]
  · unfold textOf
    rw [hu, hd, List.take_of_length_le (by rw [keyN_length]; exact Nat.le_refl _)]
    exact strN_keyN y
def arr (v : Vt) (k : Nat) : List Nat := (valsV v).take k ++ List.replicate (4 - k) 0
theorem arr_len (v : Vt) (k : Nat) (hk : k ≤ 4) : (arr v k).length = 4 := by simp [arr, valsV]; omega
theorem arr_set (v : Vt) (k : Nat) (hk : k < 4) : (arr v k).set k ((valsV v).getD k 0) = arr v (k + 1) := by
  match k, hk with
  | 0, _ => rfl
  | 1, _ => rfl
  | 2, _ => rfl
  | 3, _ => rfl
theorem vcut_any (v : Vt) (h : VRight v) (A : Option Addr) (c : Nat) (hc : (tailV v).length ≤ c) (hcm : c ≤ 9223372036854775807) (W : World) (hr : RdB W A (tailV v)) (hb : Bytes (tailV v)) :
    Calls Tryz.prog 162 #[.slice A (tailV v).length c] W fun e W' => e = .returned (vtv v) ∧ Below W.heap.size W W' := by
  have ht := tail_le v h
  have Hb := Lib.hid hb
  clear hb
  go_enter Tryz.func162, Tryz.ntmps162
  go_wp2
  have ho0 := Own.lit iv 288 (W.alloc (.cells #[.int .i64 0, .int .i64 0, .int .i64 0, .bool false, .string { data := #[] }] 62)) (W.heap.size + 1) #[.int .i64 0, .int .i64 0, .int .i64 0, .int .i64 0] (arr v 0) (by simp) (by rw [arr_len v 0 (by decide)]; decide) rfl
  have hB0 := ((Below.refl W.heap.size W).alloc (Nat.le_refl _) (.cells #[.int .i64 0, .int .i64 0, .int .i64 0, .bool false, .string { data := #[] }] 62)).alloc (by simp) (.cells #[.int .i64 0, .int .i64 0, .int .i64 0, .int .i64 0] 288)
  have hr0 := hr.below hB0 (Nat.le_refl _)
  have hblk0 : ((W.alloc (.cells #[.int .i64 0, .int .i64 0, .int .i64 0, .bool false, .string { data := #[] }] 62)).alloc (.cells #[.int .i64 0, .int .i64 0, .int .i64 0, .int .i64 0] 288)).heap[W.heap.size]? = some (.cells #[.int .i64 0, .int .i64 0, .int .i64 0, .bool false, .string { data := #[] }] 62) := by
    exact (((Below.refl _ _).alloc (Nat.le_refl _) _).block W.heap.size (by simp)).trans (heap_alloc_new _ _)
  go_loopw [0, 4, 9] (fun bv ok i wr => ∃ (k : Nat) (L : List Nat) (A2 : Option Addr) (c2 : Nat), k ≤ 4 ∧ i = .int .i64 k ∧ ok = .bool true ∧ bv = .slice A2 L.length c2 ∧ Hid (L = leftV v k) ∧ L.length ≤ 540 ∧ L.length ≤ c2 ∧ c2 ≤ 9223372036854775807 ∧ RdB wr A2 L ∧ Own iv 288 wr (W.heap.size + 1) (some ⟨W.heap.size + 1, 0, none⟩) 4 (arr v k) ∧ wr.heap[W.heap.size]? = some (.cells #[.int .i64 0, .int .i64 0, .int .i64 0, .bool false, .string { data := #[] }] 62) ∧ Below W.heap.size W wr) (fun _ _ i _ => 4 - (intOf i).toNat)
  case atStart => exact ⟨0, tailV v, A, c, by decide, rfl, rfl, rfl, Lib.hid rfl, ht, hc, hcm, hr0, (by have h := ho0; rw [arr_len v 0 (by decide)] at h; simpa using h), hblk0, hB0⟩
  case round =>
    obtain ⟨k, L, A2, c2, hk, rfl, rfl, rfl, hL, hLl, hLc, hcm2, hrL, hoA, hblk, hB⟩ := hrel
    have hLb : Bytes L := by rw [hL.out]; exact bytes_drop Hb.out _
    have hgA := (hoA.lt (W.heap.size + 1) rfl).2
    by_cases hk4 : k < 4
    · have hlen := leftV_len v k hk4
      rw [← hL.out] at hlen
      have hnum := leftV_num v h k hk4
      rw [← hL.out] at hnum
      have Hnum := Lib.hid hnum
      clear hnum
      go_wp2_with fail
      refine (cutnum_any A2 L c2 hLb hLc hcm2 (by omega) _ hrL).mono ?_
      rintro e w2 (⟨hx, _, _⟩ | ⟨_, L3, A3, c3, H3, rfl, ho3, hc3, hb3⟩)
      · omega
      have hoA2 := hoA.below hb3 (Nat.le_refl _)
      have hcell := hoA2.cell k (by rw [arr_len v k hk]; exact hk4)
      have hfr := hoA2.free k
      have hcm3 := ho3.capmax
      unfold maxLen at hcm3
      have hl3 : L3.length ≤ 540 := by rw [H3.out, List.length_drop]; omega
      have hblk2 : w2.heap[W.heap.size]? = _ := (hb3.block W.heap.size (by omega)).trans hblk
      unfold iv at hcell
      go_wp2
      go_roundw
      case rel =>
        refine ⟨k + 1, L3, A3, c3, by omega, by go_num, rfl, rfl, Lib.hid (by rw [H3.out, hL.out, ← leftV_succ]), hl3, hc3, by omega, OwnB.rd (ownsRow_setCell_below ho3 hgA _), ?_, (heap_setCell_other _ _ _ _ (by simp)).trans hblk2, (below_next hB hb3).setCell (by simp) _⟩
        rw [Hnum.out, ← arr_set v k hk4]
        exact hoA2.set k _
      case measure => simp [intOf]; omega
    · obtain rfl : k = 4 := by omega
      have H4 := Lib.hid (show L = textN v.bytes by rw [hL.out, leftV_four])
      have HT := Lib.hid (textN_text v.bytes (by have := h.y; omega))
      go_wp2_with fail
      refine (cuttext_any A2 L c2 hLb hLc hcm2 (by omega) _ hrL).mono ?_
      rintro e w2 (⟨hx, _, _⟩ | ⟨_, L3, A3, c3, H3, rfl, hr3, hc3, hcm3, hb3⟩)
      · rw [H4.out, HT.out.1] at hx; cases hx
      have hoA2 := hoA.below hb3 (Nat.le_refl _)
      have hoA3 : Own iv 288 w2 (W.heap.size + 1) (some ⟨W.heap.size + 1, 0, none⟩) 4 [v.slot, v.ballot, v.origin, v.full.toNat] := hoA2
      have hc0 : w2.cell? ⟨W.heap.size + 1, 0, none⟩ = some (.int .i64 (v.slot : Int)) := hoA3.cell 0 (by simp)
      have hc1 : w2.cell? ⟨W.heap.size + 1, 1, none⟩ = some (.int .i64 (v.ballot : Int)) := hoA3.cell 1 (by simp)
      have hc2' : w2.cell? ⟨W.heap.size + 1, 2, none⟩ = some (.int .i64 (v.origin : Int)) := hoA3.cell 2 (by simp)
      have hc3' : w2.cell? ⟨W.heap.size + 1, 3, none⟩ = some (.int .i64 (v.full.toNat : Int)) := hoA3.cell 3 (by simp)
      have hq : ((v.full.toNat : Int) == 1) = v.full := by cases v.full <;> rfl
      have hblk2 : w2.heap[W.heap.size]? = _ := (hb3.block W.heap.size (by omega)).trans hblk
      have hf0 : w2.frozen? ⟨W.heap.size, 0, none⟩ = false := by simp [World.frozen?, hblk2]
      have hd0 : w2.cell? ⟨W.heap.size, 0, none⟩ = some (.int .i64 0) := by simp [World.cell?, hblk2]
      have hf1 : w2.frozen? ⟨W.heap.size, 1, none⟩ = false := by simp [World.frozen?, hblk2]
      have hd1 : w2.cell? ⟨W.heap.size, 1, none⟩ = some (.int .i64 0) := by simp [World.cell?, hblk2]
      have hf2 : w2.frozen? ⟨W.heap.size, 2, none⟩ = false := by simp [World.frozen?, hblk2]
      have hd2 : w2.cell? ⟨W.heap.size, 2, none⟩ = some (.int .i64 0) := by simp [World.cell?, hblk2]
      have hf3 : w2.frozen? ⟨W.heap.size, 3, none⟩ = false := by simp [World.frozen?, hblk2]
      have hd3 : w2.cell? ⟨W.heap.size, 3, none⟩ = some (.bool false) := by simp [World.cell?, hblk2]
      have hf4 : w2.frozen? ⟨W.heap.size, 4, none⟩ = false := by simp [World.frozen?, hblk2]
      have hd4 : w2.cell? ⟨W.heap.size, 4, none⟩ = some (.string { data := #[] }) := by simp [World.cell?, hblk2]
      have e1 : textOf L = v.bytes := by rw [H4.out]; exact HT.out.2
      rw [e1]
      go_wp2
      have g1 := heap_setCell_same w2 W.heap.size 0 _ _ (.int .i64 (v.slot : Int)) hblk2
      have g2 := heap_setCell_same _ W.heap.size 1 _ _ (.int .i64 (v.ballot : Int)) g1
      have g3 := heap_setCell_same _ W.heap.size 2 _ _ (.int .i64 (v.origin : Int)) g2
      have g4 := heap_setCell_same _ W.heap.size 3 _ _ (.bool v.full) g3
      have g5 := heap_setCell_same _ W.heap.size 4 _ _ (.string v.bytes) g4
      refine bodyPost_ret (results_cell_row rfl _ _ W.heap.size _ _ (0, 0) _ rfl g5 Tryz.underlying62 rfl Tryz.sizeV) rfl ⟨rfl, ?_⟩
      exact (((((below_next hB hb3).setCell (Nat.le_refl _) _).setCell (Nat.le_refl _) _).setCell (Nat.le_refl _) _).setCell (Nat.le_refl _) _).setCell (Nat.le_refl _) _
open Crc
theorem results_tct {P : Program} {fn : Func} {t p u : Tmp} {ty : TypeId} (h : fn.results = #[.tmp t, .cell p ty, .tmp u]) (tmps : Array Value) (w : World) (g : Nat) (tt : TypeId) (cs : Array Value) (fr : Nat × Nat) (d : TypeDesc)
    (hp : tmps.getD p undef = .pointer (some ⟨g, 0, none⟩)) (hg : w.heap[g]? = some (.cells cs tt fr))
    (hu : P.underlying ty = some d) (hd : (match d with | .struct _ | .array _ _ => true | _ => false) = true) (hi : (P.info? ty).map (·.size) = some cs.size) :
    (results fn tmps).run P w = .ok (.tuple #[tmps.getD t undef, .agg cs, tmps.getD u undef]) w := by
  have hp' : tmps[p]?.getD undef = .pointer (some ⟨g, 0, none⟩) := by simpa using hp
  simp [results, h, hp', asAddr, run_loadVar_row w g tt ty cs fr d hg hu hd hi]
theorem recP_bytes (b : Nat) : Bytes (recP b) := by
  intro x hx
  rcases List.mem_append.1 hx with h | h <;> exact numN_bytes _ x h
def zeroV : Value := .agg #[.int .i64 0, .int .i64 0, .int .i64 0, .bool false, .string ByteArray.empty]
theorem getp_any (b : Nat) (h1 : 1 ≤ b) (h2 : b ≤ 2147483647) (A : Option Addr) (c : Nat) (hc : (recP b).length ≤ c) (hcm : c ≤ 9223372036854775807) (W : World) (hr : RdB W A (recP b)) :
    Calls Tryz.prog 122 #[.slice A (recP b).length c] W fun e W' => e = .returned (.tuple #[.int .i64 (b : Int), zeroV, .int .i64 0]) ∧ Below W.heap.size W W' := by
  have hl : (recP b).length = 8 := by simp [recP, numN_length]
  have Hl := Lib.hid hl
  have hln : (recP b).length ≤ 8 ∧ 8 ≤ (recP b).length := by omega
  clear hl
  have Hk := Lib.hid (show unNum (recP b) = 1 from unNum_app 1 (by decide) _)
  have Hd := Lib.hid (show (recP b).drop 4 = numN b from rfl)
  have HR := Lib.hid hr
  clear hr
  go_enter Tryz.func122, Tryz.ntmps122
  go_wp2_with fail
  have hB0 := (Below.refl W.heap.size W).alloc (Nat.le_refl _) (.cells #[.int .i64 0, .int .i64 0, .int .i64 0, .bool false, .string { data := #[] }] 62)
  have hblk0 := heap_alloc_new W (.cells #[.int .i64 0, .int .i64 0, .int .i64 0, .bool false, .string { data := #[] }] 62)
  have HR0 := Lib.hid (HR.out.below hB0 (Nat.le_refl _))
  refine (cutnum_any A (recP b) c (recP_bytes b) hc hcm (by omega) _ HR0.out).mono ?_
  rintro e w1 (⟨hx, _, _⟩ | ⟨_, L1, A1, c1, H1, rfl, ho1, hc1, hb1⟩)
  · omega
  rw [Hk.out]
  have hL1 : L1 = numN b := H1.out.trans Hd.out
  have hl1 : L1.length ≤ 4 ∧ 4 ≤ L1.length := by rw [hL1, numN_length]; omega
  have hB1 := below_next hB0 hb1
  have hblk1 := (hb1.block W.heap.size (by simp)).trans hblk0
  have hcm1 := ho1.capmax
  unfold maxLen at hcm1
  have HL1 := Lib.hid hL1
  clear hL1
  have HR1 := Lib.hid (HR0.out.below hb1 (Nat.le_refl _))
  go_wp2_with fail
  refine (cutnum_any A1 L1 c1 (by rw [HL1.out]; exact numN_bytes _) hc1 hcm1 (by omega) _ ho1.rd).mono ?_
  rintro e w2 (⟨hx, _, _⟩ | ⟨_, L2, A2, c2, H2, rfl, ho2, hc2, hb2⟩)
  · omega
  rw [show unNum L1 = b by rw [HL1.out]; exact unNum_numN b (by omega)]
  have hB2 := below_next hB1 hb2
  have hblk2 := (hb2.block W.heap.size (by have := hb1.size; simp at this; omega)).trans hblk1
  have HR2 := Lib.hid (HR1.out.below hb2 (Nat.le_refl _))
  go_wp2_with fail
  refine (promise_any b h1 h2 _).mono ?_
  rintro e w3 ⟨L3, A3, c3, H3, rfl, ho3, hc3, hb3⟩
  have hB3 := below_next hB2 hb3
  have hblk3 := (hb3.block W.heap.size (by have := hb1.size; have := hb2.size; simp at *; omega)).trans hblk2
  have HR3 := Lib.hid (HR2.out.below hb3 (Nat.le_refl _))
  go_wp2_with fail
  refine (equal_any A3 A L3 (recP b) c3 c (by rw [H3.out]; omega) (by omega) _ ho3.rd HR3.out).mono ?_
  rintro e w4 ⟨rfl, hb4⟩
  have hblk4 := (hb4.block W.heap.size (by have := hb1.size; have := hb2.size; have := hb3.size; simp at *; omega)).trans hblk3
  have hB4 := below_next hB3 hb4
  rw [show decide (L3 = recP b) = true by rw [H3.out]; simp]
  have hf0 : w4.frozen? ⟨W.heap.size, 0, none⟩ = false := by simp [World.frozen?, hblk4]
  have hd0 : w4.cell? ⟨W.heap.size, 0, none⟩ = some (.int .i64 0) := by simp [World.cell?, hblk4]
  have hf1 : w4.frozen? ⟨W.heap.size, 1, none⟩ = false := by simp [World.frozen?, hblk4]
  have hd1 : w4.cell? ⟨W.heap.size, 1, none⟩ = some (.int .i64 0) := by simp [World.cell?, hblk4]
  have hf2 : w4.frozen? ⟨W.heap.size, 2, none⟩ = false := by simp [World.frozen?, hblk4]
  have hd2 : w4.cell? ⟨W.heap.size, 2, none⟩ = some (.int .i64 0) := by simp [World.cell?, hblk4]
  have hf3 : w4.frozen? ⟨W.heap.size, 3, none⟩ = false := by simp [World.frozen?, hblk4]
  have hd3 : w4.cell? ⟨W.heap.size, 3, none⟩ = some (.bool false) := by simp [World.cell?, hblk4]
  have hf4 : w4.frozen? ⟨W.heap.size, 4, none⟩ = false := by simp [World.frozen?, hblk4]
  have hd4 : w4.cell? ⟨W.heap.size, 4, none⟩ = some (.string { data := #[] }) := by simp [World.cell?, hblk4]
  go_wp2
  have g1 := heap_setCell_same w4 W.heap.size 0 _ _ (.int .i64 0) hblk4
  have g2 := heap_setCell_same _ W.heap.size 1 _ _ (.int .i64 0) g1
  have g3 := heap_setCell_same _ W.heap.size 2 _ _ (.int .i64 0) g2
  have g4 := heap_setCell_same _ W.heap.size 3 _ _ (.bool false) g3
  have g5 := heap_setCell_same _ W.heap.size 4 _ _ (.string { data := #[] }) g4
  refine bodyPost_ret (results_tct rfl _ _ W.heap.size _ _ (0, 0) _ rfl g5 Tryz.underlying62 rfl Tryz.sizeV) rfl ⟨rfl, ?_⟩
  exact ((((hB4.setCell (Nat.le_refl _) _).setCell (Nat.le_refl _) _).setCell (Nat.le_refl _) _).setCell (Nat.le_refl _) _).setCell (Nat.le_refl _) _
theorem tail_bytes (v : Vt) : Bytes (tailV v) := by
  intro x hx
  simp only [tailV, textN, List.mem_append] at hx
  rcases hx with (((h | h) | h) | h) | h | h
  all_goals first | exact numN_bytes _ x h | exact keyN_bytes _ x h
theorem recV_eq (v : Vt) : recV v = numN 2 ++ tailV v := by simp [recV, tailV]
theorem recV_bytes (v : Vt) : Bytes (recV v) := by
  rw [recV_eq]; intro x hx
  rcases List.mem_append.1 hx with h | h
  · exact numN_bytes _ x h
  · exact tail_bytes v x h
theorem getv_any (v : Vt) (h : VRight v) (A : Option Addr) (c : Nat) (hc : (recV v).length ≤ c) (hcm : c ≤ 9223372036854775807) (W : World) (hr : RdB W A (recV v)) :
    Calls Tryz.prog 122 #[.slice A (recV v).length c] W fun e W' => e = .returned (.tuple #[.int .i64 0, vtv v, .int .i64 0]) ∧ Below W.heap.size W W' := by
  have Hl := Lib.hid (show (recV v).length = (tailV v).length + 4 by rw [recV_eq, List.length_append, numN_length]; omega)
  have htl := tail_le v h
  have hln : (recV v).length ≤ 544 ∧ 4 ≤ (recV v).length := by rw [Hl.out]; omega
  have Hk := Lib.hid (show unNum (recV v) = 2 by rw [recV_eq]; exact unNum_app 2 (by decide) _)
  have Hd := Lib.hid (show (recV v).drop 4 = tailV v by rw [recV_eq]; rfl)
  have HR := Lib.hid hr
  have Hv := Lib.hid (fun A c W => vcut_any v h A c (W := W))
  have Hp := Lib.hid (fun W => vput_any v h W)
  clear hr
  go_enter Tryz.func122, Tryz.ntmps122
  go_wp2_with fail
  have hB0 := (Below.refl W.heap.size W).alloc (Nat.le_refl _) (.cells #[.int .i64 0, .int .i64 0, .int .i64 0, .bool false, .string { data := #[] }] 62)
  have hblk0 := heap_alloc_new W (.cells #[.int .i64 0, .int .i64 0, .int .i64 0, .bool false, .string { data := #[] }] 62)
  have HR0 := Lib.hid (HR.out.below hB0 (Nat.le_refl _))
  refine (cutnum_any A (recV v) c (recV_bytes v) hc hcm (by omega) _ HR0.out).mono ?_
  rintro e w1 (⟨hx, _, _⟩ | ⟨_, L1, A1, c1, H1, rfl, ho1, hc1, hb1⟩)
  · omega
  rw [Hk.out]
  have hL1 : L1 = tailV v := H1.out.trans Hd.out
  have hB1 := below_next hB0 hb1
  have hblk1 := (hb1.block W.heap.size (by simp)).trans hblk0
  have hcm1 := ho1.capmax
  unfold maxLen at hcm1
  have hs1 : W.heap.size < w1.heap.size := by have := hb1.size; simp at this; omega
  have HR1 := Lib.hid (HR0.out.below hb1 (Nat.le_refl _))
  subst hL1
  go_wp2_with fail
  refine (Hv.out A1 c1 _ hc1 hcm1 ho1.rd (tail_bytes v)).mono ?_
  rintro e w2 ⟨rfl, hb2⟩
  have hB2 := below_next hB1 hb2
  have hblk2 := (hb2.block W.heap.size hs1).trans hblk1
  have hs2 := hb2.size
  have HR2 := Lib.hid (HR1.out.below hb2 (Nat.le_refl _))
  unfold vtv at Hp ⊢
  go_wp2_with fail
  have hv2 := heap_alloc_new w2 (.cells #[.int .i64 (v.slot : Int), .int .i64 (v.ballot : Int), .int .i64 (v.origin : Int), .bool v.full, .string v.bytes] 62)
  have hblk3 : (w2.alloc (.cells #[.int .i64 (v.slot : Int), .int .i64 (v.ballot : Int), .int .i64 (v.origin : Int), .bool v.full, .string v.bytes] 62)).heap[W.heap.size]? = _ := (((Below.refl w2.heap.size w2).alloc (Nat.le_refl _) (.cells #[.int .i64 (v.slot : Int), .int .i64 (v.ballot : Int), .int .i64 (v.origin : Int), .bool v.full, .string v.bytes] 62)).block W.heap.size (by omega)).trans hblk2
  have hB3 := hB2.alloc hB2.size (.cells #[.int .i64 (v.slot : Int), .int .i64 (v.ballot : Int), .int .i64 (v.origin : Int), .bool v.full, .string v.bytes] 62)
  have HR3 := Lib.hid (HR2.out.below ((Below.refl w2.heap.size w2).alloc (Nat.le_refl _) (.cells #[.int .i64 (v.slot : Int), .int .i64 (v.ballot : Int), .int .i64 (v.origin : Int), .bool v.full, .string v.bytes] 62)) (Nat.le_refl _))
  refine (Hp.out _).mono ?_
  rintro e w3 ⟨L3, A3, c3, H3, rfl, ho3, hc3, hb3⟩
  have hB3' := below_next hB3 hb3
  have hv3 := (hb3.block w2.heap.size (by simp)).trans hv2
  have hblk3' := (hb3.block W.heap.size (by simp; omega)).trans hblk3
  have HR4 := Lib.hid (HR3.out.below hb3 (Nat.le_refl _))
  have hs3 := hb3.size
  simp at hs3
  go_wp2_with fail
  refine (equal_any A3 A L3 (recV v) c3 c (by rw [H3.out]; omega) (by omega) _ ho3.rd HR4.out).mono ?_
  rintro e w4 ⟨rfl, hb4⟩
  have hblk4 := (hb4.block W.heap.size (by omega)).trans hblk3'
  have hv4 := (hb4.block w2.heap.size (by omega)).trans hv3
  have hB4 := below_next hB3' hb4
  rw [show decide (L3 = recV v) = true by rw [H3.out]; simp]
  have hf0 : w4.frozen? ⟨W.heap.size, 0, none⟩ = false := by simp [World.frozen?, hblk4]
  have hd0 : w4.cell? ⟨W.heap.size, 0, none⟩ = some (.int .i64 0) := by simp [World.cell?, hblk4]
  have hf1 : w4.frozen? ⟨W.heap.size, 1, none⟩ = false := by simp [World.frozen?, hblk4]
  have hd1 : w4.cell? ⟨W.heap.size, 1, none⟩ = some (.int .i64 0) := by simp [World.cell?, hblk4]
  have hf2 : w4.frozen? ⟨W.heap.size, 2, none⟩ = false := by simp [World.frozen?, hblk4]
  have hd2 : w4.cell? ⟨W.heap.size, 2, none⟩ = some (.int .i64 0) := by simp [World.cell?, hblk4]
  have hf3 : w4.frozen? ⟨W.heap.size, 3, none⟩ = false := by simp [World.frozen?, hblk4]
  have hd3 : w4.cell? ⟨W.heap.size, 3, none⟩ = some (.bool false) := by simp [World.cell?, hblk4]
  have hf4 : w4.frozen? ⟨W.heap.size, 4, none⟩ = false := by simp [World.frozen?, hblk4]
  have hd4 : w4.cell? ⟨W.heap.size, 4, none⟩ = some (.string { data := #[] }) := by simp [World.cell?, hblk4]
  have he0 : w4.cell? ⟨w2.heap.size, 0, none⟩ = some (.int .i64 (v.slot : Int)) := by simp [World.cell?, hv4]
  have he1 : w4.cell? ⟨w2.heap.size, 1, none⟩ = some (.int .i64 (v.ballot : Int)) := by simp [World.cell?, hv4]
  have he2 : w4.cell? ⟨w2.heap.size, 2, none⟩ = some (.int .i64 (v.origin : Int)) := by simp [World.cell?, hv4]
  have he3 : w4.cell? ⟨w2.heap.size, 3, none⟩ = some (.bool v.full) := by simp [World.cell?, hv4]
  have he4 : w4.cell? ⟨w2.heap.size, 4, none⟩ = some (.string v.bytes) := by simp [World.cell?, hv4]
  have hne : W.heap.size ≠ w2.heap.size := by omega
  go_wp2
  go_region
  go_wp2
  have g1 := heap_setCell_same w4 W.heap.size 0 _ _ (.int .i64 (v.slot : Int)) hblk4
  have g2 := heap_setCell_same _ W.heap.size 1 _ _ (.int .i64 (v.ballot : Int)) g1
  have g3 := heap_setCell_same _ W.heap.size 2 _ _ (.int .i64 (v.origin : Int)) g2
  have g4 := heap_setCell_same _ W.heap.size 3 _ _ (.bool v.full) g3
  have g5 := heap_setCell_same _ W.heap.size 4 _ _ (.string v.bytes) g4
  refine bodyPost_ret (results_tct rfl _ _ W.heap.size _ _ (0, 0) _ rfl g5 Tryz.underlying62 rfl Tryz.sizeV) rfl ⟨rfl, ?_⟩
  exact (((((hB4.setCell (Nat.le_refl _) _).setCell (Nat.le_refl _) _).setCell (Nat.le_refl _) _).setCell (Nat.le_refl _) _).setCell (Nat.le_refl _) _).drew
structure Shp where
  K : Nat
  F : Nat
def shv (s : Shp) : Value := .agg #[.int .i64 (s.K : Int), .int .i64 (s.F : Int)]
structure Shp.Ok (s : Shp) : Prop where
  k1 : 1 ≤ s.K
  n7 : s.K + 2 * s.F ≤ 7
def Shp.n (s : Shp) : Nat := s.K + 2 * s.F
def Shp.q (s : Shp) : Nat := s.K + s.F
theorem Tryz.sizeSh : (Tryz.prog.info? 25).map (·.size) = some 2 := by kernel_rfl
theorem cright_yes (s : Shp) (h : s.Ok) (W : World) :
    Calls Tryz.prog 57 #[shv s] W fun e W' => e = .returned (.bool true) ∧ Below W.heap.size W W' := by
  obtain ⟨K, F⟩ := s
  obtain ⟨h1, h2⟩ := h
  simp only at h1 h2
  unfold shv
  simp only
  have hd0 : decide ((1 : Int) ≤ (K : Int)) = true := by simp; omega
  have hd1 : decide ((K : Int) ≤ 7) = true := by simp; omega
  have hd2 : decide ((0 : Int) ≤ (F : Int)) = true := by simp
  have hd3 : decide ((F : Int) ≤ 7) = true := by simp; omega
  have hd4 : decide ((K : Int) + 2 * (F : Int) ≤ 7) = true := by simp; omega
  go_enter Tryz.func57, Tryz.ntmps57
  go_wp2
  go_ret
  exact ⟨rfl, (Below.refl _ _).alloc (Nat.le_refl _) _⟩
theorem cn_any (s : Shp) (h : s.Ok) (W : World) :
    Calls Tryz.prog 59 #[shv s] W fun e W' => e = .returned (.int .i64 (s.n : Nat)) ∧ Below W.heap.size W W' := by
  have hr := Lib.hid (fun w => cright_yes s h w)
  obtain ⟨K, F⟩ := s
  obtain ⟨h1, h2⟩ := h
  simp only at h1 h2
  unfold shv at hr ⊢
  simp only at hr ⊢
  go_enter Tryz.func59, Tryz.ntmps59
  go_wp2_with fail
  refine (hr.out _).mono ?_
  rintro e w1 ⟨rfl, hb1⟩
  have hB0 := (Below.refl W.heap.size W).alloc (Nat.le_refl _) (.cells #[.int .i64 (K : Int), .int .i64 (F : Int)] 25)
  have c0 := (hb1.cell (p := ⟨W.heap.size, 0, none⟩) (by simp)).trans (cell_new W #[.int .i64 (K : Int), .int .i64 (F : Int)] 25 _ 0 _ rfl rfl)
  have c1 := (hb1.cell (p := ⟨W.heap.size, 1, none⟩) (by simp)).trans (cell_new W #[.int .i64 (K : Int), .int .i64 (F : Int)] 25 _ 1 _ rfl rfl)
  go_wp2
  go_ret
  exact ⟨by simp [Shp.n], below_next hB0 hb1⟩
theorem quorum_any (s : Shp) (h : s.Ok) (W : World) :
    Calls Tryz.prog 157 #[shv s] W fun e W' => e = .returned (.int .i64 (s.q : Nat)) ∧ Below W.heap.size W W' := by
  have hr := Lib.hid (fun w => cright_yes s h w)
  obtain ⟨K, F⟩ := s
  obtain ⟨h1, h2⟩ := h
  simp only at h1 h2
  unfold shv at hr ⊢
  simp only at hr ⊢
  go_enter Tryz.func157, Tryz.ntmps157
  go_wp2_with fail
  refine (hr.out _).mono ?_
  rintro e w1 ⟨rfl, hb1⟩
  have hB0 := (Below.refl W.heap.size W).alloc (Nat.le_refl _) (.cells #[.int .i64 (K : Int), .int .i64 (F : Int)] 25)
  have c0 := (hb1.cell (p := ⟨W.heap.size, 0, none⟩) (by simp)).trans (cell_new W #[.int .i64 (K : Int), .int .i64 (F : Int)] 25 _ 0 _ rfl rfl)
  have c1 := (hb1.cell (p := ⟨W.heap.size, 1, none⟩) (by simp)).trans (cell_new W #[.int .i64 (K : Int), .int .i64 (F : Int)] 25 _ 1 _ rfl rfl)
  go_wp2
  go_ret
  exact ⟨by simp [Shp.q], below_next hB0 hb1⟩
end Go.Proofs.YtoigogjmhkpdlaaGreat
