/- A part of the proof of WholeFew: the texts CmdB, CmdC, CmdD, CmdE. -/
import Derived.Test.YtoigogjmhkpdlaaGreatJ19
set_option maxHeartbeats 6400000
set_option maxRecDepth 100000
namespace Go.Proofs.YtoigogjmhkpdlaaGreat
open Go.RowKit
theorem three_new (W : World) (o1 o2 o3 : Obj) {w0 : World} (h : ((W.alloc o1).alloc o2).alloc o3 = w0) : w0.heap[W.heap.size]? = some o1 ∧ w0.heap[W.heap.size + 1]? = some o2 ∧ w0.heap[W.heap.size + 2]? = some o3 ∧ Below W.heap.size W w0 ∧ w0.heap.size = W.heap.size + 3 := by
  subst h
  obtain ⟨h1, h2, hb, hs⟩ := two_new W o1 o2 rfl
  refine ⟨(heap_alloc_old _ _ (by omega)).trans h1, (heap_alloc_old _ _ (by omega)).trans h2, new_at _ _ _ (by omega), hb.alloc (by omega) _, by simp⟩
def fitsB (c : Cm) : Bool := if c.kind = 5 then decide ((c.row.size : Int) ≤ 64) && decide ((c.to.size : Int) ≤ 64) && decide (0 ≤ c.at_) && decide (c.at_ ≤ 4294967295) else rightB ⟨c.row, c.col, c.at_, c.value, false⟩ && rightB ⟨c.row, c.col, c.at_, c.expect, false⟩
theorem fits_any (c : Cm) (W : World) : Calls Tryz.prog 54 #[cmv c] W fun e W' => e = .returned (.bool (fitsB c)) ∧ Below W.heap.size W W' := by
  have HR := Lib.hid (fun r c a v g w => show Calls _ _ #[.agg #[.string r, .string c, .int .i64 a, .string v, .bool g]] w _ from cellright_any ⟨r, c, a, v, g⟩ w)
  obtain ⟨cl, sq, kind, row, col, to, at_, value, expect, has⟩ := c
  unfold cmv cmcells
  simp only []
  have HB := Lib.hid (show Below W.heap.size W (W.alloc (.cells #[.int .i64 cl, .int .i64 sq, .int .i64 kind, .string row, .string col, .string to, .int .i64 at_, .string value, .string expect, .bool has] 23)) from (Below.refl _ _).alloc (Nat.le_refl _) _)
  by_cases hk : kind = 5
  · subst hk
    rcases bool_dec (decide ((row.size : Int) ≤ 64)) with h1 | h1
    · have _ := h1
      have HC := Lib.hid (show fitsB ⟨cl, sq, 5, row, col, to, at_, value, expect, has⟩ = false by simp [fitsB, *])
      rw [HC.out]
      go_enter Tryz.func54, Tryz.ntmps54
      go_wp2
      go_ret
      exact ⟨rfl, HB.out⟩
    · have _ := h1
      rcases bool_dec (decide ((to.size : Int) ≤ 64)) with h2 | h2
      · have _ := h2
        have HC := Lib.hid (show fitsB ⟨cl, sq, 5, row, col, to, at_, value, expect, has⟩ = false by simp [fitsB, *])
        rw [HC.out]
        go_enter Tryz.func54, Tryz.ntmps54
        go_wp2
        go_ret
        exact ⟨rfl, HB.out⟩
      · have _ := h2
        rcases bool_dec (decide ((0 : Int) ≤ at_)) with h3 | h3
        · have _ := h3
          have HC := Lib.hid (show fitsB ⟨cl, sq, 5, row, col, to, at_, value, expect, has⟩ = false by simp [fitsB, *])
          rw [HC.out]
          go_enter Tryz.func54, Tryz.ntmps54
          go_wp2
          go_ret
          exact ⟨rfl, HB.out⟩
        · have _ := h3
          rcases bool_dec (decide (at_ ≤ 4294967295)) with h4 | h4
          · have _ := h4
            have HC := Lib.hid (show fitsB ⟨cl, sq, 5, row, col, to, at_, value, expect, has⟩ = false by simp [fitsB, *])
            rw [HC.out]
            go_enter Tryz.func54, Tryz.ntmps54
            go_wp2
            go_ret
            exact ⟨rfl, HB.out⟩
          · have _ := h4
            have HC := Lib.hid (show fitsB ⟨cl, sq, 5, row, col, to, at_, value, expect, has⟩ = true by simp [fitsB, *])
            rw [HC.out]
            go_enter Tryz.func54, Tryz.ntmps54
            go_wp2
            go_ret
            exact ⟨rfl, HB.out⟩
  · have hkf : (kind == 5) = false := by rw [beq_eq_false_iff_ne]; exact hk
    have HC : Hid (fitsB ⟨cl, sq, kind, row, col, to, at_, value, expect, has⟩ = (rightB ⟨row, col, at_, value, false⟩ && rightB ⟨row, col, at_, expect, false⟩)) := Lib.hid (by simp [fitsB, hk])
    rw [HC.out]
    go_enter Tryz.func54, Tryz.ntmps54
    go_wp2_with fail
    generalize hw3 : World.alloc (World.alloc (World.alloc W _) _) _ = w3
    obtain ⟨_, _, hy3, hb3, hs3⟩ := three_new _ _ _ _ hw3
    clear hw3
    refine (HR.out row col at_ value false _).mono ?_
    rintro e w4 ⟨rfl, hb4⟩
    have hy4 := (hb4.block (W.heap.size + 2) (by omega)).trans hy3
    have y0 := cob hy4 0 rfl
    have y1 := cob hy4 1 rfl
    have y2 := cob hy4 2 rfl
    have y3 := cob hy4 3 rfl
    have y4 := cob hy4 4 rfl
    have HB4 := Lib.hid (show Below W.heap.size W w4 from hb3.trans (hb4.mono (by omega)))
    clear hy3 hy4 hb3 hb4
    rcases bool_dec (rightB ⟨row, col, at_, value, false⟩) with h1 | h1
    · have HC2 := Lib.hid (show (rightB ⟨row, col, at_, value, false⟩ && rightB ⟨row, col, at_, expect, false⟩) = false by rw [h1]; rfl)
      go_wp2
      go_ret
      exact ⟨by rw [HC2.out]; rfl, HB4.out⟩
    · have HC2 := Lib.hid (show (rightB ⟨row, col, at_, value, false⟩ && rightB ⟨row, col, at_, expect, false⟩) = rightB ⟨row, col, at_, expect, false⟩ by rw [h1]; rfl)
      go_wp2_with (first | (go_at_call 89; refine (HR.out row col at_ expect false _).mono ?_; rintro e w5 ⟨rfl, hb5⟩))
      go_ret
      exact ⟨by rw [HC2.out]; rfl, HB4.out.trans (hb5.mono HB4.out.size)⟩
theorem bare_any (c : Cm) (h1 : 1 ≤ c.kind) (h2 : c.kind ≤ 5) (W : World) : Calls Tryz.prog 53 #[cmv c] W fun e W' => e = .returned (.bool (bareB c)) ∧ Below W.heap.size W W' := by
  obtain ⟨cl, sq, kind, row, col, to, at_, value, expect, has⟩ := c
  simp only at h1 h2
  have : kind = 1 ∨ kind = 2 ∨ kind = 3 ∨ kind = 4 ∨ kind = 5 := by omega
  rcases this with rfl | rfl | rfl | rfl | rfl
  · exact bare1_any cl sq row col to at_ value expect has W
  · exact bare2_any cl sq row col to at_ value expect has W
  · exact bare3_any cl sq row col to at_ value expect has W
  · exact bare4_any cl sq row col to at_ value expect has W
  · exact bare5_any cl sq row col to at_ value expect has W
def soundB (c : Cm) : Bool := !decide (c.client < 1) && !decide (16 < c.client) && !decide (c.seq < 1) && !decide (2147483647 < c.seq) && !decide (c.kind < 1) && !decide (5 < c.kind) && bareB c && fitsB c
theorem sound_any (c : Cm) (W : World) : Calls Tryz.prog 27 #[cmv c] W fun e W' => e = .returned (.bool (soundB c)) ∧ Below W.heap.size W W' := by
  obtain ⟨x, hx⟩ : ∃ x, x = c := ⟨_, rfl⟩
  have HBa := Lib.hid (fun h1 h2 w => bare_any c h1 h2 w)
  have HFi := Lib.hid (fun w => fits_any c w)
  have HX := Lib.hid hx
  clear hx
  obtain ⟨cl, sq, kind, row, col, to, at_, value, expect, has⟩ := c
  unfold cmv cmcells at HBa HFi ⊢
  simp only [] at HBa HFi ⊢
  rw [← HX.out]
  have HB := Lib.hid (show Below W.heap.size W (W.alloc (.cells #[.int .i64 cl, .int .i64 sq, .int .i64 kind, .string row, .string col, .string to, .int .i64 at_, .string value, .string expect, .bool has] 23)) from (Below.refl _ _).alloc (Nat.le_refl _) _)
  rcases bool_dec (decide (cl < 1)) with h1 | h1
  · have _ := h1
    rcases bool_dec (decide (16 < cl)) with h2 | h2
    · have _ := h2
      rcases bool_dec (decide (sq < 1)) with h3 | h3
      · have _ := h3
        rcases bool_dec (decide (2147483647 < sq)) with h4 | h4
        · have _ := h4
          rcases bool_dec (decide (kind < 1)) with h5 | h5
          · have _ := h5
            rcases bool_dec (decide (5 < kind)) with h6 | h6
            · have _ := h6
              have HC : Hid (soundB x = (bareB x && fitsB x)) := Lib.hid (by rw [HX.out]; simp only [soundB]; simp [*])
              have HBb := Lib.hid (HBa.out (by have := of_decide_eq_false h5; omega) (by have := of_decide_eq_false h6; omega))
              rw [HC.out]
              rw [← HX.out] at HBb HFi
              go_enter Tryz.func27, Tryz.ntmps27
              go_wp2_with fail
              generalize hw1 : World.alloc W _ = w1
              have hX1 := named_new hw1.symm
              have hb1 := named_below hw1.symm
              have hs1 : W.heap.size < w1.heap.size := by rw [named_size hw1.symm]; omega
              clear hw1
              refine (HBb.out w1).mono ?_
              rintro e w2 ⟨rfl, hb2⟩
              have hX2 := (hb2.block W.heap.size hs1).trans hX1
              have HB2 := Lib.hid (show Below W.heap.size W w2 from hb1.trans (hb2.mono (by omega)))
              have x0 := cob hX2 0 rfl
              have x1 := cob hX2 1 rfl
              have x2 := cob hX2 2 rfl
              have x3 := cob hX2 3 rfl
              have x4 := cob hX2 4 rfl
              have x5 := cob hX2 5 rfl
              have x6 := cob hX2 6 rfl
              have x7 := cob hX2 7 rfl
              have x8 := cob hX2 8 rfl
              have x9 := cob hX2 9 rfl
              clear hX1 hX2 hb1 hb2
              rcases bool_dec (bareB x) with h7 | h7
              · have HC2 := Lib.hid (show (bareB x && fitsB x) = false by rw [h7]; rfl)
                go_wp2
                go_ret
                exact ⟨by rw [HC2.out]; rfl, HB2.out⟩
              · have HC2 := Lib.hid (show (bareB x && fitsB x) = fitsB x by rw [h7]; rfl)
                go_wp2_with (first | (go_at_call 54; refine (HFi.out _).mono ?_; rintro e w3 ⟨rfl, hb3⟩))
                go_ret
                exact ⟨by rw [HC2.out]; rfl, HB2.out.trans (hb3.mono HB2.out.size)⟩
            · have _ := h6
              have HC := Lib.hid (show soundB x = false by rw [HX.out]; simp only [soundB]; simp [*])
              rw [HC.out]
              go_enter Tryz.func27, Tryz.ntmps27
              go_wp2
              go_ret
              exact ⟨rfl, HB.out⟩
          · have _ := h5
            have HC := Lib.hid (show soundB x = false by rw [HX.out]; simp only [soundB]; simp [*])
            rw [HC.out]
            go_enter Tryz.func27, Tryz.ntmps27
            go_wp2
            go_ret
            exact ⟨rfl, HB.out⟩
        · have _ := h4
          have HC := Lib.hid (show soundB x = false by rw [HX.out]; simp only [soundB]; simp [*])
          rw [HC.out]
          go_enter Tryz.func27, Tryz.ntmps27
          go_wp2
          go_ret
          exact ⟨rfl, HB.out⟩
      · have _ := h3
        have HC := Lib.hid (show soundB x = false by rw [HX.out]; simp only [soundB]; simp [*])
        rw [HC.out]
        go_enter Tryz.func27, Tryz.ntmps27
        go_wp2
        go_ret
        exact ⟨rfl, HB.out⟩
    · have _ := h2
      have HC := Lib.hid (show soundB x = false by rw [HX.out]; simp only [soundB]; simp [*])
      rw [HC.out]
      go_enter Tryz.func27, Tryz.ntmps27
      go_wp2
      go_ret
      exact ⟨rfl, HB.out⟩
  · have _ := h1
    have HC := Lib.hid (show soundB x = false by rw [HX.out]; simp only [soundB]; simp [*])
    rw [HC.out]
    go_enter Tryz.func27, Tryz.ntmps27
    go_wp2
    go_ret
    exact ⟨rfl, HB.out⟩
def numsOf (c : Cm) : List Nat := [c.client.toNat, c.seq.toNat, c.kind.toNat, c.at_.toNat, c.has.toNat]
def strsOf (c : Cm) : List ByteArray := [c.row, c.col, c.to, c.value, c.expect]
def cmdN (c : Cm) : List Nat := (numsOf c).flatMap numN ++ (strsOf c).flatMap textN
theorem flat_take {α β : Type} (f : α → List β) {l : List α} {k : Nat} {x : α} (h : l[k]? = some x) : (l.take (k + 1)).flatMap f = (l.take k).flatMap f ++ f x := by
  obtain ⟨hk, he⟩ := List.getElem?_eq_some_iff.1 h
  rw [List.take_succ_eq_append_getElem hk, List.flatMap_append, he]
  simp
theorem textN_len (s : ByteArray) : (textN s).length = 4 + s.size := by simp [textN, numN_length, keyN_length]
theorem take_nums_len (ns : List Nat) (k : Nat) : ((ns.take k).flatMap numN).length ≤ 4 * k := by
  induction k with
  | zero => simp
  | succ k ih =>
    cases h : ns[k]? with
    | none =>
      rw [List.take_of_length_le (by have := List.getElem?_eq_none_iff.1 h; omega)]
      rw [List.take_of_length_le (by have := List.getElem?_eq_none_iff.1 h; omega)] at ih
      omega
    | some x => rw [flat_take numN h, List.length_append, numN_length]; omega
theorem take_texts_len (ss : List ByteArray) (h : ∀ s ∈ ss, s.size ≤ 1000) (k : Nat) : ((ss.take k).flatMap textN).length ≤ 1004 * k := by
  induction k with
  | zero => simp
  | succ k ih =>
    cases hx : ss[k]? with
    | none =>
      rw [List.take_of_length_le (by have := List.getElem?_eq_none_iff.1 hx; omega)]
      rw [List.take_of_length_le (by have := List.getElem?_eq_none_iff.1 hx; omega)] at ih
      omega
    | some x => rw [flat_take textN hx, List.length_append, textN_len]; have := h x (List.mem_of_getElem? hx); omega
theorem bytes_any (cl sq kd : Nat) (row col to : ByteArray) (at_ : Nat) (value expect : ByteArray) (has : Bool) (h1 : cl ≤ 4294967295) (h2 : sq ≤ 4294967295) (h3 : kd ≤ 4294967295) (h4 : at_ ≤ 4294967295)
    (hs : ∀ s ∈ [row, col, to, value, expect], s.size ≤ 1000) (W : World) :
    Calls Tryz.prog 28 #[cmv ⟨cl, sq, kd, row, col, to, at_, value, expect, has⟩] W fun e W' => e = .returned (.string (strN (cmdN ⟨cl, sq, kd, row, col, to, at_, value, expect, has⟩))) ∧ Below W.heap.size W W' := by
  obtain ⟨i0, hi, hz0, hz1, hz2⟩ := info_parts Tryz.infoB
  have HS := Lib.hid hs
  clear hs
  obtain ⟨hn, hhn⟩ : ∃ hn : Nat, hn = has.toNat := ⟨_, rfl⟩
  have hn1 : hn ≤ 1 := by rw [hhn]; cases has <;> decide
  obtain ⟨ns, hns⟩ : ∃ ns, ns = [cl, sq, kd, at_, hn] := ⟨_, rfl⟩
  obtain ⟨ss, hss⟩ : ∃ ss, ss = [row, col, to, value, expect] := ⟨_, rfl⟩
  have HC : Hid (cmdN ⟨cl, sq, kd, row, col, to, at_, value, expect, has⟩ = ns.flatMap numN ++ ss.flatMap textN) := Lib.hid (by rw [hns, hss, hhn]; rfl)
  have HNs := Lib.hid (show ∀ x ∈ ns, x ≤ 4294967295 by
    intro x hx
    rw [hns] at hx
    simp only [List.mem_cons, List.not_mem_nil, or_false] at hx
    omega)
  have HSs := Lib.hid (show ∀ x ∈ ss, x.size ≤ 1000 by rw [hss]; exact HS.out)
  have HNc := Lib.hid (show ∀ (k : Nat) (x : Nat), ns[k]? = some x → (#[.int .i64 (cl : Int), .int .i64 (sq : Int), .int .i64 (kd : Int), .int .i64 (at_ : Int), .int .i64 (hn : Int)] : Array Value)[k]? = some (Value.int .i64 (x : Int)) by
    intro k x hx
    rw [hns] at hx
    rcases k with _ | _ | _ | _ | _ | k <;> simp at hx ⊢
    all_goals first | exact congrArg _ hx | exact hx)
  have HSc := Lib.hid (show ∀ (k : Nat) (x : ByteArray), ss[k]? = some x → (#[.string row, .string col, .string to, .string value, .string expect] : Array Value)[k]? = some (Value.string x) by
    intro k x hx
    rw [hss] at hx
    rcases k with _ | _ | _ | _ | _ | k <;> simp at hx ⊢
    all_goals exact hx)
  have hnl : ns.length = 5 := by rw [hns]; rfl
  have hsl : ss.length = 5 := by rw [hss]; rfl
  have HNl := Lib.hid hnl
  have HSl := Lib.hid hsl
  rw [HC.out]
  clear hns hss hnl hsl
  unfold cmv cmcells
  simp only []
  cases has
  all_goals
    simp only [Bool.toNat_false, Bool.toNat_true] at hhn
    subst hhn
    go_enter Tryz.func28, Tryz.ntmps28
    go_wp2
    generalize hw2 : World.alloc (World.alloc W _) _ = w2
    obtain ⟨hX2, hR2, hb2, hs2⟩ := two_new _ _ _ hw2.symm
    have hs2' : W.heap.size + 1 < w2.heap.size := by omega
    clear hw2 hs2
    go_loopw [4, 22] (fun o i wr => ∃ (k : Nat) (L : List Nat) (A2 : Option Addr) (c2 : Nat), k ≤ 5 ∧ i = .int .i64 k ∧ o = .slice A2 L.length c2 ∧ Hid (L = (ns.take k).flatMap numN) ∧ OwnB 5 wr w2.heap.size A2 c2 L ∧ Below w2.heap.size w2 wr) (fun _ i _ => 5 - (intOf i).toNat)
    case atStart => exact ⟨0, [], none, 0, by omega, rfl, rfl, Lib.hid rfl, OwnB.nil _ _ _, Below.refl _ _⟩
    case round =>
      rename World => wo
      obtain ⟨k, L, A2, c2, hk, rfl, rfl, HL, hO, hB⟩ := hrel
      have hLl : L.length ≤ 20 := by rw [HL.out]; have := take_nums_len ns k; omega
      have hsw := hB.size
      by_cases hk5 : k < 5
      · obtain ⟨x, hx⟩ : ∃ x, ns[k]? = some x := ⟨_, List.getElem?_eq_getElem (by rw [HNl.out]; exact hk5)⟩
        have hx4 := HNs.out x (List.mem_of_getElem? hx)
        have hRr := (hB.block (W.heap.size + 1) (by omega)).trans hR2
        have q := cob hRr k (HNc.out k x hx)
        have Hx := Lib.hid hx
        clear hx hRr
        go_wp2_with (first | (have _ := hl5; at_builtin; refine wpList_append_bytes _ rfl (.tmp 26) (.tmp 28) _ rfl w2.heap.size 5 i0 Tryz.underlying67 hi hz0 hz1 hz2 A2 c2 L rfl (hO.below hb5 (Nat.le_refl _)) A5 c5 L5 rfl ho5.rd (by omega) (by omega) ?_; intro X2 B4 d4 w8 hX2 ho8 hb8) | (go_at_call 55; refine (num_any x hx4 _).mono ?_; rintro e w5 ⟨L5, A5, c5, H5, rfl, ho5, hc5, hb5⟩; have hl5 : L5.length ≤ 4 := (by rw [H5.out, numN_length]; exact Nat.le_refl _); have hb5s := hb5.size))
        have HX : Hid (X2 = (ns.take (k + 1)).flatMap numN) := Lib.hid (by rw [hX2.out, HL.out, H5.out, flat_take numN Hx.out])
        have hB8 : Below w2.heap.size w2 w8 := (hB.trans (hb5.mono (by omega))).trans hb8
        clear hX2 hb8 hb5
        go_roundw
        case rel => exact ⟨k + 1, X2, B4, d4, by omega, by go_num, rfl, HX, ho8, hB8⟩
        case measure => simp [intOf]; omega
      · obtain rfl : k = 5 := by omega
        have hXr := (hB.block W.heap.size (by omega)).trans hX2
        have x3 := cob hXr 3 rfl
        have x4 := cob hXr 4 rfl
        have x5 := cob hXr 5 rfl
        have x7 := cob hXr 7 rfl
        have x8 := cob hXr 8 rfl
        have HL5 : Hid (L = ns.flatMap numN) := Lib.hid (by rw [HL.out, List.take_of_length_le (by rw [HNl.out]; exact Nat.le_refl _)])
        have HBW : Hid (Below W.heap.size W wo) := Lib.hid (hb2.trans (hB.mono (by omega)))
        clear hXr hX2 hR2 HL
        go_wp2
        generalize hw3 : World.alloc wo _ = w3
        have hR3 := named_new hw3.symm
        have hb3 := named_below hw3.symm
        have hs3 : wo.heap.size < w3.heap.size := by rw [named_size hw3.symm]; omega
        have hO3 := hO.below hb3 (Nat.le_refl _)
        have hBr := Lib.hid hB
        clear hw3 x3 x4 x5 x7 x8 hB
        have hA2 : blk A2 ≠ some wo.heap.size := fun e => by have := (hO3.lt _ e).2; have := (hO.lt _ e).2; omega
        clear hO
        go_loopw [4, 43] (fun o i wq => ∃ (k : Nat) (L2 : List Nat) (A3 : Option Addr) (c3 : Nat), k ≤ 5 ∧ i = .int .i64 k ∧ o = .slice A3 L2.length c3 ∧ Hid (L2 = L ++ (ss.take k).flatMap textN) ∧ OwnB 5 wq w2.heap.size A3 c3 L2 ∧ Below w2.heap.size w2 wq ∧ wo.heap.size < wq.heap.size ∧ wq.heap[wo.heap.size]? = some (.cells #[.string row, .string col, .string to, .string value, .string expect] 9) ∧ blk A3 ≠ some wo.heap.size) (fun _ i _ => 5 - (intOf i).toNat)
        case atStart => exact ⟨0, L, A2, c2, by omega, rfl, rfl, Lib.hid (by simp), hO3, hBr.out.trans (hb3.mono (by omega)), hs3, hR3, hA2⟩
        case round =>
          obtain ⟨k, L2, A3, c3, hk, rfl, rfl, HL2, hOq, hBq, hsq, hRq, hA3⟩ := hrel
          have hLq : L2.length ≤ 5100 := by rw [HL2.out, List.length_append]; have := take_texts_len ss HSs.out k; omega
          have hsw2 := hBq.size
          by_cases hk5 : k < 5
          · obtain ⟨x, hx⟩ : ∃ x, ss[k]? = some x := ⟨_, List.getElem?_eq_getElem (by rw [HSl.out]; exact hk5)⟩
            have hx4 := HSs.out x (List.mem_of_getElem? hx)
            have q := cob hRq k (HSc.out k x hx)
            have HRq := Lib.hid hRq
            have Hx := Lib.hid hx
            clear hx hRq
            go_wp2_with (first | (have _ := hl5; at_builtin; refine wpList_append_bytes_at _ rfl (.tmp 47) (.tmp 49) _ rfl w2.heap.size 5 i0 Tryz.underlying67 hi hz0 hz1 hz2 A3 c3 L2 rfl (hOq.below hb5 (Nat.le_refl _)) A5 c5 L5 rfl ho5.rd (by omega) (by omega) ?_; intro X2 B4 d4 w8 hX2 ho8 hb8 hg8 ha8) | (go_at_call 56; refine (text_any x (by omega) _).mono ?_; rintro e w5 ⟨L5, A5, c5, H5, rfl, ho5, hc5, hb5⟩; have hl5 : L5.length ≤ 1004 := (by rw [H5.out, textN_len]; omega); have hb5s := hb5.size))
            have HX : Hid (X2 = L ++ (ss.take (k + 1)).flatMap textN) := Lib.hid (by rw [hX2.out, HL2.out, H5.out, flat_take textN Hx.out, List.append_assoc])
            have hB8 : Below w2.heap.size w2 w8 := (hBq.trans (hb5.mono (by omega))).trans hb8
            have hs8 : wo.heap.size < w8.heap.size := by have := hg8.size; omega
            have hR8 := (hg8.block wo.heap.size (by omega) (fun e => hA3 e.symm)).trans ((hb5.block wo.heap.size hsq).trans HRq.out)
            have hA8 : blk B4 ≠ some wo.heap.size := fun e => by
              rcases ha8 with h | h
              · exact hA3 (by rw [← h]; exact e)
              · rw [h] at e; injection e with e; omega
            clear hX2 hb8 hb5 hg8 ha8
            go_roundw
            case rel =>
              refine ⟨_, _, _, _, _, _, _, _, _, _, _, ⟨k + 1, X2, B4, d4, by omega, ?_, rfl, HX, ho8, hB8, hs8, hR8, hA8⟩, rfl⟩
              go_num
            case measure => simp [intOf]; omega
          · obtain rfl : k = 5 := by omega
            have HLf : Hid (L2 = ns.flatMap numN ++ ss.flatMap textN) := Lib.hid (by rw [HL2.out, HL5.out, List.take_of_length_le (by rw [HSl.out]; exact Nat.le_refl _)])
            have hcv := run_conv_bytes wr _ _ 5 Tryz.underlying67 Tryz.underlying5 Tryz.underlying9 A3 L2 c3 hOq.rd
            go_wp2
            go_ret
            exact ⟨by rw [← HLf.out]; rfl, hb2.trans (hBq.mono (by omega))⟩
theorem tl_len (bs : ByteArray) : bs.toList.length = bs.size := by
  have H : ∀ n i r, bs.size - i = n → (ByteArray.toList.loop bs i r).length = r.length + (bs.size - i) := by
    intro n
    induction n with
    | zero =>
      intro i r h
      rw [ByteArray.toList.loop, if_neg (by omega)]
      simp; omega
    | succ n ih =>
      intro i r h
      rw [ByteArray.toList.loop, if_pos (by omega), ih (i + 1) _ (by omega)]
      simp; omega
  have := H _ 0 [] rfl
  simpa [ByteArray.toList] using this
theorem em_size {s : ByteArray} (h : s.toList.isEmpty = true) : s.size = 0 := by
  rw [← tl_len, List.isEmpty_iff.1 h]; rfl
structure SoundC (c : Cm) : Prop where
  c1 : 1 ≤ c.client
  c2 : c.client ≤ 16
  s1 : 1 ≤ c.seq
  s2 : c.seq ≤ 2147483647
  k1 : 1 ≤ c.kind
  k2 : c.kind ≤ 5
  a1 : 0 ≤ c.at_
  a2 : c.at_ ≤ 4294967295
  sz : ∀ s ∈ [c.row, c.col, c.to, c.value, c.expect], s.size ≤ 256
theorem sound_sizes {c : Cm} (h : soundB c = true) : SoundC c := by
  obtain ⟨cl, sq, kind, row, col, to, at_, value, expect, has⟩ := c
  simp only [soundB, Bool.and_eq_true, Bool.not_eq_true', decide_eq_false_iff_not] at h
  obtain ⟨⟨⟨⟨⟨⟨⟨h1, h2⟩, h3⟩, h4⟩, h5⟩, h6⟩, hb⟩, hf⟩ := h
  have hk : kind = 1 ∨ kind = 2 ∨ kind = 3 ∨ kind = 4 ∨ kind = 5 := by omega
  simp only [bareB, Bool.and_eq_true, Bool.or_eq_true] at hb
  obtain ⟨⟨⟨⟨b1, b2⟩, b3⟩, b4⟩, b5⟩ := hb
  by_cases k5 : kind = 5
  · subst k5
    simp only [fitsB, if_true, Bool.and_eq_true, decide_eq_true_eq] at hf
    simp only [partOf] at b1 b3 b4
    simp at b1 b3 b4
    have e1 := em_size (s := col) (by simpa using b1)
    have e3 := em_size (s := value) (by simpa using b3)
    have e4 := em_size (s := expect) (by simpa using b4.2)
    refine ⟨show 1 ≤ cl by omega, show cl ≤ 16 by omega, show 1 ≤ sq by omega, show sq ≤ 2147483647 by omega, show (1 : Int) ≤ 5 by omega, show (5 : Int) ≤ 5 by omega, show 0 ≤ at_ by omega, show at_ ≤ 4294967295 by omega, ?_⟩
    intro s hs
    simp only [List.mem_cons, List.not_mem_nil, or_false] at hs
    rcases hs with rfl | rfl | rfl | rfl | rfl <;> omega
  · simp only [fitsB, if_neg k5, rightB, nameB, Bool.and_eq_true, decide_eq_true_eq] at hf
    have b2' : to.toList.isEmpty = true := by
      rcases b2 with b2 | b2
      · simp only [partOf] at b2
        rcases hk with rfl | rfl | rfl | rfl | rfl <;> simp at b2 k5
      · exact b2
    have e2 := em_size b2'
    refine ⟨show 1 ≤ cl by omega, show cl ≤ 16 by omega, show 1 ≤ sq by omega, show sq ≤ 2147483647 by omega, show 1 ≤ kind by omega, show kind ≤ 5 by omega, show 0 ≤ at_ by omega, show at_ ≤ 4294967295 by omega, ?_⟩
    intro s hs
    simp only [List.mem_cons, List.not_mem_nil, or_false] at hs
    rcases hs with rfl | rfl | rfl | rfl | rfl <;> omega
def rightC (c : Cm) : Bool := soundB c && decide ((cmdN c).length ≤ 512)
theorem cbytes_any (c : Cm) (h : soundB c = true) (W : World) : Calls Tryz.prog 28 #[cmv c] W fun e W' => e = .returned (.string (strN (cmdN c))) ∧ Below W.heap.size W W' := by
  obtain ⟨c1, c2, s1, s2, k1, k2, a1, a2, sz⟩ := sound_sizes h
  obtain ⟨cl, sq, kind, row, col, to, at_, value, expect, has⟩ := c
  simp only at c1 c2 s1 s2 k1 k2 a1 a2 sz
  obtain ⟨cl, rfl⟩ : ∃ n : Nat, cl = n := ⟨cl.toNat, by omega⟩
  obtain ⟨sq, rfl⟩ : ∃ n : Nat, sq = n := ⟨sq.toNat, by omega⟩
  obtain ⟨kind, rfl⟩ : ∃ n : Nat, kind = n := ⟨kind.toNat, by omega⟩
  obtain ⟨at_, rfl⟩ : ∃ n : Nat, at_ = n := ⟨at_.toNat, by omega⟩
  exact bytes_any cl sq kind row col to at_ value expect has (by omega) (by omega) (by omega) (by omega) (fun s hs => Nat.le_trans (sz s hs) (by omega)) W
theorem cmdright_any (c : Cm) (W : World) : Calls Tryz.prog 9 #[cmv c] W fun e W' => e = .returned (.bool (rightC c)) ∧ Below W.heap.size W W' := by
  obtain ⟨x, hx⟩ : ∃ x, x = c := ⟨_, rfl⟩
  have HSo := Lib.hid (fun w => sound_any c w)
  have HBy := Lib.hid (fun h w => cbytes_any c h w)
  have HX := Lib.hid hx
  clear hx
  obtain ⟨cl, sq, kind, row, col, to, at_, value, expect, has⟩ := c
  unfold cmv cmcells at HSo HBy ⊢
  simp only [] at HSo HBy ⊢
  rw [← HX.out] at HSo HBy ⊢
  go_enter Tryz.func9, Tryz.ntmps9
  go_wp2_with fail
  generalize hw1 : World.alloc W _ = w1
  have hX1 := named_new hw1.symm
  have hb1 := named_below hw1.symm
  have hs1 : W.heap.size < w1.heap.size := by rw [named_size hw1.symm]; omega
  clear hw1
  refine (HSo.out w1).mono ?_
  rintro e w2 ⟨rfl, hb2⟩
  have hX2 := (hb2.block W.heap.size hs1).trans hX1
  have HB2 := Lib.hid (show Below W.heap.size W w2 from hb1.trans (hb2.mono (by omega)))
  have x0 := cob hX2 0 rfl
  have x1 := cob hX2 1 rfl
  have x2 := cob hX2 2 rfl
  have x3 := cob hX2 3 rfl
  have x4 := cob hX2 4 rfl
  have x5 := cob hX2 5 rfl
  have x6 := cob hX2 6 rfl
  have x7 := cob hX2 7 rfl
  have x8 := cob hX2 8 rfl
  have x9 := cob hX2 9 rfl
  clear hX1 hX2 hb1 hb2
  rcases bool_dec (soundB x) with h7 | h7
  · have HC2 := Lib.hid (show rightC x = false by unfold rightC; rw [h7]; rfl)
    go_wp2
    go_ret
    exact ⟨by rw [HC2.out]; rfl, HB2.out⟩
  · have HC2 := Lib.hid (show rightC x = decide ((cmdN x).length ≤ 512) by unfold rightC; rw [h7]; rfl)
    have HBz := Lib.hid (HBy.out h7)
    obtain ⟨y, hy⟩ : ∃ y, y = strN (cmdN x) := ⟨_, rfl⟩
    have HY := Lib.hid (show (cmdN x).length = y.size by rw [hy, strN_size])
    rw [← hy] at HBz
    clear hy
    by_cases hl : y.size ≤ 512
    · have hd : decide ((y.size : Int) ≤ 512) = true := by simp; omega
      have HC3 := Lib.hid (show rightC x = true by rw [HC2.out, HY.out]; simpa using hl)
      go_wp2_with (first | (go_at_call 28; refine (HBz.out _).mono ?_; rintro e w3 ⟨rfl, hb3⟩))
      go_ret
      exact ⟨by rw [HC3.out]; rfl, HB2.out.trans (hb3.mono HB2.out.size)⟩
    · have hd : decide ((y.size : Int) ≤ 512) = false := by simp; omega
      have HC3 := Lib.hid (show rightC x = false by rw [HC2.out, HY.out]; simpa using hl)
      go_wp2_with (first | (go_at_call 28; refine (HBz.out _).mono ?_; rintro e w3 ⟨rfl, hb3⟩))
      go_ret
      exact ⟨by rw [HC3.out]; rfl, HB2.out.trans (hb3.mono HB2.out.size)⟩
theorem cmdput_any (c : Cm) (hr : rightC c = true) (W : World) : Calls Tryz.prog 92 #[cmv c] W fun e W' => e = .returned (.tuple #[.string (strN (cmdN c)), .int .i64 0]) ∧ Below W.heap.size W W' := by
  have hs : soundB c = true := by unfold rightC at hr; simp only [Bool.and_eq_true] at hr; exact hr.1
  have HSo := Lib.hid (fun w => sound_any c w)
  have HRi := Lib.hid (fun w => cmdright_any c w)
  have HBy := Lib.hid (fun w => cbytes_any c hs w)
  rw [hs] at HSo
  rw [hr] at HRi
  clear hs hr
  obtain ⟨y, hy⟩ : ∃ y, y = strN (cmdN c) := ⟨_, rfl⟩
  rw [← hy] at HBy ⊢
  clear hy
  obtain ⟨cl, sq, kind, row, col, to, at_, value, expect, has⟩ := c
  unfold cmv cmcells at HSo HBy HRi ⊢
  simp only [] at HSo HBy HRi ⊢
  go_enter Tryz.func92, Tryz.ntmps92
  go_wp2_with fail
  generalize hw1 : World.alloc W _ = w1
  have hX1 := named_new hw1.symm
  have hb1 := named_below hw1.symm
  have hs1 : W.heap.size < w1.heap.size := by rw [named_size hw1.symm]; omega
  clear hw1
  refine (HSo.out w1).mono ?_
  rintro e w2 ⟨rfl, hb2⟩
  have hX2 := (hb2.block W.heap.size hs1).trans hX1
  have HB2 := Lib.hid (show Below W.heap.size W w2 from hb1.trans (hb2.mono (by omega)))
  have hs2 : W.heap.size < w2.heap.size := Nat.lt_of_lt_of_le hs1 hb2.size
  have x0 := cob hX2 0 rfl
  have x1 := cob hX2 1 rfl
  have x2 := cob hX2 2 rfl
  have x3 := cob hX2 3 rfl
  have x4 := cob hX2 4 rfl
  have x5 := cob hX2 5 rfl
  have x6 := cob hX2 6 rfl
  have x7 := cob hX2 7 rfl
  have x8 := cob hX2 8 rfl
  have x9 := cob hX2 9 rfl
  clear hX1 hb1 hb2
  go_wp2_with fail
  refine (HRi.out w2).mono ?_
  rintro e w3 ⟨rfl, hb3⟩
  clear x0 x1 x2 x3 x4 x5 x6 x7 x8 x9
  have hX3 := (hb3.block W.heap.size hs2).trans hX2
  have HB3 := Lib.hid (HB2.out.trans (hb3.mono HB2.out.size))
  clear hX2 hb3
  have x0 := cob hX3 0 rfl
  have x1 := cob hX3 1 rfl
  have x2 := cob hX3 2 rfl
  have x3 := cob hX3 3 rfl
  have x4 := cob hX3 4 rfl
  have x5 := cob hX3 5 rfl
  have x6 := cob hX3 6 rfl
  have x7 := cob hX3 7 rfl
  have x8 := cob hX3 8 rfl
  have x9 := cob hX3 9 rfl
  go_wp2_with (first | (go_at_call 28; refine (HBy.out _).mono ?_; rintro e w4 ⟨rfl, hb4⟩))
  go_ret2
  exact ⟨rfl, HB3.out.trans (hb4.mono HB3.out.size)⟩
theorem results_ct {P : Program} {fn : Func} {p t : Tmp} {ty : TypeId} (h : fn.results = #[.cell p ty, .tmp t]) (tmps : Array Value) (w : World) (g : Nat) (tt : TypeId) (cs : Array Value) (fr : Nat × Nat) (d : TypeDesc)
    (hp : tmps.getD p undef = .pointer (some ⟨g, 0, none⟩)) (hg : w.heap[g]? = some (.cells cs tt fr))
    (hu : P.underlying ty = some d) (hd : (match d with | .struct _ | .array _ _ => true | _ => false) = true) (hi : (P.info? ty).map (·.size) = some cs.size) :
    (results fn tmps).run P w = .ok (.tuple #[.agg cs, tmps.getD t undef]) w := by
  have hp' : tmps[p]?.getD undef = .pointer (some ⟨g, 0, none⟩) := by simpa using hp
  simp [results, h, hp', asAddr, run_loadVar_row w g tt ty cs fr d hg hu hd hi]
theorem Tryz.sizeC : (Tryz.prog.info? 23).map (·.size) = some 10 := by kernel_rfl
theorem cmdN_bytes (c : Cm) : Bytes (cmdN c) := by
  intro x hx
  rcases List.mem_append.1 hx with h | h
  · obtain ⟨n, _, h⟩ := List.mem_flatMap.1 h; exact numN_bytes _ x h
  · obtain ⟨s, _, h⟩ := List.mem_flatMap.1 h
    rcases List.mem_append.1 h with h | h
    · exact numN_bytes _ x h
    · exact keyN_bytes _ x h
theorem drop_cons {α : Type} {l : List α} {k : Nat} {x : α} (h : l[k]? = some x) : l.drop k = x :: l.drop (k + 1) := by
  obtain ⟨hk, he⟩ := List.getElem?_eq_some_iff.1 h
  rw [List.drop_eq_getElem_cons hk, he]
theorem keyN_strN {l : List Nat} (h : Bytes l) : keyN (strN l) = l := by
  unfold keyN strN
  rw [strOfNums_data, List.map_map, List.map_map]
  conv => rhs; rw [← List.map_id l]
  apply List.map_congr_left
  intro x hx
  have := h x hx
  simp
  omega
theorem bytes_sub {a b : List Nat} (h : Bytes (a ++ b)) : Bytes b := fun x hx => h x (List.mem_append.2 (.inr hx))
theorem RdB.beside {w : World} {A : Option Addr} {l : List Nat} (h : RdB w A l) {g k : Nat} {cs : Array Value} {t : TypeId} {fr : Nat × Nat} (hg : w.heap[g]? = some (.cells cs t fr)) (hs : ∀ (j : Nat) (v : Value), cs[j]? = some v → ∃ s, v = Value.string s) (x : Value) : RdB (w.setCell ⟨g, k, none⟩ x) A l := by
  by_cases h0 : 0 < l.length
  · refine h.of_block fun q hq => heap_setCell_other _ _ _ _ (fun e => ?_)
    obtain ⟨ad, rfl, hc⟩ := h h0
    have hb : ad.block = g := by have : ad.block = q := by simpa [blk] using hq
                                 rw [this, e]
    have h1 := hc 0 h0
    have hb0 : (ad.add 0).block = g := by rw [← hb]; unfold Addr.add; split <;> rfl
    unfold World.cell? at h1
    rw [hb0, hg] at h1
    simp only [] at h1
    split at h1
    · cases h1
    · obtain ⟨s, hv⟩ := hs _ _ h1
      cases hv
  · intro h1; exact absurd h1 h0
theorem cmdget_any (c : Cm) (hr : rightC c = true) (W : World) : Calls Tryz.prog 145 #[.string (strN (cmdN c))] W fun e W' => e = .returned (.tuple #[cmv c, .int .i64 0]) ∧ Below W.heap.size W W' := by
  have hs : soundB c = true := by unfold rightC at hr; simp only [Bool.and_eq_true] at hr; exact hr.1
  have hlen : (cmdN c).length ≤ 512 := by unfold rightC at hr; simp only [Bool.and_eq_true, decide_eq_true_eq] at hr; exact hr.2
  have HRi := Lib.hid (fun w => cmdright_any c w)
  have HBy := Lib.hid (fun w => cbytes_any c hs w)
  rw [hr] at HRi
  obtain ⟨c1, c2, s1, s2, k1, k2, a1, a2, sz⟩ := sound_sizes hs
  have HCB := Lib.hid (cmdN_bytes c)
  have HCk := Lib.hid (show keyN (strN (cmdN c)) = cmdN c from keyN_strN (cmdN_bytes c))
  obtain ⟨cl, sq, kind, row, col, to, at_, value, expect, has⟩ := c
  simp only at c1 c2 s1 s2 k1 k2 a1 a2 sz
  obtain ⟨cl, rfl⟩ : ∃ n : Nat, cl = n := ⟨cl.toNat, by omega⟩
  obtain ⟨sq, rfl⟩ : ∃ n : Nat, sq = n := ⟨sq.toNat, by omega⟩
  obtain ⟨kd, rfl⟩ : ∃ n : Nat, kind = n := ⟨kind.toNat, by omega⟩
  obtain ⟨at_, rfl⟩ : ∃ n : Nat, at_ = n := ⟨at_.toNat, by omega⟩
  obtain ⟨hn, hhn⟩ : ∃ hn : Nat, hn = has.toNat := ⟨_, rfl⟩
  have hn1 : hn ≤ 1 := by rw [hhn]; cases has <;> decide
  obtain ⟨ns, hns⟩ : ∃ ns, ns = [cl, sq, kd, at_, hn] := ⟨_, rfl⟩
  obtain ⟨ss, hss⟩ : ∃ ss, ss = [row, col, to, value, expect] := ⟨_, rfl⟩
  obtain ⟨bs, hbs⟩ : ∃ bs, bs = cmdN ⟨cl, sq, kd, row, col, to, at_, value, expect, has⟩ := ⟨_, rfl⟩
  obtain ⟨y, hy⟩ : ∃ y, y = strN bs := ⟨_, rfl⟩
  rw [← hbs] at hlen HBy HCB HCk ⊢
  rw [← hy] at HBy HCk ⊢
  have HC : Hid (bs = ns.flatMap numN ++ ss.flatMap textN) := Lib.hid (by rw [hbs, hns, hss, hhn]; rfl)
  have HNs := Lib.hid (show ∀ x ∈ ns, x ≤ 4294967295 by
    intro x hx
    rw [hns] at hx
    simp only [List.mem_cons, List.not_mem_nil, or_false] at hx
    omega)
  have HSs := Lib.hid (show ∀ x ∈ ss, x.size ≤ 1000 by rw [hss]; exact fun s h => Nat.le_trans (sz s h) (by omega))
  have HNe := Lib.hid hns
  have HSe := Lib.hid hss
  have HHn := Lib.hid hhn
  have hnl : ns.length = 5 := by rw [hns]; rfl
  have hsl : ss.length = 5 := by rw [hss]; rfl
  have HNl := Lib.hid hnl
  have HSl := Lib.hid hsl
  have hyl : y.size = bs.length := by rw [hy, strN_size]
  have Hyl := Lib.hid hyl
  have hy5 : y.size ≤ 512 := by omega
  clear hns hss hnl hsl hhn hbs hy hyl hr hs sz
  unfold cmv cmcells at HRi HBy ⊢
  simp only [] at HRi HBy ⊢
  have hconv := fun w => Lib.run_convert_string_bytes (P := Tryz.prog) w 9 67 5 y Tryz.underlying9 Tryz.underlying67 Tryz.underlying5
  go_enter Tryz.func145, Tryz.ntmps145
  go_wp2
  generalize hw3 : World.alloc (World.alloc (World.alloc W _) _) _ = w3
  obtain ⟨hR3, hN3, hS3, hb3, hs3⟩ := three_new _ _ _ _ hw3
  have hbw := bytesWorld_below w3 5 y
  have hrd := bytesWorld_rd w3 5 y
  have hgc := grownCap_ge w3 y.size 0 5
  have hgm := grownCap_le_maxLen w3 y.size 0 5 (by unfold maxLen; omega)
  rw [HCk.out, hs3] at hrd
  unfold maxLen at hgm
  generalize grownCap w3 y.size 0 5 = cap at hgc hgm ⊢
  generalize Lib.bytesWorld w3 5 y = w4 at hbw hrd ⊢
  simp only [Nat.add_assoc, Nat.reduceAdd]
  have hR4 := (hbw.block W.heap.size (by omega)).trans hR3
  have hN4 := (hbw.block (W.heap.size + 1) (by omega)).trans hN3
  have hS4 := (hbw.block (W.heap.size + 2) (by omega)).trans hS3
  have hB4 : Below W.heap.size W w4 := hb3.trans (hbw.mono (by omega))
  have hz4 : W.heap.size + 3 ≤ w4.heap.size := by have := hbw.size; omega
  clear hw3 hR3 hN3 hS3 hb3 hs3 hbw hconv
  have hcap : bs.length ≤ cap := by rw [← Hyl.out]; exact hgc
  rw [Hyl.out]
  clear hgc
  go_loopw [6, 7, 13] (fun b o i wr => ∃ (k : Nat) (L : List Nat) (A2 : Option Addr) (c2 : Nat) (cs : Array Value), k ≤ 5 ∧ i = .int .i64 k ∧ o = .bool true ∧ b = .slice A2 L.length c2 ∧ Hid (L = (ns.drop k).flatMap numN ++ ss.flatMap textN) ∧ RdB wr A2 L ∧ L.length ≤ c2 ∧ c2 ≤ 9223372036854775807 ∧ (∀ q, blk A2 = some q → W.heap.size + 3 ≤ q) ∧ wr.heap[W.heap.size + 1]? = some (.cells cs 271) ∧ cs.size = 5 ∧ Hid (∀ j x, j < k → ns[j]? = some x → cs[j]? = some (Value.int .i64 (x : Int))) ∧ wr.heap[W.heap.size]? = w4.heap[W.heap.size]? ∧ wr.heap[W.heap.size + 2]? = w4.heap[W.heap.size + 2]? ∧ Below W.heap.size W wr ∧ W.heap.size + 3 ≤ wr.heap.size) (fun _ _ i _ => 5 - (intOf i).toNat)
  case atStart => exact ⟨0, bs, some ⟨W.heap.size + 3, 0, none⟩, cap, #[.int .i64 0, .int .i64 0, .int .i64 0, .int .i64 0, .int .i64 0], by omega, rfl, rfl, rfl, HC, hrd, hcap, by omega, fun q hq => by (have : W.heap.size + 3 = q := by simpa [blk] using hq); omega, hN4, rfl, Lib.hid (fun j x hj => by omega), rfl, rfl, hB4, hz4⟩
  case round =>
    rename World => wo
    obtain ⟨k, L, A2, c2, cs, hk, rfl, rfl, rfl, HL, hRd, hLc, hcm, hA2, hNb, hcs, Hcs, hRb, hSb, hBo, hzo⟩ := hrel
    have hLl : L.length ≤ 512 := by
      have h1 : bs.length = ((ns.take k).flatMap numN).length + L.length := by
        rw [HC.out, HL.out, ← List.length_append, ← List.append_assoc, ← List.flatMap_append, List.take_append_drop]
      omega
    have hLb : Bytes L := by
      have := HCB.out
      rw [HC.out, ← List.take_append_drop k ns, List.flatMap_append, List.append_assoc] at this
      rw [HL.out]; exact bytes_sub this
    by_cases hk5 : k < 5
    · obtain ⟨x, hx⟩ : ∃ x, ns[k]? = some x := ⟨_, List.getElem?_eq_getElem (by rw [HNl.out]; exact hk5)⟩
      have hx4 := HNs.out x (List.mem_of_getElem? hx)
      have HLx := Lib.hid (show L = numN x ++ ((ns.drop (k + 1)).flatMap numN ++ ss.flatMap textN) by rw [HL.out, drop_cons hx, List.flatMap_cons, List.append_assoc])
      have hL4 : 4 ≤ L.length := by rw [HLx.out, List.length_append, numN_length]; omega
      have Hux := Lib.hid (show unNum L = x by rw [HLx.out]; exact unNum_app x (by omega) _)
      have Hdx := Lib.hid (show L.drop 4 = (ns.drop (k + 1)).flatMap numN ++ ss.flatMap textN by rw [HLx.out]; exact List.drop_left' (numN_length x))
      have Hx := Lib.hid hx
      obtain ⟨v, hv⟩ : ∃ v, cs[k]? = some v := ⟨_, Array.getElem?_eq_getElem (by omega)⟩
      have HNb := Lib.hid hNb
      have HCut := Lib.hid (cutnum_any A2 L c2 hLb hLc hcm (by omega) wo hRd)
      clear hx hNb hLb hRd
      go_wp2_with fail
      refine HCut.out.mono ?_
      rintro e w5 (⟨hx, _, _⟩ | ⟨_, L5, A5, c5, H5, rfl, ho5, hc5, hb5⟩)
      · omega
      rw [Hux.out]
      have hb5s := hb5.size
      have hN5 := (hb5.block (W.heap.size + 1) (by omega)).trans HNb.out
      have q1 := cob hN5 k hv
      have q2 : w5.frozen? ⟨W.heap.size + 1, k, none⟩ = false := by simp [World.frozen?, hN5]
      have hcm5 := ho5.capmax
      unfold maxLen at hcm5
      go_wp2
      have hN6 := heap_setCell_same w5 (W.heap.size + 1) k _ _ (.int .i64 (x : Int)) hN5
      have hoth : ∀ q, q ≠ W.heap.size + 1 → (w5.setCell ⟨W.heap.size + 1, k, none⟩ (.int .i64 (x : Int))).heap[q]? = w5.heap[q]? := fun q hq => heap_setCell_other _ _ _ _ hq
      have hA5 : ∀ q, blk A5 = some q → W.heap.size + 3 ≤ q := fun q hq => by have := (ho5.lt q hq).1; omega
      have hRd6 := ho5.rd.of_block (w' := w5.setCell ⟨W.heap.size + 1, k, none⟩ (.int .i64 (x : Int))) (fun q hq => hoth q (by have := hA5 q hq; omega))
      have HL6 := Lib.hid (H5.out.trans Hdx.out)
      have Hcs6 : Hid (∀ j z, j < k + 1 → ns[j]? = some z → (cs.setIfInBounds k (.int .i64 (x : Int)))[j]? = some (Value.int .i64 (z : Int))) := Lib.hid (by
        intro j z hj hz
        rw [Array.getElem?_setIfInBounds]
        by_cases hjk : k = j
        · rw [if_pos hjk, if_pos (by omega)]
          rw [← hjk, Hx.out] at hz
          injection hz with hz
          rw [hz]
        · rw [if_neg hjk]
          exact Hcs.out j z (by omega) hz)
      have hB6 : Below W.heap.size W (w5.setCell ⟨W.heap.size + 1, k, none⟩ (.int .i64 (x : Int))) := (hBo.trans (hb5.mono (by omega))).setCell (p := ⟨W.heap.size + 1, k, none⟩) (by show W.heap.size ≤ W.heap.size + 1; omega) _
      have hRb6 := (hoth W.heap.size (by omega)).trans ((hb5.block W.heap.size (by omega)).trans hRb)
      have hSb6 := (hoth (W.heap.size + 2) (by omega)).trans ((hb5.block (W.heap.size + 2) (by omega)).trans hSb)
      go_roundw
      case rel => exact ⟨k + 1, L5, A5, c5, _, by omega, by go_num, rfl, rfl, HL6, hRd6, hc5, by omega, hA5, hN6, by simpa using hcs, Hcs6, hRb6, hSb6, hB6, by simp; omega⟩
      case measure => simp [intOf]; omega
    · obtain rfl : k = 5 := by omega
      have HN5 : Hid (L = ss.flatMap textN) := Lib.hid (by rw [HL.out, List.drop_of_length_le (by rw [HNl.out]; exact Nat.le_refl _)]; rfl)
      have HNs5 := Lib.hid (show ∀ (j x : Nat), ns[j]? = some x → cs[j]? = some (Value.int .i64 (x : Int)) from fun j x h => Hcs.out j x (by have := (List.getElem?_eq_some_iff.1 h).1; rw [HNl.out] at this; exact this) h)
      have hSb2 := hSb.trans hS4
      clear HL Hcs hSb hLl hLb
      go_wp2
      go_loopw [6, 7, 26] (fun b o i wr => ∃ (k : Nat) (L : List Nat) (A2 : Option Addr) (c2 : Nat) (ds : Array Value), k ≤ 5 ∧ i = .int .i64 k ∧ o = .bool true ∧ b = .slice A2 L.length c2 ∧ Hid (L = (ss.drop k).flatMap textN) ∧ RdB wr A2 L ∧ L.length ≤ c2 ∧ c2 ≤ 9223372036854775807 ∧ Hid (∀ (j : Nat) (v : Value), ds[j]? = some v → ∃ s, v = Value.string s) ∧ wr.heap[W.heap.size + 2]? = some (.cells ds 272) ∧ ds.size = 5 ∧ Hid (∀ j x, j < k → ss[j]? = some x → ds[j]? = some (Value.string x)) ∧ wr.heap[W.heap.size]? = w4.heap[W.heap.size]? ∧ wr.heap[W.heap.size + 1]? = some (.cells cs 271) ∧ Below W.heap.size W wr ∧ W.heap.size + 3 ≤ wr.heap.size) (fun _ _ i _ => 5 - (intOf i).toNat)
      case atStart => exact ⟨0, L, A2, c2, #[.string ByteArray.empty, .string ByteArray.empty, .string ByteArray.empty, .string ByteArray.empty, .string ByteArray.empty], by omega, rfl, rfl, rfl, HN5, hRd, hLc, hcm, Lib.hid (fun j v hj => by
        rcases j with _ | _ | _ | _ | _ | j <;> simp at hj
        all_goals exact ⟨_, hj.symm⟩), hSb2, rfl, Lib.hid (fun j x hj => by omega), hRb, hNb, hBo, hzo⟩
      case round =>
        clear hRd hLc hcm hA2 hSb2 hBo hzo HN5 hNb hRb
        obtain ⟨k, L, A2, c2, ds, hk, rfl, rfl, rfl, HL, hRd, hLc, hcm, Hstr, hSb, hds, Hds, hRb, hNb, hBo, hzo⟩ := hrel
        have hLl : L.length ≤ 512 := by
          have h1 : (ss.flatMap textN).length = ((ss.take k).flatMap textN).length + ((ss.drop k).flatMap textN).length := by
            conv => lhs; rw [← List.take_append_drop k ss, List.flatMap_append, List.length_append]
          have h2 := congrArg List.length HC.out
          rw [List.length_append] at h2
          have h3 := congrArg List.length HL.out
          omega
        have hLb : Bytes L := by
          have := HCB.out
          rw [HC.out, ← List.take_append_drop k ss, List.flatMap_append] at this
          rw [HL.out]; exact bytes_sub (bytes_sub this)
        by_cases hk5 : k < 5
        · obtain ⟨x, hx⟩ : ∃ x, ss[k]? = some x := ⟨_, List.getElem?_eq_getElem (by rw [HSl.out]; exact hk5)⟩
          have hx4 := HSs.out x (List.mem_of_getElem? hx)
          have HLx := Lib.hid (show L = textN x ++ (ss.drop (k + 1)).flatMap textN by rw [HL.out, drop_cons hx, List.flatMap_cons])
          have Hu := Lib.hid (show unNum L = x.size by rw [HLx.out, textN, List.append_assoc]; exact unNum_app _ (by omega) _)
          have Hdx := Lib.hid (show L.drop (4 + unNum L) = (ss.drop (k + 1)).flatMap textN by rw [Hu.out, HLx.out]; exact List.drop_left' (textN_len x))
          have HTx := Lib.hid (show hasText L = true by
            unfold hasText
            rw [Hu.out, HLx.out, List.length_append, textN_len]
            simp; omega)
          have HTo := Lib.hid (show textOf L = x by
            unfold textOf
            rw [Hu.out, HLx.out, textN, List.append_assoc, List.drop_left' (numN_length _), List.take_append_of_le_length (by rw [keyN_length]; exact Nat.le_refl _), List.take_of_length_le (by rw [keyN_length]; exact Nat.le_refl _)]
            exact strN_keyN x)
          have Hx := Lib.hid hx
          obtain ⟨v, hv⟩ : ∃ v, ds[k]? = some v := ⟨_, Array.getElem?_eq_getElem (by omega)⟩
          have HSb := Lib.hid hSb
          have HCut := Lib.hid (cuttext_any A2 L c2 hLb hLc hcm (by omega) wr hRd)
          clear hx hSb hLb hRd
          go_wp2_with fail
          refine HCut.out.mono ?_
          rintro e w5 (⟨hx, _, _⟩ | ⟨_, L5, A5, c5, H5, rfl, ho5, hc5, hcm5, hb5⟩)
          · rw [HTx.out] at hx; cases hx
          rw [HTo.out]
          have hb5s := hb5.size
          have hS5 := (hb5.block (W.heap.size + 2) (by omega)).trans HSb.out
          have q1 := cob hS5 k hv
          have q2 : w5.frozen? ⟨W.heap.size + 2, k, none⟩ = false := by simp [World.frozen?, hS5]
          go_wp2
          have hS6 := heap_setCell_same w5 (W.heap.size + 2) k _ _ (.string x) hS5
          have hoth : ∀ q, q ≠ W.heap.size + 2 → (w5.setCell ⟨W.heap.size + 2, k, none⟩ (.string x)).heap[q]? = w5.heap[q]? := fun q hq => heap_setCell_other _ _ _ _ hq
          have hRd6 := ho5.beside (k := k) hS5 Hstr.out (.string x)
          have HL6 := Lib.hid (H5.out.trans Hdx.out)
          have Hds6 : Hid (∀ j z, j < k + 1 → ss[j]? = some z → (ds.setIfInBounds k (.string x))[j]? = some (Value.string z)) := Lib.hid (by
            intro j z hj hz
            rw [Array.getElem?_setIfInBounds]
            by_cases hjk : k = j
            · rw [if_pos hjk, if_pos (by omega)]
              rw [← hjk, Hx.out] at hz
              injection hz with hz
              rw [hz]
            · rw [if_neg hjk]
              exact Hds.out j z (by omega) hz)
          have Hstr6 : Hid (∀ (j : Nat) (v : Value), (ds.setIfInBounds k (.string x))[j]? = some v → ∃ s, v = Value.string s) := Lib.hid (by
            intro j v hj
            rw [Array.getElem?_setIfInBounds] at hj
            split at hj
            · split at hj
              · injection hj with hj; exact ⟨x, hj.symm⟩
              · cases hj
            · exact Hstr.out j v hj)
          have hB6 : Below W.heap.size W (w5.setCell ⟨W.heap.size + 2, k, none⟩ (.string x)) := (hBo.trans (hb5.mono (by omega))).setCell (p := ⟨W.heap.size + 2, k, none⟩) (by show W.heap.size ≤ W.heap.size + 2; omega) _
          have hRb6 := (hoth W.heap.size (by omega)).trans ((hb5.block W.heap.size (by omega)).trans hRb)
          have hNb6 := (hoth (W.heap.size + 1) (by omega)).trans ((hb5.block (W.heap.size + 1) (by omega)).trans hNb)
          have hzs : W.heap.size + 3 ≤ (w5.setCell ⟨W.heap.size + 2, k, none⟩ (.string x)).heap.size := by simp; omega
          have hds6 : (ds.setIfInBounds k (.string x)).size = 5 := by simpa using hds
          go_roundw
          case rel =>
            refine ⟨_, _, _, _, _, _, _, _, _, _, _, _, _, _, _, _, ⟨k + 1, L5, A5, c5, _, by omega, ?_, rfl, rfl, HL6, hRd6, hc5, hcm5, Hstr6, hS6, hds6, Hds6, hRb6, hNb6, hB6, hzs⟩, rfl⟩
            go_num
          case measure => simp [intOf]; omega
        · obtain rfl : k = 5 := by omega
          have n0 : wr.cell? ⟨W.heap.size + 1, 0, none⟩ = some (.int .i64 (cl : Int)) := cob hNb 0 (HNs5.out 0 cl (by rw [HNe.out]; rfl))
          have n1 : wr.cell? ⟨W.heap.size + 1, 1, none⟩ = some (.int .i64 (sq : Int)) := cob hNb 1 (HNs5.out 1 sq (by rw [HNe.out]; rfl))
          have n2 : wr.cell? ⟨W.heap.size + 1, 2, none⟩ = some (.int .i64 (kd : Int)) := cob hNb 2 (HNs5.out 2 kd (by rw [HNe.out]; rfl))
          have n3 : wr.cell? ⟨W.heap.size + 1, 3, none⟩ = some (.int .i64 (at_ : Int)) := cob hNb 3 (HNs5.out 3 at_ (by rw [HNe.out]; rfl))
          have n4 : wr.cell? ⟨W.heap.size + 1, 4, none⟩ = some (.int .i64 (hn : Int)) := cob hNb 4 (HNs5.out 4 hn (by rw [HNe.out]; rfl))
          have t0 : wr.cell? ⟨W.heap.size + 2, 0, none⟩ = some (.string row) := cob hSb 0 (Hds.out 0 row (by omega) (by rw [HSe.out]; rfl))
          have t1 : wr.cell? ⟨W.heap.size + 2, 1, none⟩ = some (.string col) := cob hSb 1 (Hds.out 1 col (by omega) (by rw [HSe.out]; rfl))
          have t2 : wr.cell? ⟨W.heap.size + 2, 2, none⟩ = some (.string to) := cob hSb 2 (Hds.out 2 to (by omega) (by rw [HSe.out]; rfl))
          have t3 : wr.cell? ⟨W.heap.size + 2, 3, none⟩ = some (.string value) := cob hSb 3 (Hds.out 3 value (by omega) (by rw [HSe.out]; rfl))
          have t4 : wr.cell? ⟨W.heap.size + 2, 4, none⟩ = some (.string expect) := cob hSb 4 (Hds.out 4 expect (by omega) (by rw [HSe.out]; rfl))
          have hRw := hRb.trans hR4
          have HBo := Lib.hid hBo
          have hhas : (((hn : Nat) : Int) == 1) = has := by rw [HHn.out]; cases has <;> rfl
          clear hNb hSb hRb hRd hBo
          go_wp2_with fail
          clear n0 t0 n1 t1 n2 t2 n3 t3 n4 t4
          generalize hw6 : World.alloc wr _ = w6
          have hC6 := named_new hw6.symm
          have hb6 := named_below hw6.symm
          have hs6 : wr.heap.size < w6.heap.size := by rw [named_size hw6.symm]; omega
          clear hw6
          refine (HRi.out w6).mono ?_
          rintro e w7 ⟨rfl, hb7⟩
          have hC7 := (hb7.block wr.heap.size hs6).trans hC6
          have hb7s := hb7.size
          have HB7 := Lib.hid (hb6.trans (hb7.mono (by omega)))
          clear hC6 hb6 hb7
          have e0 := cob hC7 0 rfl
          have e1 := cob hC7 1 rfl
          have e2 := cob hC7 2 rfl
          have e3 := cob hC7 3 rfl
          have e4 := cob hC7 4 rfl
          have e5 := cob hC7 5 rfl
          have e6 := cob hC7 6 rfl
          have e7 := cob hC7 7 rfl
          have e8 := cob hC7 8 rfl
          have e9 := cob hC7 9 rfl
          go_wp2_with fail
          refine (HBy.out w7).mono ?_
          rintro e w8 ⟨rfl, hb8⟩
          clear e0 e1 e2 e3 e4 e5 e6 e7 e8 e9
          have hC8 := (hb8.block wr.heap.size (by omega)).trans hC7
          have hb8s := hb8.size
          have HB8 := Lib.hid (HB7.out.trans (hb8.mono (by omega)))
          have hR8 := (HB8.out.block W.heap.size (by omega)).trans hRw
          clear hC7 hb8 hRw
          have m1 : ¬ W.heap.size = wr.heap.size := by omega
          have m2 : ¬ wr.heap.size = W.heap.size := by omega
          have e0 := cob hC8 0 rfl
          have e1 := cob hC8 1 rfl
          have e2 := cob hC8 2 rfl
          have e3 := cob hC8 3 rfl
          have e4 := cob hC8 4 rfl
          have e5 := cob hC8 5 rfl
          have e6 := cob hC8 6 rfl
          have e7 := cob hC8 7 rfl
          have e8 := cob hC8 8 rfl
          have e9 := cob hC8 9 rfl
          have d0 : w8.cell? ⟨W.heap.size, 0, none⟩ = some (.int .i64 0) := cob hR8 0 rfl
          have d1 : w8.cell? ⟨W.heap.size, 1, none⟩ = some (.int .i64 0) := cob hR8 1 rfl
          have d2 : w8.cell? ⟨W.heap.size, 2, none⟩ = some (.int .i64 0) := cob hR8 2 rfl
          have d3 : w8.cell? ⟨W.heap.size, 3, none⟩ = some (.string ByteArray.empty) := cob hR8 3 rfl
          have d4 : w8.cell? ⟨W.heap.size, 4, none⟩ = some (.string ByteArray.empty) := cob hR8 4 rfl
          have d5 : w8.cell? ⟨W.heap.size, 5, none⟩ = some (.string ByteArray.empty) := cob hR8 5 rfl
          have d6 : w8.cell? ⟨W.heap.size, 6, none⟩ = some (.int .i64 0) := cob hR8 6 rfl
          have d7 : w8.cell? ⟨W.heap.size, 7, none⟩ = some (.string ByteArray.empty) := cob hR8 7 rfl
          have d8 : w8.cell? ⟨W.heap.size, 8, none⟩ = some (.string ByteArray.empty) := cob hR8 8 rfl
          have d9 : w8.cell? ⟨W.heap.size, 9, none⟩ = some (.bool false) := cob hR8 9 rfl
          have hfr : ∀ j, w8.frozen? ⟨W.heap.size, j, none⟩ = false := fun j => by simp [World.frozen?, hR8]
          have HR8 := Lib.hid hR8
          clear hR8 hC8
          go_wp2
          clear e0 d0 e1 d1 e2 d2 e3 d3 e4 d4 e5 d5 e6 d6 e7 d7 e8 d8 e9 d9 hfr
          have hfin := setCells_full (e := 23) W.heap.size w8 _ (vs := [.int .i64 (cl : Int), .int .i64 (sq : Int), .int .i64 (kd : Int), .string row, .string col, .string to, .int .i64 (at_ : Int), .string value, .string expect, .bool has]) HR8.out rfl
          have hgr := setCells_grown W.heap.size ([.int .i64 (cl : Int), .int .i64 (sq : Int), .int .i64 (kd : Int), .string row, .string col, .string to, .int .i64 (at_ : Int), .string value, .string expect, .bool has]) 0 w8
          generalize hw9 : World.setCell _ ⟨W.heap.size, 9, none⟩ _ = w9
          have hw10 : w9 = w8.setCells W.heap.size 0 ([.int .i64 (cl : Int), .int .i64 (sq : Int), .int .i64 (kd : Int), .string row, .string col, .string to, .int .i64 (at_ : Int), .string value, .string expect, .bool has]) := by
            rw [← hw9]
            simp only [World.setCells, Nat.zero_add, Nat.reduceAdd]
          clear hw9
          have hfin9 : w9.heap[W.heap.size]? = some (.cells ([.int .i64 (cl : Int), .int .i64 (sq : Int), .int .i64 (kd : Int), .string row, .string col, .string to, .int .i64 (at_ : Int), .string value, .string expect, .bool has] : List Value).toArray 23) := by rw [hw10]; exact hfin
          rw [← hw10] at hgr
          clear hw10 hfin
          refine bodyPost_ret (results_ct rfl _ _ W.heap.size _ _ (0, 0) _ rfl hfin9 Tryz.underlying23 rfl Tryz.sizeC) rfl ⟨rfl, ?_⟩
          exact (HBo.out.trans (HB8.out.mono (by omega))).grown hgr (by have := HB8.out.size; omega) (fun k hk => by injection hk with hk; omega)
end Go.Proofs.YtoigogjmhkpdlaaGreat
