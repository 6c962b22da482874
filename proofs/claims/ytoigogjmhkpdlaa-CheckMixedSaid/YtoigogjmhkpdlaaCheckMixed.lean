/- The walk of CheckMixed. -/
import Derived.Test.YtoigogjmhkpdlaaCheckSums
import Derived.Deep.RegionHeld3
import Derived.RegionTactic
import Derived.Deep.DeepMust
namespace Go.Proofs.Ytoigogjmhkpdlaa
open Go.RowKit
open Crc

/-- A slice of arrays of three bytes reads as triples. -/
def Rd3 (W : World) (A : Option Addr) (l : List (Nat × Nat × Nat)) : Prop :=
  0 < l.length → ∃ b off, A = some ⟨b, off, none⟩ ∧ b < W.heap.size ∧ ∀ j (h : j < l.length), W.cell? ⟨b, off + j * 3, none⟩ = some (.int .u8 (l[j].1 : Nat)) ∧ W.cell? ⟨b, off + j * 3 + 1, none⟩ = some (.int .u8 (l[j].2.1 : Nat)) ∧ W.cell? ⟨b, off + j * 3 + 2, none⟩ = some (.int .u8 (l[j].2.2 : Nat))
theorem cells3 {W w : World} {b off x1 x2 x3 : Nat} (hlt : b < W.heap.size) (h : W.cell? ⟨b, off, none⟩ = some (bv x1) ∧ W.cell? ⟨b, off + 1, none⟩ = some (bv x2) ∧ W.cell? ⟨b, off + 2, none⟩ = some (bv x3)) (hB : Below W.heap.size W w) :
    w.cell? ⟨b, off, none⟩ = some (.int .u8 (x1 : Int)) ∧ w.cell? ⟨b, off + 1, none⟩ = some (.int .u8 (x2 : Int)) ∧ w.cell? ⟨b, off + 2, none⟩ = some (.int .u8 (x3 : Int)) :=
  ⟨(hB.cell (by exact hlt)).trans h.1, (hB.cell (by exact hlt)).trans h.2.1, (hB.cell (by exact hlt)).trans h.2.2⟩
def Trips (l : List (Nat × Nat × Nat)) : Prop := ∀ t ∈ l, t.1 < 256 ∧ t.2.1 < 256 ∧ t.2.2 < 256

/-- Four rows of bytes of the call's own, each for itself. -/
structure Four (w : World) (base : Nat) (A1 A2 A3 A4 : Option Addr) (c1 c2 c3 c4 : Nat) (x1 x2 x3 x4 : List Nat) : Prop where
  o1 : OwnB 5 w base A1 c1 x1
  o2 : OwnB 5 w base A2 c2 x2
  o3 : OwnB 5 w base A3 c3 x3
  o4 : OwnB 5 w base A4 c4 x4
  d12 : Dist A1 A2
  d13 : Dist A1 A3
  d14 : Dist A1 A4
  d23 : Dist A2 A3
  d24 : Dist A2 A4
  d34 : Dist A3 A4
section
variable {w w' : World} {base : Nat} {A1 A2 A3 A4 B : Option Addr} {c1 c2 c3 c4 d : Nat} {x1 x2 x3 x4 L : List Nat}
theorem Four.alloc (h : Four w base A1 A2 A3 A4 c1 c2 c3 c4 x1 x2 x3 x4) (o : Obj) : Four (w.alloc o) base A1 A2 A3 A4 c1 c2 c3 c4 x1 x2 x3 x4 :=
  ⟨h.o1.alloc o, h.o2.alloc o, h.o3.alloc o, h.o4.alloc o, h.d12, h.d13, h.d14, h.d23, h.d24, h.d34⟩
theorem Four.rot (h : Four w base A1 A2 A3 A4 c1 c2 c3 c4 x1 x2 x3 x4) : Four w base A2 A3 A4 A1 c2 c3 c4 c1 x2 x3 x4 x1 :=
  ⟨h.o2, h.o3, h.o4, h.o1, h.d23, h.d24, h.d12.symm, h.d34, h.d13.symm, h.d14.symm⟩
/-- An append to the first one. -/
theorem Four.step (h : Four w base A1 A2 A3 A4 c1 c2 c3 c4 x1 x2 x3 x4) (o : Obj) (ho : OwnB 5 w' base B d L) (hg : (w.alloc o).grownBy w' (blk A1)) (hb : blk B = blk A1 ∨ blk B = some (w.alloc o).heap.size) : Four w' base B A2 A3 A4 d c2 c3 c4 L x2 x3 x4 := by
  have k := h.alloc o
  exact ⟨ho, k.o2.kept hg h.d12.symm, k.o3.kept hg h.d13.symm, k.o4.kept hg h.d14.symm, Dist.step hb h.d12 k.o2, Dist.step hb h.d13 k.o3, Dist.step hb h.d14 k.o4, h.d23, h.d24, h.d34⟩
theorem Four.nil (w : World) (base : Nat) : Four w base none none none none 0 0 0 0 [] [] [] [] :=
  ⟨OwnB.nil _ _ _, OwnB.nil _ _ _, OwnB.nil _ _ _, OwnB.nil _ _ _, .inl rfl, .inl rfl, .inl rfl, .inl rfl, .inl rfl, .inl rfl⟩
end
/-- What has been gathered of the first ones grows by one. -/
theorem grown_by {α : Type} (f : α → Nat) (l : List α) (k : Nat) (hk : k < l.length) {x L : List Nat} (hx : x = (l.take k).map f) (hL : L = x ++ [f l[k]]) : L = (l.take (k + 1)).map f := by
  rw [hL, hx, List.take_succ_eq_append_getElem hk, List.map_append]; rfl

theorem sumN_mixed (l : List (Nat × Nat × Nat)) : sumN (l.map fun t => t.1 ^^^ t.2.1 ^^^ t.2.2) = sumN (l.map (·.1)) ^^^ sumN (l.map (·.2.1)) ^^^ sumN (l.map (·.2.2)) := by
  have h := crcN_mixed l all32 all32 all32
  rw [Nat.xor_self, Nat.zero_xor] at h
  unfold sumN
  rw [h]
  apply Nat.eq_of_testBit_eq; intro i; simp only [Nat.testBit_xor]
  generalize (crcN all32 (l.map (·.1))).testBit i = p
  generalize (crcN all32 (l.map (·.2.1))).testBit i = q
  generalize (crcN all32 (l.map (·.2.2))).testBit i = r
  generalize all32.testBit i = s
  cases p <;> cases q <;> cases r <;> cases s <;> rfl

theorem checkMixed_any (A : Option Addr) (l : List (Nat × Nat × Nat)) (ca : Nat) (W : World) (hl : Trips l) (hr : Rd3 W A l) (hm : l.length ≤ maxLen) :
    Calls Try.prog 5 #[.slice A l.length ca] W fun e W' => e = .returned (.bool true) ∧ Below W.heap.size W W' := by
  obtain ⟨i0, hi, hz0, hz1, hz2⟩ := info_parts Try.infoB
  have HR := Lib.hid hr
  clear hr
  unfold maxLen at hm
  by_cases h1 : l.length ≤ 1000
  · have hd1 : decide ((1000 : Int) < (l.length : Int)) = false := by simp; omega
    go_enter Try.func5, Try.ntmps5
    go_wp2_with (go_at_call 12; refine (awake02_any _).mono ?_; rintro e w1 ⟨rfl, hb1⟩; have hsz := hb1.size)
    go_loopw [3, 4, 5, 6, 7] (fun va vb vc vd i wr => ∃ (k : Nat) (A1 A2 A3 A4 : Option Addr) (c1 c2 c3 c4 : Nat) (x1 x2 x3 x4 : List Nat), k ≤ l.length ∧ i = .int .i64 k ∧ va = .slice A1 x1.length c1 ∧ vb = .slice A2 x2.length c2 ∧ vc = .slice A3 x3.length c3 ∧ vd = .slice A4 x4.length c4 ∧
        Hid (x1 = (l.take k).map (·.1)) ∧ Hid (x2 = (l.take k).map (·.2.1)) ∧ Hid (x3 = (l.take k).map (·.2.2)) ∧ Hid (x4 = (l.take k).map fun t => t.1 ^^^ t.2.1 ^^^ t.2.2) ∧
        Four wr w1.heap.size A1 A2 A3 A4 c1 c2 c3 c4 x1 x2 x3 x4 ∧ Below w1.heap.size w1 wr)
      (fun _ _ _ _ i _ => l.length - (intOf i).toNat)
    case atStart => exact ⟨0, none, none, none, none, 0, 0, 0, 0, [], [], [], [], Nat.zero_le _, rfl, rfl, rfl, rfl, rfl, Lib.hid rfl, Lib.hid rfl, Lib.hid rfl, Lib.hid rfl, Four.nil _ _, Below.refl _ _⟩
    case round =>
      obtain ⟨k, A1, A2, A3, A4, c1, c2, c3, c4, x1, x2, x3, x4, hk, rfl, rfl, rfl, rfl, rfl, hx1, hx2, hx3, hx4, hF, hB⟩ := hrel
      by_cases hk8 : k < l.length
      · obtain ⟨b, off, rfl, hlt, hc⟩ := HR.out (by omega)
        have HC := Lib.hid (hc k hk8)
        clear hc
        obtain ⟨hy1, hy2, hy3⟩ := hl l[k] (List.getElem_mem _)
        obtain ⟨y1, y2, y3, hyk⟩ : ∃ y1 y2 y3, l[k] = (y1, y2, y3) := ⟨_, _, _, rfl⟩
        rw [hyk] at HC hy1 hy2 hy3
        simp only at HC hy1 hy2 hy3
        have HY := Lib.hid hyk
        clear hyk
        have hq1 : bits .xor .u8 (y1 : Int) (y2 : Int) = ((y1 ^^^ y2 : Nat) : Int) := u8_xor_nat y1 y2 hy1 hy2
        have hq2 : bits .xor .u8 ((y1 ^^^ y2 : Nat) : Int) (y3 : Int) = ((y1 ^^^ y2 ^^^ y3 : Nat) : Int) := u8_xor_nat _ y3 (Nat.xor_lt_two_pow (n := 8) hy1 hy2) hy3
        obtain ⟨hc1, hc2, hc3⟩ := cells3 hlt HC.out (below_next hb1 hB)
        have hn1 : x1.length ≤ 1000 := by rw [hx1.out]; simp; omega
        have hn2 : x2.length ≤ 1000 := by rw [hx2.out]; simp; omega
        have hn3 : x3.length ≤ 1000 := by rw [hx3.out]; simp; omega
        have hn4 : x4.length ≤ 1000 := by rw [hx4.out]; simp; omega
        have hs := hB.size
        go_wp2_with (first
          | (at_builtin; refine wpList_append_bytes_at _ rfl (.tmp 22) (.tmp 28) _ rfl w1.heap.size 5 i0 Try.underlying22 hi hz0 hz1 hz2 _ _ x1 rfl (hF.o1.alloc _) _ _ [y1] rfl (rd_new _ _ _ _ _ _ rfl rfl) (by simp; omega) (by simp; omega) ?_; intro L1 B1 d1 v1 hL1 ho1 hb1' hg1 ha1; have hF1 := (hF.step _ ho1 hg1 ha1).rot; have hB1 := (hB.alloc hs (.cells #[.int .u8 ((y1 : Nat) : Int)] 5)).trans hb1'; have hs1 := hB1.size; obtain ⟨e1, e2, e3⟩ := cells3 hlt HC.out (below_next hb1 hB1))
          | (at_builtin; refine wpList_append_bytes_at _ rfl (.tmp 30) (.tmp 36) _ rfl w1.heap.size 5 i0 Try.underlying22 hi hz0 hz1 hz2 _ _ x2 rfl (hF1.o1.alloc _) _ _ [y2] rfl (rd_new _ _ _ _ _ _ rfl rfl) (by simp; omega) (by simp; omega) ?_; intro L2 B2 d2 v2 hL2 ho2 hb2' hg2 ha2; have hF2 := (hF1.step _ ho2 hg2 ha2).rot; have hB2 := (hB1.alloc hs1 (.cells #[.int .u8 ((y2 : Nat) : Int)] 5)).trans hb2'; have hs2 := hB2.size; obtain ⟨f1, f2, f3⟩ := cells3 hlt HC.out (below_next hb1 hB2))
          | (at_builtin; refine wpList_append_bytes_at _ rfl (.tmp 38) (.tmp 44) _ rfl w1.heap.size 5 i0 Try.underlying22 hi hz0 hz1 hz2 _ _ x3 rfl (hF2.o1.alloc _) _ _ [y3] rfl (rd_new _ _ _ _ _ _ rfl rfl) (by simp; omega) (by simp; omega) ?_; intro L3 B3 d3 v3 hL3 ho3 hb3' hg3 ha3; have hF3 := (hF2.step _ ho3 hg3 ha3).rot; have hB3 := (hB2.alloc hs2 (.cells #[.int .u8 ((y3 : Nat) : Int)] 5)).trans hb3'; have hs3 := hB3.size; obtain ⟨g1, g2, g3⟩ := cells3 hlt HC.out (below_next hb1 hB3)))
        have hlt3 : b < v3.heap.size := Nat.lt_of_lt_of_le hlt (below_next hb1 hB3).size
        go_region_held3 (fun w' => w'.cell? ⟨b, off + k * 3, none⟩ = some (.int .u8 (y1 : Int)) ∧ w'.cell? ⟨b, off + k * 3 + 1, none⟩ = some (.int .u8 (y2 : Int)) ∧ w'.cell? ⟨b, off + k * 3 + 2, none⟩ = some (.int .u8 (y3 : Int)))
          (first
            | go_keep
            | exact cells3 hlt HC.out (below_next hb1 hB4))
          (go_must (refine step_append_bytes_at _ (by rfl) _ _ _ (by rfl) w1.heap.size 5 i0 Try.underlying22 hi hz0 hz1 hz2 _ _ x4 (by rfl) ((hF3.o1.alloc _).drew) _ _ [y1 ^^^ y2 ^^^ y3] (by rfl) (rd_new _ _ _ _ _ _ (by rfl) (by rfl)).drew (by simp; omega) (by simp; omega) ?_; intro L4 B4 d4 v4 hL4 ho4 hb4'' hg4' ha4; have hb4' := below_undrew hb4''; have hg4 := grown_undrew hg4'; have hF4 := (hF3.step _ ho4 hg4 ha4).rot; have hB4 := (hB3.alloc hs3 (.cells #[.int .u8 ((y1 ^^^ y2 ^^^ y3 : Nat) : Int)] 5)).trans hb4'))
        have HL1 := Lib.hid (grown_by (·.1) l k hk8 hx1.out (hL1.out.trans (by rw [HY.out])))
        have HL2 := Lib.hid (grown_by (·.2.1) l k hk8 hx2.out (hL2.out.trans (by rw [HY.out])))
        have HL3 := Lib.hid (grown_by (·.2.2) l k hk8 hx3.out (hL3.out.trans (by rw [HY.out])))
        have HL4 := Lib.hid (grown_by (fun t => t.1 ^^^ t.2.1 ^^^ t.2.2) l k hk8 hx4.out (hL4.out.trans (by rw [HY.out])))
        go_wp2
        go_roundw
        case rel => exact ⟨k + 1, B1, B2, B3, B4, d1, d2, d3, d4, L1, L2, L3, L4, by omega, by go_num, rfl, rfl, rfl, rfl, HL1, HL2, HL3, HL4, hF4, hB4⟩
        case measure => simp [intOf]; omega
      · have hk9 : k = l.length := by omega
        have hx1' := Lib.hid (hx1.out.trans (by rw [hk9, List.take_length]))
        have hx2' := Lib.hid (hx2.out.trans (by rw [hk9, List.take_length]))
        have hx3' := Lib.hid (hx3.out.trans (by rw [hk9, List.take_length]))
        have hx4' := Lib.hid (hx4.out.trans (by rw [hk9, List.take_length]))
        have hn1 : x1.length ≤ 1000 := by rw [hx1'.out]; simp; omega
        have hn2 : x2.length ≤ 1000 := by rw [hx2'.out]; simp; omega
        have hn3 : x3.length ≤ 1000 := by rw [hx3'.out]; simp; omega
        have hn4 : x4.length ≤ 1000 := by rw [hx4'.out]; simp; omega
        have hb1' : Bytes x1 := by rw [hx1'.out]; intro b hb; obtain ⟨t, ht, rfl⟩ := List.mem_map.1 hb; exact (hl t ht).1
        have hb2' : Bytes x2 := by rw [hx2'.out]; intro b hb; obtain ⟨t, ht, rfl⟩ := List.mem_map.1 hb; exact (hl t ht).2.1
        have hb3' : Bytes x3 := by rw [hx3'.out]; intro b hb; obtain ⟨t, ht, rfl⟩ := List.mem_map.1 hb; exact (hl t ht).2.2
        have hb4' : Bytes x4 := by rw [hx4'.out]; intro b hb; obtain ⟨t, ht, rfl⟩ := List.mem_map.1 hb; exact Nat.xor_lt_two_pow (n := 8) (Nat.xor_lt_two_pow (n := 8) (hl t ht).1 (hl t ht).2.1) (hl t ht).2.2
        have hs1 := sumN_lt hb1'
        have hs2 := sumN_lt hb2'
        have hs3 := sumN_lt hb3'
        have hq1 : bits .xor .u32 (sumN x1 : Int) (sumN x2 : Int) = ((sumN x1 ^^^ sumN x2 : Nat) : Int) := u32_xor_nat _ _ hs1 hs2
        have hq2 : bits .xor .u32 ((sumN x1 ^^^ sumN x2 : Nat) : Int) (sumN x3 : Int) = ((sumN x1 ^^^ sumN x2 ^^^ sumN x3 : Nat) : Int) := u32_xor_nat _ _ (Nat.xor_lt_two_pow (n := 32) hs1 hs2) hs3
        have hq3 : (((sumN x4 : Nat) : Int) == ((sumN x1 ^^^ sumN x2 ^^^ sumN x3 : Nat) : Int)) = true := by rw [hx1'.out, hx2'.out, hx3'.out, hx4'.out, sumN_mixed]; simp
        clear hk9 hs1 hs2 hs3
        go_wp2_with (go_at_call 13; first | ((with_reducible refine (sum_any A4 x4 c4 hb4' (by omega) _ hF.o4.rd).mono ?_); rintro e w' ⟨rfl, rfl⟩) | ((with_reducible refine (sum_any A1 x1 c1 hb1' (by omega) _ hF.o1.rd).mono ?_); rintro e w' ⟨rfl, rfl⟩) | ((with_reducible refine (sum_any A2 x2 c2 hb2' (by omega) _ hF.o2.rd).mono ?_); rintro e w' ⟨rfl, rfl⟩) | ((with_reducible refine (sum_any A3 x3 c3 hb3' (by omega) _ hF.o3.rd).mono ?_); rintro e w' ⟨rfl, rfl⟩))
        go_ret
        exact ⟨rfl, below_next hb1 hB⟩
  · have hd1 : decide ((1000 : Int) < (l.length : Int)) = true := by simp; omega
    go_enter Try.func5, Try.ntmps5
    go_wp2_with fail
    refine (awake02_any _).mono ?_
    rintro e w1 ⟨rfl, hb1⟩
    go_wp2_with fail
    refine (awake02_any _).mono ?_
    rintro e w2 ⟨rfl, hb2⟩
    go_wp2
    go_ret
    exact ⟨rfl, below_next hb1 hb2⟩
end Go.Proofs.Ytoigogjmhkpdlaa
