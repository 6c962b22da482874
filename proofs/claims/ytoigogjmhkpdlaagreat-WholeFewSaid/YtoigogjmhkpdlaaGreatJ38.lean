/- A part of the proof of WholeFew: the texts ClustG. -/
import Derived.Test.YtoigogjmhkpdlaaGreatJ37
set_option maxHeartbeats 6400000
set_option maxRecDepth 100000
namespace Go.Proofs.YtoigogjmhkpdlaaGreat
open Go.RowKit
def stepF (k : Int) : Nat := if k = 1 then 31 else if k = 2 then 32 else if k = 5 then 35 else if k = 6 then 36 else if k = 7 then 37 else 38
theorem cdo_1_of (C clock : Nat) (hc : clock < 1000000) (x : Sp) (hk : x.kind = 1) (Q : World → World → Prop) (W : World)
    (HD : ∀ w, Below W.heap.size W w → Calls Tryz.prog (stepF x.kind) #[.pointer (some ⟨C, 0, none⟩), spv x] w fun e w' => e = .returned (.tuple #[]) ∧ w'.cell? ⟨C, 3, none⟩ = some (.int .i64 (clock : Int)) ∧ w'.frozen? ⟨C, 3, none⟩ = false ∧ Q w w') :
    Calls Tryz.prog 12 #[.pointer (some ⟨C, 0, none⟩), spv x] W fun e W' => e = .returned (.tuple #[]) ∧ ∃ w1 w2, Below W.heap.size W w1 ∧ Q w1 w2 ∧ W' = w2.setCell ⟨C, 3, none⟩ (.int .i64 ((clock + 1 : Nat) : Int)) := by
  have HDx := Lib.hid HD
  have hmm := @run_makeMap Tryz.prog
  have hmf : ∀ (fn : Fn) (first cap : Array Value) (w : World), (Instr.makeFunc fn first cap).run Tryz.prog w = .ok (.func fn first cap) w := fun _ _ _ _ => rfl
  clear HD
  obtain ⟨kd, nd, j, full, ⟨cl0, sq, kind, row, col, tt, at_, value, expect, has⟩⟩ := x
  unfold spv spcells cmcells at HDx
  unfold spv spcells cmcells
  simp only [List.cons_append, List.nil_append] at HDx hk ⊢
  subst hk
  go_enter Tryz.func12, Tryz.ntmps12
  go_upto_region 1 with (fail)
  generalize hw1 : World.alloc W _ = w1
  have hA := named_new hw1.symm
  have hb1 := named_below hw1.symm
  have hzz : W.heap.size < w1.heap.size := by rw [named_size hw1.symm]; omega
  clear hw1
  have m0 := MapIs.made w1 (.int .i64)
  obtain ⟨y1, e1, m1, g1, z1⟩ := m0.store_new (P := Tryz.prog) (t := 81) (key := .int .i64 1) Tryz.underlying81 Tryz.underlying3 rfl (by simp) (.func (.func 31) #[.pointer (some ⟨C, 0, none⟩)] #[])
  obtain ⟨y2, e2, m2, g2, z2⟩ := m1.store_new (P := Tryz.prog) (t := 81) (key := .int .i64 2) Tryz.underlying81 Tryz.underlying3 rfl (by simp) (.func (.func 32) #[.pointer (some ⟨C, 0, none⟩)] #[])
  obtain ⟨y3, e3, m3, g3, z3⟩ := m2.store_new (P := Tryz.prog) (t := 81) (key := .int .i64 3) Tryz.underlying81 Tryz.underlying3 rfl (by simp) (.func (.func 33) #[.pointer (some ⟨C, 0, none⟩)] #[])
  obtain ⟨y4, e4, m4, g4, z4⟩ := m3.store_new (P := Tryz.prog) (t := 81) (key := .int .i64 4) Tryz.underlying81 Tryz.underlying3 rfl (by simp) (.func (.func 34) #[.pointer (some ⟨C, 0, none⟩)] #[])
  obtain ⟨y5, e5, m5, g5, z5⟩ := m4.store_new (P := Tryz.prog) (t := 81) (key := .int .i64 5) Tryz.underlying81 Tryz.underlying3 rfl (by simp) (.func (.func 35) #[.pointer (some ⟨C, 0, none⟩)] #[])
  obtain ⟨y6, e6, m6, g6, z6⟩ := m5.store_new (P := Tryz.prog) (t := 81) (key := .int .i64 6) Tryz.underlying81 Tryz.underlying3 rfl (by simp) (.func (.func 36) #[.pointer (some ⟨C, 0, none⟩)] #[])
  obtain ⟨y7, e7, m7, g7, z7⟩ := m6.store_new (P := Tryz.prog) (t := 81) (key := .int .i64 7) Tryz.underlying81 Tryz.underlying3 rfl (by simp) (.func (.func 37) #[.pointer (some ⟨C, 0, none⟩)] #[])
  obtain ⟨y8, e8, m8, g8, z8⟩ := m7.store_new (P := Tryz.prog) (t := 81) (key := .int .i64 8) Tryz.underlying81 Tryz.underlying3 rfl (by simp) (.func (.func 38) #[.pointer (some ⟨C, 0, none⟩)] #[])
  obtain ⟨y9, e9, m9, g9, z9⟩ := m8.store_new (P := Tryz.prog) (t := 81) (key := .int .i64 9) Tryz.underlying81 Tryz.underlying3 rfl (by simp) (.func (.func 39) #[.pointer (some ⟨C, 0, none⟩)] #[])
  have z0 : (w1.alloc (.map #[] 0)).heap.size = w1.heap.size + 1 := by simp
  have b0 : Below w1.heap.size w1 (w1.alloc (.map #[] 0)) := (Below.refl w1.heap.size w1).alloc (Nat.le_refl _) _
  have hrr : ∀ k, some w1.heap.size = some k → w1.heap.size ≤ k := fun k h => by injection h with h; omega
  have b1 := b0.grown g1 (by omega) hrr
  have b2 := b1.grown g2 (by omega) hrr
  have b3 := b2.grown g3 (by omega) hrr
  have b4 := b3.grown g4 (by omega) hrr
  have b5 := b4.grown g5 (by omega) hrr
  have b6 := b5.grown g6 (by omega) hrr
  have b7 := b6.grown g7 (by omega) hrr
  have b8 := b7.grown g8 (by omega) hrr
  have b9 := b8.grown g9 (by omega) hrr
  have HM9 := Lib.hid m9
  have hBW := hb1.trans (b9.mono (by omega))
  have hA9 := (b9.block W.heap.size hzz).trans hA
  have q0 : y9.cell? ⟨W.heap.size, 0, none⟩ = some (.int .i64 1) := cob hA9 0 rfl
  have q1 : y9.cell? ⟨W.heap.size, 1, none⟩ = some (.int .i64 nd) := cob hA9 1 rfl
  have q2 : y9.cell? ⟨W.heap.size, 2, none⟩ = some (.int .i64 j) := cob hA9 2 rfl
  have q3 : y9.cell? ⟨W.heap.size, 3, none⟩ = some (.int .i64 0) := cob hA9 3 rfl
  have q4 : y9.cell? ⟨W.heap.size, 4, none⟩ = some (.bool full) := cob hA9 4 rfl
  have q5 : y9.cell? ⟨W.heap.size, 5, none⟩ = some (.slice none 0 0) := cob hA9 5 rfl
  have q6 : y9.cell? ⟨W.heap.size, 6, none⟩ = some (.int .i64 cl0) := cob hA9 6 rfl
  have q7 : y9.cell? ⟨W.heap.size, 7, none⟩ = some (.int .i64 sq) := cob hA9 7 rfl
  have q8 : y9.cell? ⟨W.heap.size, 8, none⟩ = some (.int .i64 kind) := cob hA9 8 rfl
  have q9 : y9.cell? ⟨W.heap.size, 9, none⟩ = some (.string row) := cob hA9 9 rfl
  have q10 : y9.cell? ⟨W.heap.size, 10, none⟩ = some (.string col) := cob hA9 10 rfl
  have q11 : y9.cell? ⟨W.heap.size, 11, none⟩ = some (.string tt) := cob hA9 11 rfl
  have q12 : y9.cell? ⟨W.heap.size, 12, none⟩ = some (.int .i64 at_) := cob hA9 12 rfl
  have q13 : y9.cell? ⟨W.heap.size, 13, none⟩ = some (.string value) := cob hA9 13 rfl
  have q14 : y9.cell? ⟨W.heap.size, 14, none⟩ = some (.string expect) := cob hA9 14 rfl
  have q15 : y9.cell? ⟨W.heap.size, 15, none⟩ = some (.bool has) := cob hA9 15 rfl
  have HC := Lib.hid (HDx.out y9 hBW)
  have HBW := Lib.hid hBW
  clear hA hA9 hb1 hBW b0 b1 b2 b3 b4 b5 b6 b7 b8 b9 hrr z0 z1 z2 z3 z4 z5 z6 z7 z8 z9 m0 m1 m2 m3 m4 m5 m6 m7 m8 m9 g1 g2 g3 g4 g5 g6 g7 g8 g9
  have el := HM9.out.look (P := Tryz.prog) (t := 81) (key := .int .i64 1) Tryz.underlying81 Tryz.underlying3 rfl true (v := .func (.func 31) #[.pointer (some ⟨C, 0, none⟩)] #[]) (by simp)
  simp only [if_true] at el
  go_wp2_with (first | (go_at_call 31; refine HC.out.mono ?_; rintro e w3 ⟨rfl, hc3, hf3, hQ3⟩))
  go_end0
  exact ⟨rfl, y9, w3, HBW.out, hQ3, by simp⟩
theorem cdo_2_of (C clock : Nat) (hc : clock < 1000000) (x : Sp) (hk : x.kind = 2) (Q : World → World → Prop) (W : World)
    (HD : ∀ w, Below W.heap.size W w → Calls Tryz.prog (stepF x.kind) #[.pointer (some ⟨C, 0, none⟩), spv x] w fun e w' => e = .returned (.tuple #[]) ∧ w'.cell? ⟨C, 3, none⟩ = some (.int .i64 (clock : Int)) ∧ w'.frozen? ⟨C, 3, none⟩ = false ∧ Q w w') :
    Calls Tryz.prog 12 #[.pointer (some ⟨C, 0, none⟩), spv x] W fun e W' => e = .returned (.tuple #[]) ∧ ∃ w1 w2, Below W.heap.size W w1 ∧ Q w1 w2 ∧ W' = w2.setCell ⟨C, 3, none⟩ (.int .i64 ((clock + 1 : Nat) : Int)) := by
  have HDx := Lib.hid HD
  have hmm := @run_makeMap Tryz.prog
  have hmf : ∀ (fn : Fn) (first cap : Array Value) (w : World), (Instr.makeFunc fn first cap).run Tryz.prog w = .ok (.func fn first cap) w := fun _ _ _ _ => rfl
  clear HD
  obtain ⟨kd, nd, j, full, ⟨cl0, sq, kind, row, col, tt, at_, value, expect, has⟩⟩ := x
  unfold spv spcells cmcells at HDx
  unfold spv spcells cmcells
  simp only [List.cons_append, List.nil_append] at HDx hk ⊢
  subst hk
  go_enter Tryz.func12, Tryz.ntmps12
  go_upto_region 1 with (fail)
  generalize hw1 : World.alloc W _ = w1
  have hA := named_new hw1.symm
  have hb1 := named_below hw1.symm
  have hzz : W.heap.size < w1.heap.size := by rw [named_size hw1.symm]; omega
  clear hw1
  have m0 := MapIs.made w1 (.int .i64)
  obtain ⟨y1, e1, m1, g1, z1⟩ := m0.store_new (P := Tryz.prog) (t := 81) (key := .int .i64 1) Tryz.underlying81 Tryz.underlying3 rfl (by simp) (.func (.func 31) #[.pointer (some ⟨C, 0, none⟩)] #[])
  obtain ⟨y2, e2, m2, g2, z2⟩ := m1.store_new (P := Tryz.prog) (t := 81) (key := .int .i64 2) Tryz.underlying81 Tryz.underlying3 rfl (by simp) (.func (.func 32) #[.pointer (some ⟨C, 0, none⟩)] #[])
  obtain ⟨y3, e3, m3, g3, z3⟩ := m2.store_new (P := Tryz.prog) (t := 81) (key := .int .i64 3) Tryz.underlying81 Tryz.underlying3 rfl (by simp) (.func (.func 33) #[.pointer (some ⟨C, 0, none⟩)] #[])
  obtain ⟨y4, e4, m4, g4, z4⟩ := m3.store_new (P := Tryz.prog) (t := 81) (key := .int .i64 4) Tryz.underlying81 Tryz.underlying3 rfl (by simp) (.func (.func 34) #[.pointer (some ⟨C, 0, none⟩)] #[])
  obtain ⟨y5, e5, m5, g5, z5⟩ := m4.store_new (P := Tryz.prog) (t := 81) (key := .int .i64 5) Tryz.underlying81 Tryz.underlying3 rfl (by simp) (.func (.func 35) #[.pointer (some ⟨C, 0, none⟩)] #[])
  obtain ⟨y6, e6, m6, g6, z6⟩ := m5.store_new (P := Tryz.prog) (t := 81) (key := .int .i64 6) Tryz.underlying81 Tryz.underlying3 rfl (by simp) (.func (.func 36) #[.pointer (some ⟨C, 0, none⟩)] #[])
  obtain ⟨y7, e7, m7, g7, z7⟩ := m6.store_new (P := Tryz.prog) (t := 81) (key := .int .i64 7) Tryz.underlying81 Tryz.underlying3 rfl (by simp) (.func (.func 37) #[.pointer (some ⟨C, 0, none⟩)] #[])
  obtain ⟨y8, e8, m8, g8, z8⟩ := m7.store_new (P := Tryz.prog) (t := 81) (key := .int .i64 8) Tryz.underlying81 Tryz.underlying3 rfl (by simp) (.func (.func 38) #[.pointer (some ⟨C, 0, none⟩)] #[])
  obtain ⟨y9, e9, m9, g9, z9⟩ := m8.store_new (P := Tryz.prog) (t := 81) (key := .int .i64 9) Tryz.underlying81 Tryz.underlying3 rfl (by simp) (.func (.func 39) #[.pointer (some ⟨C, 0, none⟩)] #[])
  have z0 : (w1.alloc (.map #[] 0)).heap.size = w1.heap.size + 1 := by simp
  have b0 : Below w1.heap.size w1 (w1.alloc (.map #[] 0)) := (Below.refl w1.heap.size w1).alloc (Nat.le_refl _) _
  have hrr : ∀ k, some w1.heap.size = some k → w1.heap.size ≤ k := fun k h => by injection h with h; omega
  have b1 := b0.grown g1 (by omega) hrr
  have b2 := b1.grown g2 (by omega) hrr
  have b3 := b2.grown g3 (by omega) hrr
  have b4 := b3.grown g4 (by omega) hrr
  have b5 := b4.grown g5 (by omega) hrr
  have b6 := b5.grown g6 (by omega) hrr
  have b7 := b6.grown g7 (by omega) hrr
  have b8 := b7.grown g8 (by omega) hrr
  have b9 := b8.grown g9 (by omega) hrr
  have HM9 := Lib.hid m9
  have hBW := hb1.trans (b9.mono (by omega))
  have hA9 := (b9.block W.heap.size hzz).trans hA
  have q0 : y9.cell? ⟨W.heap.size, 0, none⟩ = some (.int .i64 2) := cob hA9 0 rfl
  have q1 : y9.cell? ⟨W.heap.size, 1, none⟩ = some (.int .i64 nd) := cob hA9 1 rfl
  have q2 : y9.cell? ⟨W.heap.size, 2, none⟩ = some (.int .i64 j) := cob hA9 2 rfl
  have q3 : y9.cell? ⟨W.heap.size, 3, none⟩ = some (.int .i64 0) := cob hA9 3 rfl
  have q4 : y9.cell? ⟨W.heap.size, 4, none⟩ = some (.bool full) := cob hA9 4 rfl
  have q5 : y9.cell? ⟨W.heap.size, 5, none⟩ = some (.slice none 0 0) := cob hA9 5 rfl
  have q6 : y9.cell? ⟨W.heap.size, 6, none⟩ = some (.int .i64 cl0) := cob hA9 6 rfl
  have q7 : y9.cell? ⟨W.heap.size, 7, none⟩ = some (.int .i64 sq) := cob hA9 7 rfl
  have q8 : y9.cell? ⟨W.heap.size, 8, none⟩ = some (.int .i64 kind) := cob hA9 8 rfl
  have q9 : y9.cell? ⟨W.heap.size, 9, none⟩ = some (.string row) := cob hA9 9 rfl
  have q10 : y9.cell? ⟨W.heap.size, 10, none⟩ = some (.string col) := cob hA9 10 rfl
  have q11 : y9.cell? ⟨W.heap.size, 11, none⟩ = some (.string tt) := cob hA9 11 rfl
  have q12 : y9.cell? ⟨W.heap.size, 12, none⟩ = some (.int .i64 at_) := cob hA9 12 rfl
  have q13 : y9.cell? ⟨W.heap.size, 13, none⟩ = some (.string value) := cob hA9 13 rfl
  have q14 : y9.cell? ⟨W.heap.size, 14, none⟩ = some (.string expect) := cob hA9 14 rfl
  have q15 : y9.cell? ⟨W.heap.size, 15, none⟩ = some (.bool has) := cob hA9 15 rfl
  have HC := Lib.hid (HDx.out y9 hBW)
  have HBW := Lib.hid hBW
  clear hA hA9 hb1 hBW b0 b1 b2 b3 b4 b5 b6 b7 b8 b9 hrr z0 z1 z2 z3 z4 z5 z6 z7 z8 z9 m0 m1 m2 m3 m4 m5 m6 m7 m8 m9 g1 g2 g3 g4 g5 g6 g7 g8 g9
  have el := HM9.out.look (P := Tryz.prog) (t := 81) (key := .int .i64 2) Tryz.underlying81 Tryz.underlying3 rfl true (v := .func (.func 32) #[.pointer (some ⟨C, 0, none⟩)] #[]) (by simp)
  simp only [if_true] at el
  go_wp2_with (first | (go_at_call 32; refine HC.out.mono ?_; rintro e w3 ⟨rfl, hc3, hf3, hQ3⟩))
  go_end0
  exact ⟨rfl, y9, w3, HBW.out, hQ3, by simp⟩
theorem cdo_5_of (C clock : Nat) (hc : clock < 1000000) (x : Sp) (hk : x.kind = 5) (Q : World → World → Prop) (W : World)
    (HD : ∀ w, Below W.heap.size W w → Calls Tryz.prog (stepF x.kind) #[.pointer (some ⟨C, 0, none⟩), spv x] w fun e w' => e = .returned (.tuple #[]) ∧ w'.cell? ⟨C, 3, none⟩ = some (.int .i64 (clock : Int)) ∧ w'.frozen? ⟨C, 3, none⟩ = false ∧ Q w w') :
    Calls Tryz.prog 12 #[.pointer (some ⟨C, 0, none⟩), spv x] W fun e W' => e = .returned (.tuple #[]) ∧ ∃ w1 w2, Below W.heap.size W w1 ∧ Q w1 w2 ∧ W' = w2.setCell ⟨C, 3, none⟩ (.int .i64 ((clock + 1 : Nat) : Int)) := by
  have HDx := Lib.hid HD
  have hmm := @run_makeMap Tryz.prog
  have hmf : ∀ (fn : Fn) (first cap : Array Value) (w : World), (Instr.makeFunc fn first cap).run Tryz.prog w = .ok (.func fn first cap) w := fun _ _ _ _ => rfl
  clear HD
  obtain ⟨kd, nd, j, full, ⟨cl0, sq, kind, row, col, tt, at_, value, expect, has⟩⟩ := x
  unfold spv spcells cmcells at HDx
  unfold spv spcells cmcells
  simp only [List.cons_append, List.nil_append] at HDx hk ⊢
  subst hk
  go_enter Tryz.func12, Tryz.ntmps12
  go_upto_region 1 with (fail)
  generalize hw1 : World.alloc W _ = w1
  have hA := named_new hw1.symm
  have hb1 := named_below hw1.symm
  have hzz : W.heap.size < w1.heap.size := by rw [named_size hw1.symm]; omega
  clear hw1
  have m0 := MapIs.made w1 (.int .i64)
  obtain ⟨y1, e1, m1, g1, z1⟩ := m0.store_new (P := Tryz.prog) (t := 81) (key := .int .i64 1) Tryz.underlying81 Tryz.underlying3 rfl (by simp) (.func (.func 31) #[.pointer (some ⟨C, 0, none⟩)] #[])
  obtain ⟨y2, e2, m2, g2, z2⟩ := m1.store_new (P := Tryz.prog) (t := 81) (key := .int .i64 2) Tryz.underlying81 Tryz.underlying3 rfl (by simp) (.func (.func 32) #[.pointer (some ⟨C, 0, none⟩)] #[])
  obtain ⟨y3, e3, m3, g3, z3⟩ := m2.store_new (P := Tryz.prog) (t := 81) (key := .int .i64 3) Tryz.underlying81 Tryz.underlying3 rfl (by simp) (.func (.func 33) #[.pointer (some ⟨C, 0, none⟩)] #[])
  obtain ⟨y4, e4, m4, g4, z4⟩ := m3.store_new (P := Tryz.prog) (t := 81) (key := .int .i64 4) Tryz.underlying81 Tryz.underlying3 rfl (by simp) (.func (.func 34) #[.pointer (some ⟨C, 0, none⟩)] #[])
  obtain ⟨y5, e5, m5, g5, z5⟩ := m4.store_new (P := Tryz.prog) (t := 81) (key := .int .i64 5) Tryz.underlying81 Tryz.underlying3 rfl (by simp) (.func (.func 35) #[.pointer (some ⟨C, 0, none⟩)] #[])
  obtain ⟨y6, e6, m6, g6, z6⟩ := m5.store_new (P := Tryz.prog) (t := 81) (key := .int .i64 6) Tryz.underlying81 Tryz.underlying3 rfl (by simp) (.func (.func 36) #[.pointer (some ⟨C, 0, none⟩)] #[])
  obtain ⟨y7, e7, m7, g7, z7⟩ := m6.store_new (P := Tryz.prog) (t := 81) (key := .int .i64 7) Tryz.underlying81 Tryz.underlying3 rfl (by simp) (.func (.func 37) #[.pointer (some ⟨C, 0, none⟩)] #[])
  obtain ⟨y8, e8, m8, g8, z8⟩ := m7.store_new (P := Tryz.prog) (t := 81) (key := .int .i64 8) Tryz.underlying81 Tryz.underlying3 rfl (by simp) (.func (.func 38) #[.pointer (some ⟨C, 0, none⟩)] #[])
  obtain ⟨y9, e9, m9, g9, z9⟩ := m8.store_new (P := Tryz.prog) (t := 81) (key := .int .i64 9) Tryz.underlying81 Tryz.underlying3 rfl (by simp) (.func (.func 39) #[.pointer (some ⟨C, 0, none⟩)] #[])
  have z0 : (w1.alloc (.map #[] 0)).heap.size = w1.heap.size + 1 := by simp
  have b0 : Below w1.heap.size w1 (w1.alloc (.map #[] 0)) := (Below.refl w1.heap.size w1).alloc (Nat.le_refl _) _
  have hrr : ∀ k, some w1.heap.size = some k → w1.heap.size ≤ k := fun k h => by injection h with h; omega
  have b1 := b0.grown g1 (by omega) hrr
  have b2 := b1.grown g2 (by omega) hrr
  have b3 := b2.grown g3 (by omega) hrr
  have b4 := b3.grown g4 (by omega) hrr
  have b5 := b4.grown g5 (by omega) hrr
  have b6 := b5.grown g6 (by omega) hrr
  have b7 := b6.grown g7 (by omega) hrr
  have b8 := b7.grown g8 (by omega) hrr
  have b9 := b8.grown g9 (by omega) hrr
  have HM9 := Lib.hid m9
  have hBW := hb1.trans (b9.mono (by omega))
  have hA9 := (b9.block W.heap.size hzz).trans hA
  have q0 : y9.cell? ⟨W.heap.size, 0, none⟩ = some (.int .i64 5) := cob hA9 0 rfl
  have q1 : y9.cell? ⟨W.heap.size, 1, none⟩ = some (.int .i64 nd) := cob hA9 1 rfl
  have q2 : y9.cell? ⟨W.heap.size, 2, none⟩ = some (.int .i64 j) := cob hA9 2 rfl
  have q3 : y9.cell? ⟨W.heap.size, 3, none⟩ = some (.int .i64 0) := cob hA9 3 rfl
  have q4 : y9.cell? ⟨W.heap.size, 4, none⟩ = some (.bool full) := cob hA9 4 rfl
  have q5 : y9.cell? ⟨W.heap.size, 5, none⟩ = some (.slice none 0 0) := cob hA9 5 rfl
  have q6 : y9.cell? ⟨W.heap.size, 6, none⟩ = some (.int .i64 cl0) := cob hA9 6 rfl
  have q7 : y9.cell? ⟨W.heap.size, 7, none⟩ = some (.int .i64 sq) := cob hA9 7 rfl
  have q8 : y9.cell? ⟨W.heap.size, 8, none⟩ = some (.int .i64 kind) := cob hA9 8 rfl
  have q9 : y9.cell? ⟨W.heap.size, 9, none⟩ = some (.string row) := cob hA9 9 rfl
  have q10 : y9.cell? ⟨W.heap.size, 10, none⟩ = some (.string col) := cob hA9 10 rfl
  have q11 : y9.cell? ⟨W.heap.size, 11, none⟩ = some (.string tt) := cob hA9 11 rfl
  have q12 : y9.cell? ⟨W.heap.size, 12, none⟩ = some (.int .i64 at_) := cob hA9 12 rfl
  have q13 : y9.cell? ⟨W.heap.size, 13, none⟩ = some (.string value) := cob hA9 13 rfl
  have q14 : y9.cell? ⟨W.heap.size, 14, none⟩ = some (.string expect) := cob hA9 14 rfl
  have q15 : y9.cell? ⟨W.heap.size, 15, none⟩ = some (.bool has) := cob hA9 15 rfl
  have HC := Lib.hid (HDx.out y9 hBW)
  have HBW := Lib.hid hBW
  clear hA hA9 hb1 hBW b0 b1 b2 b3 b4 b5 b6 b7 b8 b9 hrr z0 z1 z2 z3 z4 z5 z6 z7 z8 z9 m0 m1 m2 m3 m4 m5 m6 m7 m8 m9 g1 g2 g3 g4 g5 g6 g7 g8 g9
  have el := HM9.out.look (P := Tryz.prog) (t := 81) (key := .int .i64 5) Tryz.underlying81 Tryz.underlying3 rfl true (v := .func (.func 35) #[.pointer (some ⟨C, 0, none⟩)] #[]) (by simp)
  simp only [if_true] at el
  go_wp2_with (first | (go_at_call 35; refine HC.out.mono ?_; rintro e w3 ⟨rfl, hc3, hf3, hQ3⟩))
  go_end0
  exact ⟨rfl, y9, w3, HBW.out, hQ3, by simp⟩
theorem cdo_6_of (C clock : Nat) (hc : clock < 1000000) (x : Sp) (hk : x.kind = 6) (Q : World → World → Prop) (W : World)
    (HD : ∀ w, Below W.heap.size W w → Calls Tryz.prog (stepF x.kind) #[.pointer (some ⟨C, 0, none⟩), spv x] w fun e w' => e = .returned (.tuple #[]) ∧ w'.cell? ⟨C, 3, none⟩ = some (.int .i64 (clock : Int)) ∧ w'.frozen? ⟨C, 3, none⟩ = false ∧ Q w w') :
    Calls Tryz.prog 12 #[.pointer (some ⟨C, 0, none⟩), spv x] W fun e W' => e = .returned (.tuple #[]) ∧ ∃ w1 w2, Below W.heap.size W w1 ∧ Q w1 w2 ∧ W' = w2.setCell ⟨C, 3, none⟩ (.int .i64 ((clock + 1 : Nat) : Int)) := by
  have HDx := Lib.hid HD
  have hmm := @run_makeMap Tryz.prog
  have hmf : ∀ (fn : Fn) (first cap : Array Value) (w : World), (Instr.makeFunc fn first cap).run Tryz.prog w = .ok (.func fn first cap) w := fun _ _ _ _ => rfl
  clear HD
  obtain ⟨kd, nd, j, full, ⟨cl0, sq, kind, row, col, tt, at_, value, expect, has⟩⟩ := x
  unfold spv spcells cmcells at HDx
  unfold spv spcells cmcells
  simp only [List.cons_append, List.nil_append] at HDx hk ⊢
  subst hk
  go_enter Tryz.func12, Tryz.ntmps12
  go_upto_region 1 with (fail)
  generalize hw1 : World.alloc W _ = w1
  have hA := named_new hw1.symm
  have hb1 := named_below hw1.symm
  have hzz : W.heap.size < w1.heap.size := by rw [named_size hw1.symm]; omega
  clear hw1
  have m0 := MapIs.made w1 (.int .i64)
  obtain ⟨y1, e1, m1, g1, z1⟩ := m0.store_new (P := Tryz.prog) (t := 81) (key := .int .i64 1) Tryz.underlying81 Tryz.underlying3 rfl (by simp) (.func (.func 31) #[.pointer (some ⟨C, 0, none⟩)] #[])
  obtain ⟨y2, e2, m2, g2, z2⟩ := m1.store_new (P := Tryz.prog) (t := 81) (key := .int .i64 2) Tryz.underlying81 Tryz.underlying3 rfl (by simp) (.func (.func 32) #[.pointer (some ⟨C, 0, none⟩)] #[])
  obtain ⟨y3, e3, m3, g3, z3⟩ := m2.store_new (P := Tryz.prog) (t := 81) (key := .int .i64 3) Tryz.underlying81 Tryz.underlying3 rfl (by simp) (.func (.func 33) #[.pointer (some ⟨C, 0, none⟩)] #[])
  obtain ⟨y4, e4, m4, g4, z4⟩ := m3.store_new (P := Tryz.prog) (t := 81) (key := .int .i64 4) Tryz.underlying81 Tryz.underlying3 rfl (by simp) (.func (.func 34) #[.pointer (some ⟨C, 0, none⟩)] #[])
  obtain ⟨y5, e5, m5, g5, z5⟩ := m4.store_new (P := Tryz.prog) (t := 81) (key := .int .i64 5) Tryz.underlying81 Tryz.underlying3 rfl (by simp) (.func (.func 35) #[.pointer (some ⟨C, 0, none⟩)] #[])
  obtain ⟨y6, e6, m6, g6, z6⟩ := m5.store_new (P := Tryz.prog) (t := 81) (key := .int .i64 6) Tryz.underlying81 Tryz.underlying3 rfl (by simp) (.func (.func 36) #[.pointer (some ⟨C, 0, none⟩)] #[])
  obtain ⟨y7, e7, m7, g7, z7⟩ := m6.store_new (P := Tryz.prog) (t := 81) (key := .int .i64 7) Tryz.underlying81 Tryz.underlying3 rfl (by simp) (.func (.func 37) #[.pointer (some ⟨C, 0, none⟩)] #[])
  obtain ⟨y8, e8, m8, g8, z8⟩ := m7.store_new (P := Tryz.prog) (t := 81) (key := .int .i64 8) Tryz.underlying81 Tryz.underlying3 rfl (by simp) (.func (.func 38) #[.pointer (some ⟨C, 0, none⟩)] #[])
  obtain ⟨y9, e9, m9, g9, z9⟩ := m8.store_new (P := Tryz.prog) (t := 81) (key := .int .i64 9) Tryz.underlying81 Tryz.underlying3 rfl (by simp) (.func (.func 39) #[.pointer (some ⟨C, 0, none⟩)] #[])
  have z0 : (w1.alloc (.map #[] 0)).heap.size = w1.heap.size + 1 := by simp
  have b0 : Below w1.heap.size w1 (w1.alloc (.map #[] 0)) := (Below.refl w1.heap.size w1).alloc (Nat.le_refl _) _
  have hrr : ∀ k, some w1.heap.size = some k → w1.heap.size ≤ k := fun k h => by injection h with h; omega
  have b1 := b0.grown g1 (by omega) hrr
  have b2 := b1.grown g2 (by omega) hrr
  have b3 := b2.grown g3 (by omega) hrr
  have b4 := b3.grown g4 (by omega) hrr
  have b5 := b4.grown g5 (by omega) hrr
  have b6 := b5.grown g6 (by omega) hrr
  have b7 := b6.grown g7 (by omega) hrr
  have b8 := b7.grown g8 (by omega) hrr
  have b9 := b8.grown g9 (by omega) hrr
  have HM9 := Lib.hid m9
  have hBW := hb1.trans (b9.mono (by omega))
  have hA9 := (b9.block W.heap.size hzz).trans hA
  have q0 : y9.cell? ⟨W.heap.size, 0, none⟩ = some (.int .i64 6) := cob hA9 0 rfl
  have q1 : y9.cell? ⟨W.heap.size, 1, none⟩ = some (.int .i64 nd) := cob hA9 1 rfl
  have q2 : y9.cell? ⟨W.heap.size, 2, none⟩ = some (.int .i64 j) := cob hA9 2 rfl
  have q3 : y9.cell? ⟨W.heap.size, 3, none⟩ = some (.int .i64 0) := cob hA9 3 rfl
  have q4 : y9.cell? ⟨W.heap.size, 4, none⟩ = some (.bool full) := cob hA9 4 rfl
  have q5 : y9.cell? ⟨W.heap.size, 5, none⟩ = some (.slice none 0 0) := cob hA9 5 rfl
  have q6 : y9.cell? ⟨W.heap.size, 6, none⟩ = some (.int .i64 cl0) := cob hA9 6 rfl
  have q7 : y9.cell? ⟨W.heap.size, 7, none⟩ = some (.int .i64 sq) := cob hA9 7 rfl
  have q8 : y9.cell? ⟨W.heap.size, 8, none⟩ = some (.int .i64 kind) := cob hA9 8 rfl
  have q9 : y9.cell? ⟨W.heap.size, 9, none⟩ = some (.string row) := cob hA9 9 rfl
  have q10 : y9.cell? ⟨W.heap.size, 10, none⟩ = some (.string col) := cob hA9 10 rfl
  have q11 : y9.cell? ⟨W.heap.size, 11, none⟩ = some (.string tt) := cob hA9 11 rfl
  have q12 : y9.cell? ⟨W.heap.size, 12, none⟩ = some (.int .i64 at_) := cob hA9 12 rfl
  have q13 : y9.cell? ⟨W.heap.size, 13, none⟩ = some (.string value) := cob hA9 13 rfl
  have q14 : y9.cell? ⟨W.heap.size, 14, none⟩ = some (.string expect) := cob hA9 14 rfl
  have q15 : y9.cell? ⟨W.heap.size, 15, none⟩ = some (.bool has) := cob hA9 15 rfl
  have HC := Lib.hid (HDx.out y9 hBW)
  have HBW := Lib.hid hBW
  clear hA hA9 hb1 hBW b0 b1 b2 b3 b4 b5 b6 b7 b8 b9 hrr z0 z1 z2 z3 z4 z5 z6 z7 z8 z9 m0 m1 m2 m3 m4 m5 m6 m7 m8 m9 g1 g2 g3 g4 g5 g6 g7 g8 g9
  have el := HM9.out.look (P := Tryz.prog) (t := 81) (key := .int .i64 6) Tryz.underlying81 Tryz.underlying3 rfl true (v := .func (.func 36) #[.pointer (some ⟨C, 0, none⟩)] #[]) (by simp)
  simp only [if_true] at el
  go_wp2_with (first | (go_at_call 36; refine HC.out.mono ?_; rintro e w3 ⟨rfl, hc3, hf3, hQ3⟩))
  go_end0
  exact ⟨rfl, y9, w3, HBW.out, hQ3, by simp⟩
theorem cdo_7_of (C clock : Nat) (hc : clock < 1000000) (x : Sp) (hk : x.kind = 7) (Q : World → World → Prop) (W : World)
    (HD : ∀ w, Below W.heap.size W w → Calls Tryz.prog (stepF x.kind) #[.pointer (some ⟨C, 0, none⟩), spv x] w fun e w' => e = .returned (.tuple #[]) ∧ w'.cell? ⟨C, 3, none⟩ = some (.int .i64 (clock : Int)) ∧ w'.frozen? ⟨C, 3, none⟩ = false ∧ Q w w') :
    Calls Tryz.prog 12 #[.pointer (some ⟨C, 0, none⟩), spv x] W fun e W' => e = .returned (.tuple #[]) ∧ ∃ w1 w2, Below W.heap.size W w1 ∧ Q w1 w2 ∧ W' = w2.setCell ⟨C, 3, none⟩ (.int .i64 ((clock + 1 : Nat) : Int)) := by
  have HDx := Lib.hid HD
  have hmm := @run_makeMap Tryz.prog
  have hmf : ∀ (fn : Fn) (first cap : Array Value) (w : World), (Instr.makeFunc fn first cap).run Tryz.prog w = .ok (.func fn first cap) w := fun _ _ _ _ => rfl
  clear HD
  obtain ⟨kd, nd, j, full, ⟨cl0, sq, kind, row, col, tt, at_, value, expect, has⟩⟩ := x
  unfold spv spcells cmcells at HDx
  unfold spv spcells cmcells
  simp only [List.cons_append, List.nil_append] at HDx hk ⊢
  subst hk
  go_enter Tryz.func12, Tryz.ntmps12
  go_upto_region 1 with (fail)
  generalize hw1 : World.alloc W _ = w1
  have hA := named_new hw1.symm
  have hb1 := named_below hw1.symm
  have hzz : W.heap.size < w1.heap.size := by rw [named_size hw1.symm]; omega
  clear hw1
  have m0 := MapIs.made w1 (.int .i64)
  obtain ⟨y1, e1, m1, g1, z1⟩ := m0.store_new (P := Tryz.prog) (t := 81) (key := .int .i64 1) Tryz.underlying81 Tryz.underlying3 rfl (by simp) (.func (.func 31) #[.pointer (some ⟨C, 0, none⟩)] #[])
  obtain ⟨y2, e2, m2, g2, z2⟩ := m1.store_new (P := Tryz.prog) (t := 81) (key := .int .i64 2) Tryz.underlying81 Tryz.underlying3 rfl (by simp) (.func (.func 32) #[.pointer (some ⟨C, 0, none⟩)] #[])
  obtain ⟨y3, e3, m3, g3, z3⟩ := m2.store_new (P := Tryz.prog) (t := 81) (key := .int .i64 3) Tryz.underlying81 Tryz.underlying3 rfl (by simp) (.func (.func 33) #[.pointer (some ⟨C, 0, none⟩)] #[])
  obtain ⟨y4, e4, m4, g4, z4⟩ := m3.store_new (P := Tryz.prog) (t := 81) (key := .int .i64 4) Tryz.underlying81 Tryz.underlying3 rfl (by simp) (.func (.func 34) #[.pointer (some ⟨C, 0, none⟩)] #[])
  obtain ⟨y5, e5, m5, g5, z5⟩ := m4.store_new (P := Tryz.prog) (t := 81) (key := .int .i64 5) Tryz.underlying81 Tryz.underlying3 rfl (by simp) (.func (.func 35) #[.pointer (some ⟨C, 0, none⟩)] #[])
  obtain ⟨y6, e6, m6, g6, z6⟩ := m5.store_new (P := Tryz.prog) (t := 81) (key := .int .i64 6) Tryz.underlying81 Tryz.underlying3 rfl (by simp) (.func (.func 36) #[.pointer (some ⟨C, 0, none⟩)] #[])
  obtain ⟨y7, e7, m7, g7, z7⟩ := m6.store_new (P := Tryz.prog) (t := 81) (key := .int .i64 7) Tryz.underlying81 Tryz.underlying3 rfl (by simp) (.func (.func 37) #[.pointer (some ⟨C, 0, none⟩)] #[])
  obtain ⟨y8, e8, m8, g8, z8⟩ := m7.store_new (P := Tryz.prog) (t := 81) (key := .int .i64 8) Tryz.underlying81 Tryz.underlying3 rfl (by simp) (.func (.func 38) #[.pointer (some ⟨C, 0, none⟩)] #[])
  obtain ⟨y9, e9, m9, g9, z9⟩ := m8.store_new (P := Tryz.prog) (t := 81) (key := .int .i64 9) Tryz.underlying81 Tryz.underlying3 rfl (by simp) (.func (.func 39) #[.pointer (some ⟨C, 0, none⟩)] #[])
  have z0 : (w1.alloc (.map #[] 0)).heap.size = w1.heap.size + 1 := by simp
  have b0 : Below w1.heap.size w1 (w1.alloc (.map #[] 0)) := (Below.refl w1.heap.size w1).alloc (Nat.le_refl _) _
  have hrr : ∀ k, some w1.heap.size = some k → w1.heap.size ≤ k := fun k h => by injection h with h; omega
  have b1 := b0.grown g1 (by omega) hrr
  have b2 := b1.grown g2 (by omega) hrr
  have b3 := b2.grown g3 (by omega) hrr
  have b4 := b3.grown g4 (by omega) hrr
  have b5 := b4.grown g5 (by omega) hrr
  have b6 := b5.grown g6 (by omega) hrr
  have b7 := b6.grown g7 (by omega) hrr
  have b8 := b7.grown g8 (by omega) hrr
  have b9 := b8.grown g9 (by omega) hrr
  have HM9 := Lib.hid m9
  have hBW := hb1.trans (b9.mono (by omega))
  have hA9 := (b9.block W.heap.size hzz).trans hA
  have q0 : y9.cell? ⟨W.heap.size, 0, none⟩ = some (.int .i64 7) := cob hA9 0 rfl
  have q1 : y9.cell? ⟨W.heap.size, 1, none⟩ = some (.int .i64 nd) := cob hA9 1 rfl
  have q2 : y9.cell? ⟨W.heap.size, 2, none⟩ = some (.int .i64 j) := cob hA9 2 rfl
  have q3 : y9.cell? ⟨W.heap.size, 3, none⟩ = some (.int .i64 0) := cob hA9 3 rfl
  have q4 : y9.cell? ⟨W.heap.size, 4, none⟩ = some (.bool full) := cob hA9 4 rfl
  have q5 : y9.cell? ⟨W.heap.size, 5, none⟩ = some (.slice none 0 0) := cob hA9 5 rfl
  have q6 : y9.cell? ⟨W.heap.size, 6, none⟩ = some (.int .i64 cl0) := cob hA9 6 rfl
  have q7 : y9.cell? ⟨W.heap.size, 7, none⟩ = some (.int .i64 sq) := cob hA9 7 rfl
  have q8 : y9.cell? ⟨W.heap.size, 8, none⟩ = some (.int .i64 kind) := cob hA9 8 rfl
  have q9 : y9.cell? ⟨W.heap.size, 9, none⟩ = some (.string row) := cob hA9 9 rfl
  have q10 : y9.cell? ⟨W.heap.size, 10, none⟩ = some (.string col) := cob hA9 10 rfl
  have q11 : y9.cell? ⟨W.heap.size, 11, none⟩ = some (.string tt) := cob hA9 11 rfl
  have q12 : y9.cell? ⟨W.heap.size, 12, none⟩ = some (.int .i64 at_) := cob hA9 12 rfl
  have q13 : y9.cell? ⟨W.heap.size, 13, none⟩ = some (.string value) := cob hA9 13 rfl
  have q14 : y9.cell? ⟨W.heap.size, 14, none⟩ = some (.string expect) := cob hA9 14 rfl
  have q15 : y9.cell? ⟨W.heap.size, 15, none⟩ = some (.bool has) := cob hA9 15 rfl
  have HC := Lib.hid (HDx.out y9 hBW)
  have HBW := Lib.hid hBW
  clear hA hA9 hb1 hBW b0 b1 b2 b3 b4 b5 b6 b7 b8 b9 hrr z0 z1 z2 z3 z4 z5 z6 z7 z8 z9 m0 m1 m2 m3 m4 m5 m6 m7 m8 m9 g1 g2 g3 g4 g5 g6 g7 g8 g9
  have el := HM9.out.look (P := Tryz.prog) (t := 81) (key := .int .i64 7) Tryz.underlying81 Tryz.underlying3 rfl true (v := .func (.func 37) #[.pointer (some ⟨C, 0, none⟩)] #[]) (by simp)
  simp only [if_true] at el
  go_wp2_with (first | (go_at_call 37; refine HC.out.mono ?_; rintro e w3 ⟨rfl, hc3, hf3, hQ3⟩))
  go_end0
  exact ⟨rfl, y9, w3, HBW.out, hQ3, by simp⟩
theorem cdo_8_of (C clock : Nat) (hc : clock < 1000000) (x : Sp) (hk : x.kind = 8) (Q : World → World → Prop) (W : World)
    (HD : ∀ w, Below W.heap.size W w → Calls Tryz.prog (stepF x.kind) #[.pointer (some ⟨C, 0, none⟩), spv x] w fun e w' => e = .returned (.tuple #[]) ∧ w'.cell? ⟨C, 3, none⟩ = some (.int .i64 (clock : Int)) ∧ w'.frozen? ⟨C, 3, none⟩ = false ∧ Q w w') :
    Calls Tryz.prog 12 #[.pointer (some ⟨C, 0, none⟩), spv x] W fun e W' => e = .returned (.tuple #[]) ∧ ∃ w1 w2, Below W.heap.size W w1 ∧ Q w1 w2 ∧ W' = w2.setCell ⟨C, 3, none⟩ (.int .i64 ((clock + 1 : Nat) : Int)) := by
  have HDx := Lib.hid HD
  have hmm := @run_makeMap Tryz.prog
  have hmf : ∀ (fn : Fn) (first cap : Array Value) (w : World), (Instr.makeFunc fn first cap).run Tryz.prog w = .ok (.func fn first cap) w := fun _ _ _ _ => rfl
  clear HD
  obtain ⟨kd, nd, j, full, ⟨cl0, sq, kind, row, col, tt, at_, value, expect, has⟩⟩ := x
  unfold spv spcells cmcells at HDx
  unfold spv spcells cmcells
  simp only [List.cons_append, List.nil_append] at HDx hk ⊢
  subst hk
  go_enter Tryz.func12, Tryz.ntmps12
  go_upto_region 1 with (fail)
  generalize hw1 : World.alloc W _ = w1
  have hA := named_new hw1.symm
  have hb1 := named_below hw1.symm
  have hzz : W.heap.size < w1.heap.size := by rw [named_size hw1.symm]; omega
  clear hw1
  have m0 := MapIs.made w1 (.int .i64)
  obtain ⟨y1, e1, m1, g1, z1⟩ := m0.store_new (P := Tryz.prog) (t := 81) (key := .int .i64 1) Tryz.underlying81 Tryz.underlying3 rfl (by simp) (.func (.func 31) #[.pointer (some ⟨C, 0, none⟩)] #[])
  obtain ⟨y2, e2, m2, g2, z2⟩ := m1.store_new (P := Tryz.prog) (t := 81) (key := .int .i64 2) Tryz.underlying81 Tryz.underlying3 rfl (by simp) (.func (.func 32) #[.pointer (some ⟨C, 0, none⟩)] #[])
  obtain ⟨y3, e3, m3, g3, z3⟩ := m2.store_new (P := Tryz.prog) (t := 81) (key := .int .i64 3) Tryz.underlying81 Tryz.underlying3 rfl (by simp) (.func (.func 33) #[.pointer (some ⟨C, 0, none⟩)] #[])
  obtain ⟨y4, e4, m4, g4, z4⟩ := m3.store_new (P := Tryz.prog) (t := 81) (key := .int .i64 4) Tryz.underlying81 Tryz.underlying3 rfl (by simp) (.func (.func 34) #[.pointer (some ⟨C, 0, none⟩)] #[])
  obtain ⟨y5, e5, m5, g5, z5⟩ := m4.store_new (P := Tryz.prog) (t := 81) (key := .int .i64 5) Tryz.underlying81 Tryz.underlying3 rfl (by simp) (.func (.func 35) #[.pointer (some ⟨C, 0, none⟩)] #[])
  obtain ⟨y6, e6, m6, g6, z6⟩ := m5.store_new (P := Tryz.prog) (t := 81) (key := .int .i64 6) Tryz.underlying81 Tryz.underlying3 rfl (by simp) (.func (.func 36) #[.pointer (some ⟨C, 0, none⟩)] #[])
  obtain ⟨y7, e7, m7, g7, z7⟩ := m6.store_new (P := Tryz.prog) (t := 81) (key := .int .i64 7) Tryz.underlying81 Tryz.underlying3 rfl (by simp) (.func (.func 37) #[.pointer (some ⟨C, 0, none⟩)] #[])
  obtain ⟨y8, e8, m8, g8, z8⟩ := m7.store_new (P := Tryz.prog) (t := 81) (key := .int .i64 8) Tryz.underlying81 Tryz.underlying3 rfl (by simp) (.func (.func 38) #[.pointer (some ⟨C, 0, none⟩)] #[])
  obtain ⟨y9, e9, m9, g9, z9⟩ := m8.store_new (P := Tryz.prog) (t := 81) (key := .int .i64 9) Tryz.underlying81 Tryz.underlying3 rfl (by simp) (.func (.func 39) #[.pointer (some ⟨C, 0, none⟩)] #[])
  have z0 : (w1.alloc (.map #[] 0)).heap.size = w1.heap.size + 1 := by simp
  have b0 : Below w1.heap.size w1 (w1.alloc (.map #[] 0)) := (Below.refl w1.heap.size w1).alloc (Nat.le_refl _) _
  have hrr : ∀ k, some w1.heap.size = some k → w1.heap.size ≤ k := fun k h => by injection h with h; omega
  have b1 := b0.grown g1 (by omega) hrr
  have b2 := b1.grown g2 (by omega) hrr
  have b3 := b2.grown g3 (by omega) hrr
  have b4 := b3.grown g4 (by omega) hrr
  have b5 := b4.grown g5 (by omega) hrr
  have b6 := b5.grown g6 (by omega) hrr
  have b7 := b6.grown g7 (by omega) hrr
  have b8 := b7.grown g8 (by omega) hrr
  have b9 := b8.grown g9 (by omega) hrr
  have HM9 := Lib.hid m9
  have hBW := hb1.trans (b9.mono (by omega))
  have hA9 := (b9.block W.heap.size hzz).trans hA
  have q0 : y9.cell? ⟨W.heap.size, 0, none⟩ = some (.int .i64 8) := cob hA9 0 rfl
  have q1 : y9.cell? ⟨W.heap.size, 1, none⟩ = some (.int .i64 nd) := cob hA9 1 rfl
  have q2 : y9.cell? ⟨W.heap.size, 2, none⟩ = some (.int .i64 j) := cob hA9 2 rfl
  have q3 : y9.cell? ⟨W.heap.size, 3, none⟩ = some (.int .i64 0) := cob hA9 3 rfl
  have q4 : y9.cell? ⟨W.heap.size, 4, none⟩ = some (.bool full) := cob hA9 4 rfl
  have q5 : y9.cell? ⟨W.heap.size, 5, none⟩ = some (.slice none 0 0) := cob hA9 5 rfl
  have q6 : y9.cell? ⟨W.heap.size, 6, none⟩ = some (.int .i64 cl0) := cob hA9 6 rfl
  have q7 : y9.cell? ⟨W.heap.size, 7, none⟩ = some (.int .i64 sq) := cob hA9 7 rfl
  have q8 : y9.cell? ⟨W.heap.size, 8, none⟩ = some (.int .i64 kind) := cob hA9 8 rfl
  have q9 : y9.cell? ⟨W.heap.size, 9, none⟩ = some (.string row) := cob hA9 9 rfl
  have q10 : y9.cell? ⟨W.heap.size, 10, none⟩ = some (.string col) := cob hA9 10 rfl
  have q11 : y9.cell? ⟨W.heap.size, 11, none⟩ = some (.string tt) := cob hA9 11 rfl
  have q12 : y9.cell? ⟨W.heap.size, 12, none⟩ = some (.int .i64 at_) := cob hA9 12 rfl
  have q13 : y9.cell? ⟨W.heap.size, 13, none⟩ = some (.string value) := cob hA9 13 rfl
  have q14 : y9.cell? ⟨W.heap.size, 14, none⟩ = some (.string expect) := cob hA9 14 rfl
  have q15 : y9.cell? ⟨W.heap.size, 15, none⟩ = some (.bool has) := cob hA9 15 rfl
  have HC := Lib.hid (HDx.out y9 hBW)
  have HBW := Lib.hid hBW
  clear hA hA9 hb1 hBW b0 b1 b2 b3 b4 b5 b6 b7 b8 b9 hrr z0 z1 z2 z3 z4 z5 z6 z7 z8 z9 m0 m1 m2 m3 m4 m5 m6 m7 m8 m9 g1 g2 g3 g4 g5 g6 g7 g8 g9
  have el := HM9.out.look (P := Tryz.prog) (t := 81) (key := .int .i64 8) Tryz.underlying81 Tryz.underlying3 rfl true (v := .func (.func 38) #[.pointer (some ⟨C, 0, none⟩)] #[]) (by simp)
  simp only [if_true] at el
  go_wp2_with (first | (go_at_call 38; refine HC.out.mono ?_; rintro e w3 ⟨rfl, hc3, hf3, hQ3⟩))
  go_end0
  exact ⟨rfl, y9, w3, HBW.out, hQ3, by simp⟩
end Go.Proofs.YtoigogjmhkpdlaaGreat
