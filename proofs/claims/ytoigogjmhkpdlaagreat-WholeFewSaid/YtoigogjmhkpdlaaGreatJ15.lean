/- A part of the proof of WholeFew: the texts Chunk. -/
import Derived.Test.YtoigogjmhkpdlaaGreatJ14
import Derived.RangeFuncFrom
import Derived.RegionIn
import Derived.Shelf.RegionOpen
import Derived.TacticsIn
set_option maxHeartbeats 1600000
set_option maxRecDepth 100000
namespace Go.Proofs.YtoigogjmhkpdlaaGreat
open Go.RowKit
open Gf
theorem chunk_any (A : Option Addr) (n c m : Nat) (hm : 1 ≤ m) (W : World) :
    Calls Tryz.prog 247 #[.slice A n c, .int .i64 (m : Int)] W fun e W' => e = .returned (.func (.func 278) #[] #[.pointer (some ⟨W.heap.size, 0, none⟩), .pointer (some ⟨W.heap.size + 1, 0, none⟩)]) ∧ W' = (W.alloc (.cells #[.slice A n c] 67)).alloc (.cells #[.int .i64 (m : Int)] 3) := by
  have hd : decide ((m : Int) < 1) = false := by simp; omega
  go_enter Tryz.func247, Tryz.ntmps247
  go_wp2
  go_ret
  exact ⟨rfl, rfl⟩
def piece (ad : Addr) (m j : Nat) : Value := .slice (some (ad.add (j * m))) m m
def KeptBoxes (s n : Nat) (A B : World) : Prop := B.heap[s]? = A.heap[s]? ∧ B.heap[n]? = A.heap[n]?
theorem chunk_stops (F : Fence) (r : Nat) (hF : F.fn 278) (hro : F.round = none) (hr : 1 ≤ r) (ad : Addr) (k m c : Nat) (hk : 1 ≤ k) (hm : 1 ≤ m) (hkm : k * m ≤ 100000) (hc : k * m ≤ c) (hcm : c ≤ 9223372036854775807) (bs bn : Nat) (w : World) (hbl : bs < w.heap.size ∧ bn < w.heap.size)
    (hs : w.heap[bs]? = some (.cells #[.slice (some ad) (k * m) c] 67)) (hn : w.heap[bn]? = some (.cells #[.int .i64 (m : Int)] 3)) :
    SeqStopsK F r Tryz.prog 278 #[.pointer (some ⟨bs, 0, none⟩), .pointer (some ⟨bn, 0, none⟩)] (fun j : Fin k => #[piece ad m j.val]) (KeptBoxes bs bn) (fun xs => xs.length = k) (fun _ => True) k w := fun l J Jx W hW hJ _ hY h0 => by
  refine callsIn_of_wp Tryz.func278 rfl hF ?_ hro
  simp only [Tryz.ntmps278, List.size_toArray, List.length_cons, List.length_nil, Nat.reduceAdd, Nat.reduceSub, Array.replicate_succ, Array.replicate_zero, List.push_toArray, List.append_toArray, List.nil_append, List.cons_append]
  gi_wp2
  gi_loopw [4] (fun i wr => ∃ (j : Nat) (pre : List (Fin k)), j ≤ k ∧ i = .int .i64 ((j * m : Nat) : Int) ∧ pre.length = j ∧ J pre wr ∧ wr.heap[bs]? = W.heap[bs]? ∧ wr.heap[bn]? = W.heap[bn]?) (fun i _ => k * m + 1 - (intOf i).toNat)
  case atStart => exact ⟨0, [], Nat.zero_le _, by simp, rfl, h0, rfl, rfl⟩
  case round =>
    obtain ⟨j, pre, hj, rfl, hpj, hJj, hbs, hbn⟩ := hrel
    have Hpj := Lib.hid hpj
    clear hpj
    have hs2 := hbs.trans ((hW.block bs hbl.1).trans hs)
    have hn2 := hbn.trans ((hW.block bn hbl.2).trans hn)
    have c1 : wr.cell? ⟨bs, 0, none⟩ = some (.slice (some ad) (k * m) c) := cob hs2 0 rfl
    have c2 : wr.cell? ⟨bn, 0, none⟩ = some (.int .i64 (m : Int)) := cob hn2 0 rfl
    have hjm : j * m ≤ k * m := Nat.mul_le_mul_right _ hj
    by_cases hjk : j < k
    · have hj1 : (j + 1) * m ≤ k * m := Nat.mul_le_mul_right _ hjk
      rw [Nat.add_mul, Nat.one_mul] at hj1
      have hj2 : (j + 1) * m = j * m + m := by rw [Nat.add_mul, Nat.one_mul]
      have hJd : ∀ nd, J pre (wr.drewN nd) := fun nd => hJ _ _ _ none hJj ⟨rfl, rfl, rfl, Nat.le_refl _, fun _ _ _ => rfl⟩ (fun r e => by cases e)
      have hpc : piece ad m j = .slice (some (ad.add (j * m))) m m := rfl
      obtain ⟨a, ha⟩ : ∃ a, a = j * m := ⟨_, rfl⟩
      obtain ⟨b, hb⟩ : ∃ b, b = k * m := ⟨_, rfl⟩
      rw [← ha] at hj1 hj2 hjm hpc ⊢
      rw [← hb] at hj1 hjm c1 hkm hc ⊢
      have Ha := Lib.hid ha
      have Hj2 := Lib.hid hj2
      have Hb := Lib.hid hb
      have hl1 : decide ((a : Int) < (b : Int)) = true := by simp; omega
      have hl2 : decide (a < b) = true := by simp; omega
      have hb1 : (a : Int) ≤ (b : Int) := by omega
      have hb2 : (b : Int) ≤ (c : Int) := by omega
      have hac : a < c := by omega
      have hmn : m ≤ b - a := by omega
      have hmin : min (m : Int) (((b - a : Nat)) : Int) = (m : Int) := by omega
      have hca : ¬ c = a := by omega
      have ham1 : (a : Int) + (m : Int) ≤ (c : Int) := by omega
      have ham2 : a + m ≤ c := by omega
      clear ha hj2 hb
      gi_wp2
      gi_region
      all_goals
        obtain ⟨f1, t1, a1, b1, hy1, hR1⟩ := hY pre ⟨j, hjk⟩ wr.drew (hJd 1) (by rw [Hpj.out]; exact hjk)
        simp only [hpc] at hy1
        gi_wp2
        refine hR1.mono ?_
        rintro e W1 (⟨rfl, hJ1, hK1⟩ | ⟨rfl, hx1⟩)
        · have hn3 := hK1.2.trans hn2
          have hs3 := hK1.1.trans hs2
          have c3 : W1.cell? ⟨bn, 0, none⟩ = some (.int .i64 (m : Int)) := cob hn3 0 rfl
          have hJ2 : J (pre ++ [⟨j, hjk⟩]) W1 := hJ1
          have hbs3 := hs3.trans (hs2.symm.trans hbs)
          have hbn3 := hn3.trans (hn2.symm.trans hbn)
          gi_wp2
          go_roundw
          case rel => exact ⟨j + 1, pre ++ [⟨j, hjk⟩], by omega, by rw [Hj2.out]; go_num, by rw [List.length_append, Hpj.out]; rfl, hJ2, hbs3, hbn3⟩
          case measure => simp [intOf]; omega
        · gi_wp2
          refine bodyPost_ret (results_none rfl _ _ _) rfl ?_
          exact ⟨⟨_, rfl⟩, .inr ⟨_, trivial, hx1⟩⟩
    · obtain rfl : j = k := by omega
      have hd : decide (((j * m : Nat) : Int) < ((j * m : Nat) : Int)) = false := by simp
      gi_wp2
      go_end0
      exact ⟨⟨_, rfl⟩, .inl ⟨_, Hpj.out, hJj⟩⟩
end Go.Proofs.YtoigogjmhkpdlaaGreat
