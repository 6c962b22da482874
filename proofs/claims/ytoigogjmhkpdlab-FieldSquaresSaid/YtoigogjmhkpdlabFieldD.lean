/- Walks of the program's field: rows; two rows of bytes held against each other. -/
import Derived.Test.YtoigogjmhkpdlabFieldB
import Derived.Test.YtoigogjmhkpdlabSame
import Derived.Deep.DeepMust
namespace Go.Proofs.Ytoigogjmhkpdlab
open Go.RowKit
open Gf

/-- What a new row of bytes is. -/
def NewRow (W : World) (l : List Nat) (W' : World) (e : Ending) : Prop :=
  ∃ (L : List Nat) (A : Option Addr) (c : Nat), Hid (L = l) ∧ e = .returned (.slice A L.length c) ∧ OwnB 5 W' W.heap.size A c L ∧ Below W.heap.size W W'

theorem row_any (g c : Nat) (hc : c < 256) (A : Option Addr) (l : List Nat) (cap : Nat) (hl : Bytes l) (hm : l.length ≤ 140737488351232) (W : World) (hF : FieldAt W g) (hr : RdB W A l) :
    Calls Try.prog 23 #[.pointer (some ⟨g, 0, none⟩), .int .u8 (c : Int), .slice A l.length cap] W fun e W' => NewRow W (l.map (mulN c)) W' e := by
  obtain ⟨i0, hi, hz0, hz1, hz2⟩ := info_parts Try.infoB
  have HF := Lib.hid hF
  have HR := Lib.hid hr
  clear hF hr
  have hmf : ∀ (fn : Fn) (first cap : Array Value) (w : World), (Instr.makeFunc fn first cap).run Try.prog w = .ok (.func fn first cap) w := fun _ _ _ _ => rfl
  go_enter Try.func23, Try.ntmps23
  go_wp2
  go_loopw [8, 10, 15] (fun o _ i wr => ∃ (k : Nat) (X : List Nat) (B : Option Addr) (d : Nat), k ≤ l.length ∧ i = .int .i64 k ∧ o = .slice B X.length d ∧ Hid (X = (l.take k).map (mulN c)) ∧ OwnB 5 wr W.heap.size B d X ∧ Below W.heap.size W wr) (fun _ _ i _ => l.length - (intOf i).toNat)
  case atStart => exact ⟨0, [], none, 0, Nat.zero_le _, rfl, rfl, Lib.hid rfl, OwnB.nil _ _ _, Below.refl _ _⟩
  case round =>
    obtain ⟨k, X, B, d, hk, rfl, rfl, hX, ho, hB⟩ := hrel
    have hs := hB.size
    have hXl : X.length ≤ 140737488351232 := by rw [hX.out]; simp; omega
    by_cases hk8 : k < l.length
    · obtain ⟨ad, rfl, hcell⟩ := (HR.out.below hB (Nat.le_refl _)) (by omega)
      have hck := hcell k hk8
      have hb : l[k] < 256 := hl _ (List.getElem_mem _)
      have HFr := Lib.hid (HF.out.below hB)
      clear hcell
      go_wp2_with (first
        | (go_at_call 10; refine (mul_any g c _ hc hb _ HFr.out).mono ?_; rintro e w1 ⟨rfl, n1, rfl⟩)
        | (at_builtin; refine wpList_append_bytes _ rfl (.tmp 19) (.tmp 24) _ rfl W.heap.size 5 i0 Try.underlying31 hi hz0 hz1 hz2 _ _ X rfl ((ho.alloc _).drewN _) _ _ [mulN c l[k]] rfl ((rd_new _ _ _ _ _ _ rfl rfl).drewN _) (by simp; omega) (by simp; omega) ?_; intro L B2 d2 w2 hL ho2 hb2; have hB2 := (hB.alloc hs (.cells #[.int .u8 ((mulN c l[k] : Nat) : Int)] 5)).trans (below_undrewN hb2)))
      go_roundw
      case rel => exact ⟨k + 1, L, B2, d2, by omega, by go_num, rfl, Lib.hid (by rw [hL.out, hX.out, List.take_succ_eq_append_getElem hk8, List.map_append]; rfl), ho2, hB2⟩
      case measure => simp [intOf]; omega
    · have HX := Lib.hid (show X = l.map (mulN c) by rw [hX.out, List.take_of_length_le (by omega)])
      go_wp2
      go_ret
      exact ⟨X, B, d, HX, rfl, ho, hB⟩
end Go.Proofs.Ytoigogjmhkpdlab
