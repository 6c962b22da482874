/- A part of the proof of WholeFew: the texts FewRow. -/
import Derived.Test.YtoigogjmhkpdlaaGreatJ19
import Derived.ChangeArms
import Derived.ChangeSame
set_option maxRecDepth 100000
namespace Go.Proofs.YtoigogjmhkpdlaaGreat
open Go.RowKit Go.ChangeShapes
theorem open_cm {H : Type} {enc : TypeId × Value → H} {w : World} {base : Nat} {spare : Nat → Bool} {held : Bool} {fuel : Nat} {cs : List Value} {x : DataW H × List MemPlace}
    (h : DataW.trod enc Tryz.prog w base spare held fuel 23 cs = some x) : ∃ c : Cm, cs = cmcells c := by
  obtain ⟨xs, n, _, _, hl, hlen, hf⟩ := DataW.trod_struct Tryz.underlying23 h
  have hx10 : xs.length = 10 := hlen
  have hl10 : cs.length = 10 := hl.trans (by kernel_rfl)
  have ci : Tryz.prog.cellsOf 3 = 1 := by kernel_rfl
  have cst : Tryz.prog.cellsOf 9 = 1 := by kernel_rfl
  have cb : Tryz.prog.cellsOf 4 = 1 := by kernel_rfl
  match cs, hl10 with
  | [c0, c1, c2, c3, c4, c5, c6, c7, c8, c9], _ =>
    obtain ⟨y0, g0⟩ : ∃ y, DataW.trod enc Tryz.prog w base spare held n 3 (([c0, c1, c2, c3, c4, c5, c6, c7, c8, c9].drop 0).take (Tryz.prog.cellsOf 3)) = some y := ⟨_, (hf 0 _ rfl).trans (List.getElem?_eq_getElem (by omega))⟩
    rw [ci] at g0
    have g0 : DataW.trod enc Tryz.prog w base spare held n 3 [c0] = some y0 := g0
    obtain ⟨y1, g1⟩ : ∃ y, DataW.trod enc Tryz.prog w base spare held n 3 (([c0, c1, c2, c3, c4, c5, c6, c7, c8, c9].drop 1).take (Tryz.prog.cellsOf 3)) = some y := ⟨_, (hf 1 _ rfl).trans (List.getElem?_eq_getElem (by omega))⟩
    rw [ci] at g1
    have g1 : DataW.trod enc Tryz.prog w base spare held n 3 [c1] = some y1 := g1
    obtain ⟨y2, g2⟩ : ∃ y, DataW.trod enc Tryz.prog w base spare held n 3 (([c0, c1, c2, c3, c4, c5, c6, c7, c8, c9].drop 2).take (Tryz.prog.cellsOf 3)) = some y := ⟨_, (hf 2 _ rfl).trans (List.getElem?_eq_getElem (by omega))⟩
    rw [ci] at g2
    have g2 : DataW.trod enc Tryz.prog w base spare held n 3 [c2] = some y2 := g2
    obtain ⟨y3, g3⟩ : ∃ y, DataW.trod enc Tryz.prog w base spare held n 9 (([c0, c1, c2, c3, c4, c5, c6, c7, c8, c9].drop 3).take (Tryz.prog.cellsOf 9)) = some y := ⟨_, (hf 3 _ rfl).trans (List.getElem?_eq_getElem (by omega))⟩
    rw [cst] at g3
    have g3 : DataW.trod enc Tryz.prog w base spare held n 9 [c3] = some y3 := g3
    obtain ⟨y4, g4⟩ : ∃ y, DataW.trod enc Tryz.prog w base spare held n 9 (([c0, c1, c2, c3, c4, c5, c6, c7, c8, c9].drop 4).take (Tryz.prog.cellsOf 9)) = some y := ⟨_, (hf 4 _ rfl).trans (List.getElem?_eq_getElem (by omega))⟩
    rw [cst] at g4
    have g4 : DataW.trod enc Tryz.prog w base spare held n 9 [c4] = some y4 := g4
    obtain ⟨y5, g5⟩ : ∃ y, DataW.trod enc Tryz.prog w base spare held n 9 (([c0, c1, c2, c3, c4, c5, c6, c7, c8, c9].drop 5).take (Tryz.prog.cellsOf 9)) = some y := ⟨_, (hf 5 _ rfl).trans (List.getElem?_eq_getElem (by omega))⟩
    rw [cst] at g5
    have g5 : DataW.trod enc Tryz.prog w base spare held n 9 [c5] = some y5 := g5
    obtain ⟨y6, g6⟩ : ∃ y, DataW.trod enc Tryz.prog w base spare held n 3 (([c0, c1, c2, c3, c4, c5, c6, c7, c8, c9].drop 6).take (Tryz.prog.cellsOf 3)) = some y := ⟨_, (hf 6 _ rfl).trans (List.getElem?_eq_getElem (by omega))⟩
    rw [ci] at g6
    have g6 : DataW.trod enc Tryz.prog w base spare held n 3 [c6] = some y6 := g6
    obtain ⟨y7, g7⟩ : ∃ y, DataW.trod enc Tryz.prog w base spare held n 9 (([c0, c1, c2, c3, c4, c5, c6, c7, c8, c9].drop 7).take (Tryz.prog.cellsOf 9)) = some y := ⟨_, (hf 7 _ rfl).trans (List.getElem?_eq_getElem (by omega))⟩
    rw [cst] at g7
    have g7 : DataW.trod enc Tryz.prog w base spare held n 9 [c7] = some y7 := g7
    obtain ⟨y8, g8⟩ : ∃ y, DataW.trod enc Tryz.prog w base spare held n 9 (([c0, c1, c2, c3, c4, c5, c6, c7, c8, c9].drop 8).take (Tryz.prog.cellsOf 9)) = some y := ⟨_, (hf 8 _ rfl).trans (List.getElem?_eq_getElem (by omega))⟩
    rw [cst] at g8
    have g8 : DataW.trod enc Tryz.prog w base spare held n 9 [c8] = some y8 := g8
    obtain ⟨y9, g9⟩ : ∃ y, DataW.trod enc Tryz.prog w base spare held n 4 (([c0, c1, c2, c3, c4, c5, c6, c7, c8, c9].drop 9).take (Tryz.prog.cellsOf 4)) = some y := ⟨_, (hf 9 _ rfl).trans (List.getElem?_eq_getElem (by omega))⟩
    rw [cb] at g9
    have g9 : DataW.trod enc Tryz.prog w base spare held n 4 [c9] = some y9 := g9
    obtain ⟨n0, e0, _⟩ := DataW.trod_int Tryz.underlying3 g0
    obtain ⟨n1, e1, _⟩ := DataW.trod_int Tryz.underlying3 g1
    obtain ⟨n2, e2, _⟩ := DataW.trod_int Tryz.underlying3 g2
    obtain ⟨n3, e3, _⟩ := DataW.trod_string Tryz.underlying9 g3
    obtain ⟨n4, e4, _⟩ := DataW.trod_string Tryz.underlying9 g4
    obtain ⟨n5, e5, _⟩ := DataW.trod_string Tryz.underlying9 g5
    obtain ⟨n6, e6, _⟩ := DataW.trod_int Tryz.underlying3 g6
    obtain ⟨n7, e7, _⟩ := DataW.trod_string Tryz.underlying9 g7
    obtain ⟨n8, e8, _⟩ := DataW.trod_string Tryz.underlying9 g8
    obtain ⟨n9, e9, _⟩ := DataW.trod_bool Tryz.underlying4 g9
    injection e0 with e0
    injection e1 with e1
    injection e2 with e2
    injection e3 with e3
    injection e4 with e4
    injection e5 with e5
    injection e6 with e6
    injection e7 with e7
    injection e8 with e8
    injection e9 with e9
    exact ⟨⟨n0, n1, n2, n3, n4, n5, n6, n7, n8, n9⟩, by rw [e0, e1, e2, e3, e4, e5, e6, e7, e8, e9]; rfl⟩
end Go.Proofs.YtoigogjmhkpdlaaGreat
