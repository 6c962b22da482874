/- Two rows of bytes held against each other: shardlogref01.Same. -/
import Derived.Test.YtoigogjmhkpdlabProg
import Derived.Test.YtoigogjmhkpdlabWords
import Derived.WalkSpells
import Derived.WalkLawsBesides
import Derived.Outline
import Derived.Lib.ConvBytes
namespace Go.Proofs.Ytoigogjmhkpdlab
open Go.RowKit

theorem Try.infoB : (Try.prog.info? 5).map (fun i => (i.zero, i.size, i.bytes)) = some (some (.int .u8 0), 1, 1) := by kernel_rfl

/-! Two rows of bytes held against each other: as strings. -/
def strN (l : List Nat) : ByteArray := strOfNums (l.map fun (n : Nat) => (n : Int))
theorem run_conv_bytes {P : Program} (w : World) (src dst e : TypeId) (hs : P.underlying src = some (.slice e)) (he : P.underlying e = some (.int .u8)) (hd : P.underlying dst = some .string) (A : Option Addr) (l : List Nat) (c : Nat) (hr : RdB w A l) :
    (convert src dst (.slice A l.length c)).run P w = .ok (.string (strN l)) w := by
  rw [run_convert_bytes_string w src dst e _ _ c hs he hd]
  rcases A with _ | ad
  · have hl : l = [] := by
      rcases l with _ | ⟨b, l⟩
      · rfl
      · obtain ⟨ad, h, _⟩ := hr (by simp)
        cases h
    subst hl
    simp [Conv.bytesToString]
    rfl
  · have hl : (loadCells ad l.length).run P w = .ok ((l.map fun (n : Nat) => (n : Int)).map (Value.int .u8)).toArray w := by
      have := run_loadCells_list (P := P) w ad ((l.map fun (n : Nat) => (n : Int)).map (Value.int .u8)) (fun j v hj => by
        have hjl : j < l.length := by
          rcases Nat.lt_or_ge j l.length with h | h
          · exact h
          · rw [List.getElem?_eq_none (by simpa using h)] at hj; cases hj
        obtain ⟨ad', h, hc⟩ := hr (by omega)
        injection h with h
        subst h
        rw [hc j hjl]
        simpa [hjl] using hj)
      simpa using this
    rw [run_bytesToString w _ _ c _ hl, foldl_push_bytes]
    simp [strN, strOfNums, ByteArray.empty, ByteArray.emptyWithCapacity]
    rfl

/-- shardlogref01.Same, of one list twice. -/
theorem same_any (A B : Option Addr) (l m : List Nat) (c d : Nat) (hlm : l = m) (W : World) (hA : RdB W A l) (hB : RdB W B m) :
    Calls Try.prog 14 #[.slice A l.length c, .slice B m.length d] W fun e W' => e = .returned (.bool true) ∧ W = W' := by
  subst hlm
  have h1 := run_conv_bytes (P := Try.prog) W 31 9 5 Try.underlying31 Try.underlying5 Try.underlying9 A l c hA
  have h2 := run_conv_bytes (P := Try.prog) W 31 9 5 Try.underlying31 Try.underlying5 Try.underlying9 B l d hB
  clear hA hB
  go_enter Try.func14, Try.ntmps14
  go_wp2
  go_ret
  exact ⟨rfl, rfl⟩
end Go.Proofs.Ytoigogjmhkpdlab
