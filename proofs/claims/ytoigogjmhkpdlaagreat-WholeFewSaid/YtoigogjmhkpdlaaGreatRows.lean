/-
  No cell of these rows narrows 'for every input' (looked for: loops, veiled, ifaces, maps, wideKeys, modest, calm, conditions, laid).
  DERIVED. THE GIVEN ROWS OF THIS SEAT. 3 by the template 'for every input the law returns true; each argument reads behind the call as it read before'; 0 by the template 'total and deterministic' (their statements: YtoigogjmhkpdlaaGreatTotals.lean).
  GIVEN WITH THE SEED: the statements are not yours to turn. If you find one false, say at which input.
  Laid BY PROGRAM, IN A SANDBOX (cutbox-rows.mjs): the forced cells as the released guide's own fill.sh prints them over the translation 2adb269da648afe5… (all of the seat's roots in one cut). By AI agents, Wed Nov 11 2026. No macro, syntax, notation, axiom, sorry.
-/
import Derived.Test.YtoigogjmhkpdlaaGreatChecked
import GoSem.Claim
import GoSem.ClaimJoined
import GoSem.ClaimMapViews
import Derived.JoinedTies
import Derived.KernelRfl
namespace Go.Proofs.YtoigogjmhkpdlaaGreat
/- THE CELL 'sum', in the pinned program and in every row, IS THE sha256 OF THE DUMP (.gsa) THAT YtoigogjmhkpdlaaGreatProg.lean LOADS. Nothing in Lean hashes anything: it is a label: what it is worth is what the hold of that sum in a sandbox is worth. -/
noncomputable def Tryz.pinned : Pinned := { name := "ytoigogjmhkpdlaagreat", sum := "2adb269da648afe58f905980a02f8c541aa8fcb61e1df721261a6e4dd8c05610", checked := Tryz.checked }
namespace Rows
def none {H : Type} : Left H := { results := [], args := [] }

/-- 'shardlogtop.WholeFew': WHATEVER THE INPUT: true; the input reads as it did. -/
def wholeFewSpec : ChangeSpec := { name := "wholeFew", fn := fun _ => fun
  | [d1, d2, d3, d4, d5] => { results := [.lit (.bool true)], args := [d1, d2, d3, d4, d5] }
  | _ => none }
def wholeFewRow : OpenClaim := { program := "ytoigogjmhkpdlaagreat", sum := "2adb269da648afe58f905980a02f8c541aa8fcb61e1df721261a6e4dd8c05610", func := "shardlog/shardlogtop.WholeFew", spec := "wholeFew", inPlace := ["slices.overlaps[shardlog/api.Cell]"], unfollowed := true, recurses := true, apart := false }
def WholeFewSaid : Prop := wholeFewRow.holds Tryz.pinned (OpenSpec.ofChange wholeFewSpec)

/-- ITS FALSE NEIGHBOUR: 'it returns false'. Refute it at one input. -/
def wholeFewWrong : ChangeSpec := { name := "wholeFew", fn := fun _ => fun
  | [d1, d2, d3, d4, d5] => { results := [.lit (.bool false)], args := [d1, d2, d3, d4, d5] }
  | _ => none }
def WholeFewWrongFalsely : Prop := wholeFewRow.holds Tryz.pinned (OpenSpec.ofChange wholeFewWrong)

/-- 'shardlogtop.WholeRepeat': WHATEVER THE INPUT: true; the input reads as it did. -/
def wholeRepeatSpec : ChangeSpec := { name := "wholeRepeat", fn := fun _ => fun
  | [d1, d2, d3, d4] => { results := [.lit (.bool true)], args := [d1, d2, d3, d4] }
  | _ => none }
def wholeRepeatRow : OpenClaim := { program := "ytoigogjmhkpdlaagreat", sum := "2adb269da648afe58f905980a02f8c541aa8fcb61e1df721261a6e4dd8c05610", func := "shardlog/shardlogtop.WholeRepeat", spec := "wholeRepeat", inPlace := ["slices.overlaps[shardlog/api.Cell]"], unfollowed := true, recurses := true, apart := false }
def WholeRepeatSaid : Prop := wholeRepeatRow.holds Tryz.pinned (OpenSpec.ofChange wholeRepeatSpec)

/-- ITS FALSE NEIGHBOUR: 'it returns false'. Refute it at one input. -/
def wholeRepeatWrong : ChangeSpec := { name := "wholeRepeat", fn := fun _ => fun
  | [d1, d2, d3, d4] => { results := [.lit (.bool false)], args := [d1, d2, d3, d4] }
  | _ => none }
def WholeRepeatWrongFalsely : Prop := wholeRepeatRow.holds Tryz.pinned (OpenSpec.ofChange wholeRepeatWrong)

/-- 'shardlogtop.WholeLogs': WHATEVER THE INPUT: true; the input reads as it did. -/
def wholeLogsSpec : ChangeSpec := { name := "wholeLogs", fn := fun _ => fun
  | [d1, d2, d3] => { results := [.lit (.bool true)], args := [d1, d2, d3] }
  | _ => none }
def wholeLogsRow : OpenClaim := { program := "ytoigogjmhkpdlaagreat", sum := "2adb269da648afe58f905980a02f8c541aa8fcb61e1df721261a6e4dd8c05610", func := "shardlog/shardlogtop.WholeLogs", spec := "wholeLogs", inPlace := ["slices.overlaps[shardlog/api.Cell]"], unfollowed := true, recurses := true, apart := false }
def WholeLogsSaid : Prop := wholeLogsRow.holds Tryz.pinned (OpenSpec.ofChange wholeLogsSpec)

/-- ITS FALSE NEIGHBOUR: 'it returns false'. Refute it at one input. -/
def wholeLogsWrong : ChangeSpec := { name := "wholeLogs", fn := fun _ => fun
  | [d1, d2, d3] => { results := [.lit (.bool false)], args := [d1, d2, d3] }
  | _ => none }
def WholeLogsWrongFalsely : Prop := wholeLogsRow.holds Tryz.pinned (OpenSpec.ofChange wholeLogsWrong)

/- THE SECOND FORM. 'bulk': how many values and letters a reading holds, each counted each time it is reached (what is shared counts as often as it is met; a slice's spare places count too). A statement '..UptoSaid' is the law's where the arguments, and the package variables that the reading takes, are together of bulk at most 1048576: NARROWER than '..Said'. Prove '..Said' where nothing that the law and all that it calls make is longer than what came in: it says more and counts as full. Else prove '..UptoSaid'. A law counts once. -/
mutual
def uptoBulk {H : Type} : DataW H → Nat
  | .lit (.string bytes) => bytes.length + 1
  | .lit _ => 1
  | .nil => 1
  | .ptr d => uptoBulk d + 1
  | .slice elems spare => uptoBulkAll elems + uptoBulkAll spare + 1
  | .agg parts => uptoBulkAll parts + 1
  | .iface _ d => uptoBulk d + 1
  | .map entries => uptoBulkEntries entries + 1
  | .held _ => 1
def uptoBulkAll {H : Type} : List (DataW H) → Nat
  | [] => 0
  | d :: r => uptoBulk d + uptoBulkAll r
def uptoBulkEntries {H : Type} : List (Lit × DataW H) → Nat
  | [] => 0
  | x :: r => uptoBulkEntry x + uptoBulkEntries r
def uptoBulkEntry {H : Type} : Lit × DataW H → Nat
  | (.string bytes, d) => bytes.length + uptoBulk d + 1
  | (_, d) => uptoBulk d + 1
 end
def uptoSmall : (H : Type) → List (DataW H) → Bool := fun _ ds => decide (uptoBulkAll ds ≤ 1048576)
def OpenSpec.upto (s : _root_.Go.ChangeSpec) : _root_.Go.OpenSpec := { _root_.Go.OpenSpec.ofChange s with cond := some uptoSmall }

/-- 'shardlogtop.WholeFew', WHERE WHAT IT READS IS OF BULK AT MOST 1048576: true; the input reads as it did. -/
def wholeFewUptoRow : OpenClaim := { program := "ytoigogjmhkpdlaagreat", sum := "2adb269da648afe58f905980a02f8c541aa8fcb61e1df721261a6e4dd8c05610", func := "shardlog/shardlogtop.WholeFew", spec := "wholeFew", inPlace := ["slices.overlaps[shardlog/api.Cell]"], unfollowed := true, recurses := true, apart := false, narrowed := true }
def WholeFewUptoSaid : Prop := wholeFewUptoRow.holds Tryz.pinned (OpenSpec.upto wholeFewSpec)

/-- 'shardlogtop.WholeRepeat', WHERE WHAT IT READS IS OF BULK AT MOST 1048576: true; the input reads as it did. -/
def wholeRepeatUptoRow : OpenClaim := { program := "ytoigogjmhkpdlaagreat", sum := "2adb269da648afe58f905980a02f8c541aa8fcb61e1df721261a6e4dd8c05610", func := "shardlog/shardlogtop.WholeRepeat", spec := "wholeRepeat", inPlace := ["slices.overlaps[shardlog/api.Cell]"], unfollowed := true, recurses := true, apart := false, narrowed := true }
def WholeRepeatUptoSaid : Prop := wholeRepeatUptoRow.holds Tryz.pinned (OpenSpec.upto wholeRepeatSpec)

/-- 'shardlogtop.WholeLogs', WHERE WHAT IT READS IS OF BULK AT MOST 1048576: true; the input reads as it did. -/
def wholeLogsUptoRow : OpenClaim := { program := "ytoigogjmhkpdlaagreat", sum := "2adb269da648afe58f905980a02f8c541aa8fcb61e1df721261a6e4dd8c05610", func := "shardlog/shardlogtop.WholeLogs", spec := "wholeLogs", inPlace := ["slices.overlaps[shardlog/api.Cell]"], unfollowed := true, recurses := true, apart := false, narrowed := true }
def WholeLogsUptoSaid : Prop := wholeLogsUptoRow.holds Tryz.pinned (OpenSpec.upto wholeLogsSpec)

end Rows
end Go.Proofs.YtoigogjmhkpdlaaGreat
