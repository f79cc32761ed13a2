/-
  No cell of these rows narrows 'for every input' (looked for: loops, veiled, ifaces, maps, wideKeys, modest, calm, conditions, laid).
  DERIVED. THE GIVEN ROWS OF THIS SEAT. 6 by the template 'for every input the law returns true; each argument reads behind the call as it read before'; 0 by the template 'total and deterministic' (their statements: YtibjkmjccelcaaaTotals.lean).
  GIVEN WITH THE SEED: the statements are not yours to turn. If you find one false, say at which input.
  Laid BY PROGRAM, IN A SANDBOX (cutbox-rows.mjs): the forced cells as the released guide's own fill.sh prints them over the translation adfdcd9959a812cd… (all of the seat's roots in one cut). By AI agents, Wed Nov 11 2026. No macro, syntax, notation, axiom, sorry.
-/
import Derived.Test.YtibjkmjccelcaaaChecked
import GoSem.Claim
import GoSem.ClaimJoined
import GoSem.ClaimMapViews
import Derived.JoinedTies
import Derived.KernelRfl
namespace Go.Proofs.Ytibjkmjccelcaaa
/- THE CELL 'sum', in the pinned program and in every row, IS THE sha256 OF THE DUMP (.gsa) THAT YtibjkmjccelcaaaProg.lean LOADS. Nothing in Lean hashes anything: it is a label: what it is worth is what the hold of that sum in a sandbox is worth. -/
noncomputable def Try.pinned : Pinned := { name := "ytibjkmjccelcaaa", sum := "adfdcd9959a812cd7c395d177c4cc2add54d4dca47dc0f9211b0895b9ca7553d", checked := Try.checked }
namespace Rows
def none {H : Type} : Left H := { results := [], args := [] }

/-- 'gridworklaw09.LowerTurned': WHATEVER THE INPUT: true; the input reads as it did. -/
def lowerTurnedSpec : ChangeSpec := { name := "lowerTurned", fn := fun _ => fun
  | [d1, d2, d3] => { results := [.lit (.bool true)], args := [d1, d2, d3] }
  | _ => none }
def lowerTurnedRow : OpenClaim := { program := "ytibjkmjccelcaaa", sum := "adfdcd9959a812cd7c395d177c4cc2add54d4dca47dc0f9211b0895b9ca7553d", func := "gridwork/gridworklaw09.LowerTurned", spec := "lowerTurned", inPlace := ["math.Float64frombits", "math.Float64bits"], unfollowed := true, recurses := true, apart := false }
def LowerTurnedSaid : Prop := lowerTurnedRow.holds Try.pinned (OpenSpec.ofChange lowerTurnedSpec)

/-- ITS FALSE NEIGHBOUR: 'it returns false'. Refute it at one input. -/
def lowerTurnedWrong : ChangeSpec := { name := "lowerTurned", fn := fun _ => fun
  | [d1, d2, d3] => { results := [.lit (.bool false)], args := [d1, d2, d3] }
  | _ => none }
def LowerTurnedWrongFalsely : Prop := lowerTurnedRow.holds Try.pinned (OpenSpec.ofChange lowerTurnedWrong)

/-- 'gridworklaw09.LowerMirror': WHATEVER THE INPUT: true; the input reads as it did. -/
def lowerMirrorSpec : ChangeSpec := { name := "lowerMirror", fn := fun _ => fun
  | [d1, d2] => { results := [.lit (.bool true)], args := [d1, d2] }
  | _ => none }
def lowerMirrorRow : OpenClaim := { program := "ytibjkmjccelcaaa", sum := "adfdcd9959a812cd7c395d177c4cc2add54d4dca47dc0f9211b0895b9ca7553d", func := "gridwork/gridworklaw09.LowerMirror", spec := "lowerMirror", inPlace := ["math.Float64frombits", "math.Float64bits"], unfollowed := true, recurses := true, apart := false }
def LowerMirrorSaid : Prop := lowerMirrorRow.holds Try.pinned (OpenSpec.ofChange lowerMirrorSpec)

/-- ITS FALSE NEIGHBOUR: 'it returns false'. Refute it at one input. -/
def lowerMirrorWrong : ChangeSpec := { name := "lowerMirror", fn := fun _ => fun
  | [d1, d2] => { results := [.lit (.bool false)], args := [d1, d2] }
  | _ => none }
def LowerMirrorWrongFalsely : Prop := lowerMirrorRow.holds Try.pinned (OpenSpec.ofChange lowerMirrorWrong)

/-- 'gridworklaw09.LowerOf': WHATEVER THE INPUT: true; the input reads as it did. -/
def lowerOfSpec : ChangeSpec := { name := "lowerOf", fn := fun _ => fun
  | [d1, d2] => { results := [.lit (.bool true)], args := [d1, d2] }
  | _ => none }
def lowerOfRow : OpenClaim := { program := "ytibjkmjccelcaaa", sum := "adfdcd9959a812cd7c395d177c4cc2add54d4dca47dc0f9211b0895b9ca7553d", func := "gridwork/gridworklaw09.LowerOf", spec := "lowerOf", inPlace := ["math.Float64frombits", "math.Float64bits"], unfollowed := true, recurses := true, apart := false }
def LowerOfSaid : Prop := lowerOfRow.holds Try.pinned (OpenSpec.ofChange lowerOfSpec)

/-- ITS FALSE NEIGHBOUR: 'it returns false'. Refute it at one input. -/
def lowerOfWrong : ChangeSpec := { name := "lowerOf", fn := fun _ => fun
  | [d1, d2] => { results := [.lit (.bool false)], args := [d1, d2] }
  | _ => none }
def LowerOfWrongFalsely : Prop := lowerOfRow.holds Try.pinned (OpenSpec.ofChange lowerOfWrong)

/-- 'gridworklaw09.LowerShapes': WHATEVER THE INPUT: true; the input reads as it did. -/
def lowerShapesSpec : ChangeSpec := { name := "lowerShapes", fn := fun _ => fun
  | [d1, d2, d3] => { results := [.lit (.bool true)], args := [d1, d2, d3] }
  | _ => none }
def lowerShapesRow : OpenClaim := { program := "ytibjkmjccelcaaa", sum := "adfdcd9959a812cd7c395d177c4cc2add54d4dca47dc0f9211b0895b9ca7553d", func := "gridwork/gridworklaw09.LowerShapes", spec := "lowerShapes", inPlace := ["math.Float64frombits", "math.Float64bits"], unfollowed := true, recurses := true, apart := false }
def LowerShapesSaid : Prop := lowerShapesRow.holds Try.pinned (OpenSpec.ofChange lowerShapesSpec)

/-- ITS FALSE NEIGHBOUR: 'it returns false'. Refute it at one input. -/
def lowerShapesWrong : ChangeSpec := { name := "lowerShapes", fn := fun _ => fun
  | [d1, d2, d3] => { results := [.lit (.bool false)], args := [d1, d2, d3] }
  | _ => none }
def LowerShapesWrongFalsely : Prop := lowerShapesRow.holds Try.pinned (OpenSpec.ofChange lowerShapesWrong)

/-- 'gridworklaw09.LowerWhole': WHATEVER THE INPUT: true; the input reads as it did. -/
def lowerWholeSpec : ChangeSpec := { name := "lowerWhole", fn := fun _ => fun
  | [d1, d2] => { results := [.lit (.bool true)], args := [d1, d2] }
  | _ => none }
def lowerWholeRow : OpenClaim := { program := "ytibjkmjccelcaaa", sum := "adfdcd9959a812cd7c395d177c4cc2add54d4dca47dc0f9211b0895b9ca7553d", func := "gridwork/gridworklaw09.LowerWhole", spec := "lowerWhole", inPlace := ["math.Float64bits", "math.Float64frombits", "math.archFloor", "math.archTrunc"], unfollowed := true, recurses := true, apart := false }
def LowerWholeSaid : Prop := lowerWholeRow.holds Try.pinned (OpenSpec.ofChange lowerWholeSpec)

/-- ITS FALSE NEIGHBOUR: 'it returns false'. Refute it at one input. -/
def lowerWholeWrong : ChangeSpec := { name := "lowerWhole", fn := fun _ => fun
  | [d1, d2] => { results := [.lit (.bool false)], args := [d1, d2] }
  | _ => none }
def LowerWholeWrongFalsely : Prop := lowerWholeRow.holds Try.pinned (OpenSpec.ofChange lowerWholeWrong)

/-- 'gridworklaw09.LowerNames': WHATEVER THE INPUT: true; the input reads as it did. -/
def lowerNamesSpec : ChangeSpec := { name := "lowerNames", fn := fun _ => fun
  | [] => { results := [.lit (.bool true)], args := [] }
  | _ => none }
def lowerNamesRow : OpenClaim := { program := "ytibjkmjccelcaaa", sum := "adfdcd9959a812cd7c395d177c4cc2add54d4dca47dc0f9211b0895b9ca7553d", func := "gridwork/gridworklaw09.LowerNames", spec := "lowerNames", inPlace := ["math.Float64bits", "math.Float64frombits"], unfollowed := true, recurses := true, apart := false }
def LowerNamesSaid : Prop := lowerNamesRow.holds Try.pinned (OpenSpec.ofChange lowerNamesSpec)

/-- ITS FALSE NEIGHBOUR: 'it returns false'. Refute it at one input. -/
def lowerNamesWrong : ChangeSpec := { name := "lowerNames", fn := fun _ => fun
  | [] => { results := [.lit (.bool false)], args := [] }
  | _ => none }
def LowerNamesWrongFalsely : Prop := lowerNamesRow.holds Try.pinned (OpenSpec.ofChange lowerNamesWrong)

/- THE SECOND FORM. 'bulk': how many values and letters a reading holds, each counted each time it is reached (what is shared counts as often as it is met; a slice's spare places count too). A statement '..UptoSaid' is the law's where the arguments, and the package variables that the reading takes, are together of bulk at most 1048576: NARROWER than '..Said'. Prove '..Said' where nothing that the law and all that it calls make is longer than what came in: it says more and counts as full. Else prove '..UptoSaid'. A law counts once. -/
mutual
def uptoBulk {H : Type} : DataW H → Nat
  | .lit (.string bytes) => bytes.length + 1
  | .lit _ => 1
  | .nil => 1
  | .ptr d => uptoBulk d + 1
  | .slice elems spare => uptoBulkAll elems + uptoBulkAll spare + 1
  | .agg parts => uptoBulkAll parts + 1
  | .iface _ d => uptoBulk d + 1
  | .map entries => uptoBulkEntries entries + 1
  | .held _ => 1
def uptoBulkAll {H : Type} : List (DataW H) → Nat
  | [] => 0
  | d :: r => uptoBulk d + uptoBulkAll r
def uptoBulkEntries {H : Type} : List (Lit × DataW H) → Nat
  | [] => 0
  | x :: r => uptoBulkEntry x + uptoBulkEntries r
def uptoBulkEntry {H : Type} : Lit × DataW H → Nat
  | (.string bytes, d) => bytes.length + uptoBulk d + 1
  | (_, d) => uptoBulk d + 1
 end
def uptoSmall : (H : Type) → List (DataW H) → Bool := fun _ ds => decide (uptoBulkAll ds ≤ 1048576)
def OpenSpec.upto (s : _root_.Go.ChangeSpec) : _root_.Go.OpenSpec := { _root_.Go.OpenSpec.ofChange s with cond := some uptoSmall }

/-- 'gridworklaw09.LowerTurned', WHERE WHAT IT READS IS OF BULK AT MOST 1048576: true; the input reads as it did. -/
def lowerTurnedUptoRow : OpenClaim := { program := "ytibjkmjccelcaaa", sum := "adfdcd9959a812cd7c395d177c4cc2add54d4dca47dc0f9211b0895b9ca7553d", func := "gridwork/gridworklaw09.LowerTurned", spec := "lowerTurned", inPlace := ["math.Float64frombits", "math.Float64bits"], unfollowed := true, recurses := true, apart := false, narrowed := true }
def LowerTurnedUptoSaid : Prop := lowerTurnedUptoRow.holds Try.pinned (OpenSpec.upto lowerTurnedSpec)

/-- 'gridworklaw09.LowerMirror', WHERE WHAT IT READS IS OF BULK AT MOST 1048576: true; the input reads as it did. -/
def lowerMirrorUptoRow : OpenClaim := { program := "ytibjkmjccelcaaa", sum := "adfdcd9959a812cd7c395d177c4cc2add54d4dca47dc0f9211b0895b9ca7553d", func := "gridwork/gridworklaw09.LowerMirror", spec := "lowerMirror", inPlace := ["math.Float64frombits", "math.Float64bits"], unfollowed := true, recurses := true, apart := false, narrowed := true }
def LowerMirrorUptoSaid : Prop := lowerMirrorUptoRow.holds Try.pinned (OpenSpec.upto lowerMirrorSpec)

/-- 'gridworklaw09.LowerOf', WHERE WHAT IT READS IS OF BULK AT MOST 1048576: true; the input reads as it did. -/
def lowerOfUptoRow : OpenClaim := { program := "ytibjkmjccelcaaa", sum := "adfdcd9959a812cd7c395d177c4cc2add54d4dca47dc0f9211b0895b9ca7553d", func := "gridwork/gridworklaw09.LowerOf", spec := "lowerOf", inPlace := ["math.Float64frombits", "math.Float64bits"], unfollowed := true, recurses := true, apart := false, narrowed := true }
def LowerOfUptoSaid : Prop := lowerOfUptoRow.holds Try.pinned (OpenSpec.upto lowerOfSpec)

/-- 'gridworklaw09.LowerShapes', WHERE WHAT IT READS IS OF BULK AT MOST 1048576: true; the input reads as it did. -/
def lowerShapesUptoRow : OpenClaim := { program := "ytibjkmjccelcaaa", sum := "adfdcd9959a812cd7c395d177c4cc2add54d4dca47dc0f9211b0895b9ca7553d", func := "gridwork/gridworklaw09.LowerShapes", spec := "lowerShapes", inPlace := ["math.Float64frombits", "math.Float64bits"], unfollowed := true, recurses := true, apart := false, narrowed := true }
def LowerShapesUptoSaid : Prop := lowerShapesUptoRow.holds Try.pinned (OpenSpec.upto lowerShapesSpec)

/-- 'gridworklaw09.LowerWhole', WHERE WHAT IT READS IS OF BULK AT MOST 1048576: true; the input reads as it did. -/
def lowerWholeUptoRow : OpenClaim := { program := "ytibjkmjccelcaaa", sum := "adfdcd9959a812cd7c395d177c4cc2add54d4dca47dc0f9211b0895b9ca7553d", func := "gridwork/gridworklaw09.LowerWhole", spec := "lowerWhole", inPlace := ["math.Float64bits", "math.Float64frombits", "math.archFloor", "math.archTrunc"], unfollowed := true, recurses := true, apart := false, narrowed := true }
def LowerWholeUptoSaid : Prop := lowerWholeUptoRow.holds Try.pinned (OpenSpec.upto lowerWholeSpec)

/-- 'gridworklaw09.LowerNames', WHERE WHAT IT READS IS OF BULK AT MOST 1048576: true; the input reads as it did. -/
def lowerNamesUptoRow : OpenClaim := { program := "ytibjkmjccelcaaa", sum := "adfdcd9959a812cd7c395d177c4cc2add54d4dca47dc0f9211b0895b9ca7553d", func := "gridwork/gridworklaw09.LowerNames", spec := "lowerNames", inPlace := ["math.Float64bits", "math.Float64frombits"], unfollowed := true, recurses := true, apart := false, narrowed := true }
def LowerNamesUptoSaid : Prop := lowerNamesUptoRow.holds Try.pinned (OpenSpec.upto lowerNamesSpec)

end Rows
end Go.Proofs.Ytibjkmjccelcaaa
