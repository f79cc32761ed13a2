/-
  No cell of these rows narrows 'for every input' (looked for: loops, veiled, ifaces, maps, wideKeys, modest, calm, conditions, laid).
  DERIVED. THE GIVEN ROWS OF THIS SEAT. 5 by the template 'for every input the law returns true; each argument reads behind the call as it read before'; 0 by the template 'total and deterministic' (their statements: YtglmmidhkpomgaaTotals.lean).
  GIVEN WITH THE SEED: the statements are not yours to turn. If you find one false, say at which input.
  Laid BY PROGRAM, IN A SANDBOX (cutbox-rows.mjs): the forced cells as the released guide's own fill.sh prints them over the translation 3edb77bf1b7035c3… (all of the seat's roots in one cut). By AI agents, Wed Nov 11 2026. No macro, syntax, notation, axiom, sorry.
-/
import Derived.Test.YtglmmidhkpomgaaChecked
import GoSem.Claim
import GoSem.ClaimJoined
import GoSem.ClaimMapViews
import Derived.JoinedTies
import Derived.KernelRfl
namespace Go.Proofs.Ytglmmidhkpomgaa
/- THE CELL 'sum', in the pinned program and in every row, IS THE sha256 OF THE DUMP (.gsa) THAT YtglmmidhkpomgaaProg.lean LOADS. Nothing in Lean hashes anything: it is a label: what it is worth is what the hold of that sum in a sandbox is worth. -/
noncomputable def Try.pinned : Pinned := { name := "ytglmmidhkpomgaa", sum := "3edb77bf1b7035c35ab16b25ae0d8cba90822ce3e3852491139f018f2bf8e962", checked := Try.checked }
namespace Rows
def none {H : Type} : Left H := { results := [], args := [] }

/-- 'gridworklaw10.SolveMeans': WHATEVER THE INPUT: true; the input reads as it did. -/
def solveMeansSpec : ChangeSpec := { name := "solveMeans", fn := fun _ => fun
  | [d1, d2, d3] => { results := [.lit (.bool true)], args := [d1, d2, d3] }
  | _ => none }
def solveMeansRow : OpenClaim := { program := "ytglmmidhkpomgaa", sum := "3edb77bf1b7035c35ab16b25ae0d8cba90822ce3e3852491139f018f2bf8e962", func := "gridwork/gridworklaw10.SolveMeans", spec := "solveMeans", inPlace := ["math.Float64bits", "math.Float64frombits"], unfollowed := true, recurses := true, apart := false }
def SolveMeansSaid : Prop := solveMeansRow.holds Try.pinned (OpenSpec.ofChange solveMeansSpec)

/-- ITS FALSE NEIGHBOUR: 'it returns false'. Refute it at one input. -/
def solveMeansWrong : ChangeSpec := { name := "solveMeans", fn := fun _ => fun
  | [d1, d2, d3] => { results := [.lit (.bool false)], args := [d1, d2, d3] }
  | _ => none }
def SolveMeansWrongFalsely : Prop := solveMeansRow.holds Try.pinned (OpenSpec.ofChange solveMeansWrong)

/-- 'gridworklaw10.SolveKnown': WHATEVER THE INPUT: true; the input reads as it did. -/
def solveKnownSpec : ChangeSpec := { name := "solveKnown", fn := fun _ => fun
  | [] => { results := [.lit (.bool true)], args := [] }
  | _ => none }
def solveKnownRow : OpenClaim := { program := "ytglmmidhkpomgaa", sum := "3edb77bf1b7035c35ab16b25ae0d8cba90822ce3e3852491139f018f2bf8e962", func := "gridwork/gridworklaw10.SolveKnown", spec := "solveKnown", inPlace := ["math.Float64bits", "math.Float64frombits"], unfollowed := true, recurses := true, apart := false }
def SolveKnownSaid : Prop := solveKnownRow.holds Try.pinned (OpenSpec.ofChange solveKnownSpec)

/-- ITS FALSE NEIGHBOUR: 'it returns false'. Refute it at one input. -/
def solveKnownWrong : ChangeSpec := { name := "solveKnown", fn := fun _ => fun
  | [] => { results := [.lit (.bool false)], args := [] }
  | _ => none }
def SolveKnownWrongFalsely : Prop := solveKnownRow.holds Try.pinned (OpenSpec.ofChange solveKnownWrong)

/-- 'gridworklaw10.SolveMirrors': WHATEVER THE INPUT: true; the input reads as it did. -/
def solveMirrorsSpec : ChangeSpec := { name := "solveMirrors", fn := fun _ => fun
  | [d1, d2, d3] => { results := [.lit (.bool true)], args := [d1, d2, d3] }
  | _ => none }
def solveMirrorsRow : OpenClaim := { program := "ytglmmidhkpomgaa", sum := "3edb77bf1b7035c35ab16b25ae0d8cba90822ce3e3852491139f018f2bf8e962", func := "gridwork/gridworklaw10.SolveMirrors", spec := "solveMirrors", inPlace := ["math.Float64bits", "math.Float64frombits", "math.archMax"], unfollowed := true, recurses := true, apart := false }
def SolveMirrorsSaid : Prop := solveMirrorsRow.holds Try.pinned (OpenSpec.ofChange solveMirrorsSpec)

/-- ITS FALSE NEIGHBOUR: 'it returns false'. Refute it at one input. -/
def solveMirrorsWrong : ChangeSpec := { name := "solveMirrors", fn := fun _ => fun
  | [d1, d2, d3] => { results := [.lit (.bool false)], args := [d1, d2, d3] }
  | _ => none }
def SolveMirrorsWrongFalsely : Prop := solveMirrorsRow.holds Try.pinned (OpenSpec.ofChange solveMirrorsWrong)

/-- 'gridworklaw10.SolveNone': WHATEVER THE INPUT: true; the input reads as it did. -/
def solveNoneSpec : ChangeSpec := { name := "solveNone", fn := fun _ => fun
  | [d] => { results := [.lit (.bool true)], args := [d] }
  | _ => none }
def solveNoneRow : OpenClaim := { program := "ytglmmidhkpomgaa", sum := "3edb77bf1b7035c35ab16b25ae0d8cba90822ce3e3852491139f018f2bf8e962", func := "gridwork/gridworklaw10.SolveNone", spec := "solveNone", inPlace := ["math.Float64frombits", "math.Float64bits"], unfollowed := true, recurses := true, apart := false }
def SolveNoneSaid : Prop := solveNoneRow.holds Try.pinned (OpenSpec.ofChange solveNoneSpec)

/-- ITS FALSE NEIGHBOUR: 'it returns false'. Refute it at one input. -/
def solveNoneWrong : ChangeSpec := { name := "solveNone", fn := fun _ => fun
  | [d] => { results := [.lit (.bool false)], args := [d] }
  | _ => none }
def SolveNoneWrongFalsely : Prop := solveNoneRow.holds Try.pinned (OpenSpec.ofChange solveNoneWrong)

/-- 'gridworklaw10.SolveScales': WHATEVER THE INPUT: true; the input reads as it did. -/
def solveScalesSpec : ChangeSpec := { name := "solveScales", fn := fun _ => fun
  | [d1, d2, d3, d4] => { results := [.lit (.bool true)], args := [d1, d2, d3, d4] }
  | _ => none }
def solveScalesRow : OpenClaim := { program := "ytglmmidhkpomgaa", sum := "3edb77bf1b7035c35ab16b25ae0d8cba90822ce3e3852491139f018f2bf8e962", func := "gridwork/gridworklaw10.SolveScales", spec := "solveScales", inPlace := ["math.Float64bits", "math.Float64frombits"], unfollowed := true, recurses := true, apart := false }
def SolveScalesSaid : Prop := solveScalesRow.holds Try.pinned (OpenSpec.ofChange solveScalesSpec)

/-- ITS FALSE NEIGHBOUR: 'it returns false'. Refute it at one input. -/
def solveScalesWrong : ChangeSpec := { name := "solveScales", fn := fun _ => fun
  | [d1, d2, d3, d4] => { results := [.lit (.bool false)], args := [d1, d2, d3, d4] }
  | _ => none }
def SolveScalesWrongFalsely : Prop := solveScalesRow.holds Try.pinned (OpenSpec.ofChange solveScalesWrong)

/- THE SECOND FORM. 'bulk': how many values and letters a reading holds, each counted each time it is reached (what is shared counts as often as it is met; a slice's spare places count too). A statement '..UptoSaid' is the law's where the arguments, and the package variables that the reading takes, are together of bulk at most 1048576: NARROWER than '..Said'. Prove '..Said' where nothing that the law and all that it calls make is longer than what came in: it says more and counts as full. Else prove '..UptoSaid'. A law counts once. -/
mutual
def uptoBulk {H : Type} : DataW H → Nat
  | .lit (.string bytes) => bytes.length + 1
  | .lit _ => 1
  | .nil => 1
  | .ptr d => uptoBulk d + 1
  | .slice elems spare => uptoBulkAll elems + uptoBulkAll spare + 1
  | .agg parts => uptoBulkAll parts + 1
  | .iface _ d => uptoBulk d + 1
  | .map entries => uptoBulkEntries entries + 1
  | .held _ => 1
def uptoBulkAll {H : Type} : List (DataW H) → Nat
  | [] => 0
  | d :: r => uptoBulk d + uptoBulkAll r
def uptoBulkEntries {H : Type} : List (Lit × DataW H) → Nat
  | [] => 0
  | x :: r => uptoBulkEntry x + uptoBulkEntries r
def uptoBulkEntry {H : Type} : Lit × DataW H → Nat
  | (.string bytes, d) => bytes.length + uptoBulk d + 1
  | (_, d) => uptoBulk d + 1
 end
def uptoSmall : (H : Type) → List (DataW H) → Bool := fun _ ds => decide (uptoBulkAll ds ≤ 1048576)
def OpenSpec.upto (s : _root_.Go.ChangeSpec) : _root_.Go.OpenSpec := { _root_.Go.OpenSpec.ofChange s with cond := some uptoSmall }

/-- 'gridworklaw10.SolveMeans', WHERE WHAT IT READS IS OF BULK AT MOST 1048576: true; the input reads as it did. -/
def solveMeansUptoRow : OpenClaim := { program := "ytglmmidhkpomgaa", sum := "3edb77bf1b7035c35ab16b25ae0d8cba90822ce3e3852491139f018f2bf8e962", func := "gridwork/gridworklaw10.SolveMeans", spec := "solveMeans", inPlace := ["math.Float64bits", "math.Float64frombits"], unfollowed := true, recurses := true, apart := false, narrowed := true }
def SolveMeansUptoSaid : Prop := solveMeansUptoRow.holds Try.pinned (OpenSpec.upto solveMeansSpec)

/-- 'gridworklaw10.SolveKnown', WHERE WHAT IT READS IS OF BULK AT MOST 1048576: true; the input reads as it did. -/
def solveKnownUptoRow : OpenClaim := { program := "ytglmmidhkpomgaa", sum := "3edb77bf1b7035c35ab16b25ae0d8cba90822ce3e3852491139f018f2bf8e962", func := "gridwork/gridworklaw10.SolveKnown", spec := "solveKnown", inPlace := ["math.Float64bits", "math.Float64frombits"], unfollowed := true, recurses := true, apart := false, narrowed := true }
def SolveKnownUptoSaid : Prop := solveKnownUptoRow.holds Try.pinned (OpenSpec.upto solveKnownSpec)

/-- 'gridworklaw10.SolveMirrors', WHERE WHAT IT READS IS OF BULK AT MOST 1048576: true; the input reads as it did. -/
def solveMirrorsUptoRow : OpenClaim := { program := "ytglmmidhkpomgaa", sum := "3edb77bf1b7035c35ab16b25ae0d8cba90822ce3e3852491139f018f2bf8e962", func := "gridwork/gridworklaw10.SolveMirrors", spec := "solveMirrors", inPlace := ["math.Float64bits", "math.Float64frombits", "math.archMax"], unfollowed := true, recurses := true, apart := false, narrowed := true }
def SolveMirrorsUptoSaid : Prop := solveMirrorsUptoRow.holds Try.pinned (OpenSpec.upto solveMirrorsSpec)

/-- 'gridworklaw10.SolveNone', WHERE WHAT IT READS IS OF BULK AT MOST 1048576: true; the input reads as it did. -/
def solveNoneUptoRow : OpenClaim := { program := "ytglmmidhkpomgaa", sum := "3edb77bf1b7035c35ab16b25ae0d8cba90822ce3e3852491139f018f2bf8e962", func := "gridwork/gridworklaw10.SolveNone", spec := "solveNone", inPlace := ["math.Float64frombits", "math.Float64bits"], unfollowed := true, recurses := true, apart := false, narrowed := true }
def SolveNoneUptoSaid : Prop := solveNoneUptoRow.holds Try.pinned (OpenSpec.upto solveNoneSpec)

/-- 'gridworklaw10.SolveScales', WHERE WHAT IT READS IS OF BULK AT MOST 1048576: true; the input reads as it did. -/
def solveScalesUptoRow : OpenClaim := { program := "ytglmmidhkpomgaa", sum := "3edb77bf1b7035c35ab16b25ae0d8cba90822ce3e3852491139f018f2bf8e962", func := "gridwork/gridworklaw10.SolveScales", spec := "solveScales", inPlace := ["math.Float64bits", "math.Float64frombits"], unfollowed := true, recurses := true, apart := false, narrowed := true }
def SolveScalesUptoSaid : Prop := solveScalesUptoRow.holds Try.pinned (OpenSpec.upto solveScalesSpec)

end Rows
end Go.Proofs.Ytglmmidhkpomgaa
