/-
  No cell of these rows narrows 'for every input' (looked for: loops, veiled, ifaces, maps, wideKeys, modest, calm, conditions, laid).
  DERIVED. THE GIVEN ROWS OF THIS SEAT. 4 by the template 'for every input the law returns true; each argument reads behind the call as it read before'; 0 by the template 'total and deterministic' (their statements: YtandllekeimpgaaTotals.lean).
  GIVEN WITH THE SEED: the statements are not yours to turn. If you find one false, say at which input.
  Laid BY PROGRAM, IN A SANDBOX (cutbox-rows.mjs): the forced cells as the released guide's own fill.sh prints them over the translation b79c6a233fa4c898… (all of the seat's roots in one cut). By AI agents, Wed Nov 11 2026. No macro, syntax, notation, axiom, sorry.
-/
import Derived.Test.YtandllekeimpgaaChecked
import GoSem.Claim
import GoSem.ClaimJoined
import GoSem.ClaimMapViews
import Derived.JoinedTies
import Derived.KernelRfl
namespace Go.Proofs.Ytandllekeimpgaa
/- THE CELL 'sum', in the pinned program and in every row, IS THE sha256 OF THE DUMP (.gsa) THAT YtandllekeimpgaaProg.lean LOADS. Nothing in Lean hashes anything: it is a label: what it is worth is what the hold of that sum in a sandbox is worth. -/
noncomputable def Try.pinned : Pinned := { name := "ytandllekeimpgaa", sum := "b79c6a233fa4c89883434f565d3b57d95b944e805ad8348c45af12cc5a590004", checked := Try.checked }
namespace Rows
def none {H : Type} : Left H := { results := [], args := [] }

/-- 'gridworklaw11.RefineLeft': WHATEVER THE INPUT: true; the input reads as it did. -/
def refineLeftSpec : ChangeSpec := { name := "refineLeft", fn := fun _ => fun
  | [d1, d2, d3] => { results := [.lit (.bool true)], args := [d1, d2, d3] }
  | _ => none }
def refineLeftRow : OpenClaim := { program := "ytandllekeimpgaa", sum := "b79c6a233fa4c89883434f565d3b57d95b944e805ad8348c45af12cc5a590004", func := "gridwork/gridworklaw11.RefineLeft", spec := "refineLeft", inPlace := ["math.FMA", "math.Float64bits", "math.Float64frombits"], apart := false }
def RefineLeftSaid : Prop := refineLeftRow.holds Try.pinned (OpenSpec.ofChange refineLeftSpec)

/-- ITS FALSE NEIGHBOUR: 'it returns false'. Refute it at one input. -/
def refineLeftWrong : ChangeSpec := { name := "refineLeft", fn := fun _ => fun
  | [d1, d2, d3] => { results := [.lit (.bool false)], args := [d1, d2, d3] }
  | _ => none }
def RefineLeftWrongFalsely : Prop := refineLeftRow.holds Try.pinned (OpenSpec.ofChange refineLeftWrong)

/-- 'gridworklaw11.RefineWhole': WHATEVER THE INPUT: true; the input reads as it did. -/
def refineWholeSpec : ChangeSpec := { name := "refineWhole", fn := fun _ => fun
  | [d1, d2, d3, d4, d5] => { results := [.lit (.bool true)], args := [d1, d2, d3, d4, d5] }
  | _ => none }
def refineWholeRow : OpenClaim := { program := "ytandllekeimpgaa", sum := "b79c6a233fa4c89883434f565d3b57d95b944e805ad8348c45af12cc5a590004", func := "gridwork/gridworklaw11.RefineWhole", spec := "refineWhole", inPlace := ["math.FMA", "math.Float64bits", "math.Float64frombits"], unfollowed := true, recurses := true, apart := false }
def RefineWholeSaid : Prop := refineWholeRow.holds Try.pinned (OpenSpec.ofChange refineWholeSpec)

/-- ITS FALSE NEIGHBOUR: 'it returns false'. Refute it at one input. -/
def refineWholeWrong : ChangeSpec := { name := "refineWhole", fn := fun _ => fun
  | [d1, d2, d3, d4, d5] => { results := [.lit (.bool false)], args := [d1, d2, d3, d4, d5] }
  | _ => none }
def RefineWholeWrongFalsely : Prop := refineWholeRow.holds Try.pinned (OpenSpec.ofChange refineWholeWrong)

/-- 'gridworklaw11.RefineLess': WHATEVER THE INPUT: true; the input reads as it did. -/
def refineLessSpec : ChangeSpec := { name := "refineLess", fn := fun _ => fun
  | [d1, d2] => { results := [.lit (.bool true)], args := [d1, d2] }
  | _ => none }
def refineLessRow : OpenClaim := { program := "ytandllekeimpgaa", sum := "b79c6a233fa4c89883434f565d3b57d95b944e805ad8348c45af12cc5a590004", func := "gridwork/gridworklaw11.RefineLess", spec := "refineLess", inPlace := ["math.Float64frombits", "math.Float64bits", "math.FMA"], unfollowed := true, recurses := true, apart := false }
def RefineLessSaid : Prop := refineLessRow.holds Try.pinned (OpenSpec.ofChange refineLessSpec)

/-- ITS FALSE NEIGHBOUR: 'it returns false'. Refute it at one input. -/
def refineLessWrong : ChangeSpec := { name := "refineLess", fn := fun _ => fun
  | [d1, d2] => { results := [.lit (.bool false)], args := [d1, d2] }
  | _ => none }
def RefineLessWrongFalsely : Prop := refineLessRow.holds Try.pinned (OpenSpec.ofChange refineLessWrong)

/-- 'gridworklaw11.RefineNames': WHATEVER THE INPUT: true; the input reads as it did. -/
def refineNamesSpec : ChangeSpec := { name := "refineNames", fn := fun _ => fun
  | [] => { results := [.lit (.bool true)], args := [] }
  | _ => none }
def refineNamesRow : OpenClaim := { program := "ytandllekeimpgaa", sum := "b79c6a233fa4c89883434f565d3b57d95b944e805ad8348c45af12cc5a590004", func := "gridwork/gridworklaw11.RefineNames", spec := "refineNames", inPlace := ["math.Float64bits", "math.Float64frombits", "math.FMA"], unfollowed := true, recurses := true, apart := false }
def RefineNamesSaid : Prop := refineNamesRow.holds Try.pinned (OpenSpec.ofChange refineNamesSpec)

/-- ITS FALSE NEIGHBOUR: 'it returns false'. Refute it at one input. -/
def refineNamesWrong : ChangeSpec := { name := "refineNames", fn := fun _ => fun
  | [] => { results := [.lit (.bool false)], args := [] }
  | _ => none }
def RefineNamesWrongFalsely : Prop := refineNamesRow.holds Try.pinned (OpenSpec.ofChange refineNamesWrong)

/- THE SECOND FORM. 'bulk': how many values and letters a reading holds, each counted each time it is reached (what is shared counts as often as it is met; a slice's spare places count too). A statement '..UptoSaid' is the law's where the arguments, and the package variables that the reading takes, are together of bulk at most 1048576: NARROWER than '..Said'. Prove '..Said' where nothing that the law and all that it calls make is longer than what came in: it says more and counts as full. Else prove '..UptoSaid'. A law counts once. -/
mutual
def uptoBulk {H : Type} : DataW H → Nat
  | .lit (.string bytes) => bytes.length + 1
  | .lit _ => 1
  | .nil => 1
  | .ptr d => uptoBulk d + 1
  | .slice elems spare => uptoBulkAll elems + uptoBulkAll spare + 1
  | .agg parts => uptoBulkAll parts + 1
  | .iface _ d => uptoBulk d + 1
  | .map entries => uptoBulkEntries entries + 1
  | .held _ => 1
def uptoBulkAll {H : Type} : List (DataW H) → Nat
  | [] => 0
  | d :: r => uptoBulk d + uptoBulkAll r
def uptoBulkEntries {H : Type} : List (Lit × DataW H) → Nat
  | [] => 0
  | x :: r => uptoBulkEntry x + uptoBulkEntries r
def uptoBulkEntry {H : Type} : Lit × DataW H → Nat
  | (.string bytes, d) => bytes.length + uptoBulk d + 1
  | (_, d) => uptoBulk d + 1
 end
def uptoSmall : (H : Type) → List (DataW H) → Bool := fun _ ds => decide (uptoBulkAll ds ≤ 1048576)
def OpenSpec.upto (s : _root_.Go.ChangeSpec) : _root_.Go.OpenSpec := { _root_.Go.OpenSpec.ofChange s with cond := some uptoSmall }

/-- 'gridworklaw11.RefineLeft', WHERE WHAT IT READS IS OF BULK AT MOST 1048576: true; the input reads as it did. -/
def refineLeftUptoRow : OpenClaim := { program := "ytandllekeimpgaa", sum := "b79c6a233fa4c89883434f565d3b57d95b944e805ad8348c45af12cc5a590004", func := "gridwork/gridworklaw11.RefineLeft", spec := "refineLeft", inPlace := ["math.FMA", "math.Float64bits", "math.Float64frombits"], apart := false, narrowed := true }
def RefineLeftUptoSaid : Prop := refineLeftUptoRow.holds Try.pinned (OpenSpec.upto refineLeftSpec)

/-- 'gridworklaw11.RefineWhole', WHERE WHAT IT READS IS OF BULK AT MOST 1048576: true; the input reads as it did. -/
def refineWholeUptoRow : OpenClaim := { program := "ytandllekeimpgaa", sum := "b79c6a233fa4c89883434f565d3b57d95b944e805ad8348c45af12cc5a590004", func := "gridwork/gridworklaw11.RefineWhole", spec := "refineWhole", inPlace := ["math.FMA", "math.Float64bits", "math.Float64frombits"], unfollowed := true, recurses := true, apart := false, narrowed := true }
def RefineWholeUptoSaid : Prop := refineWholeUptoRow.holds Try.pinned (OpenSpec.upto refineWholeSpec)

/-- 'gridworklaw11.RefineLess', WHERE WHAT IT READS IS OF BULK AT MOST 1048576: true; the input reads as it did. -/
def refineLessUptoRow : OpenClaim := { program := "ytandllekeimpgaa", sum := "b79c6a233fa4c89883434f565d3b57d95b944e805ad8348c45af12cc5a590004", func := "gridwork/gridworklaw11.RefineLess", spec := "refineLess", inPlace := ["math.Float64frombits", "math.Float64bits", "math.FMA"], unfollowed := true, recurses := true, apart := false, narrowed := true }
def RefineLessUptoSaid : Prop := refineLessUptoRow.holds Try.pinned (OpenSpec.upto refineLessSpec)

/-- 'gridworklaw11.RefineNames', WHERE WHAT IT READS IS OF BULK AT MOST 1048576: true; the input reads as it did. -/
def refineNamesUptoRow : OpenClaim := { program := "ytandllekeimpgaa", sum := "b79c6a233fa4c89883434f565d3b57d95b944e805ad8348c45af12cc5a590004", func := "gridwork/gridworklaw11.RefineNames", spec := "refineNames", inPlace := ["math.Float64bits", "math.Float64frombits", "math.FMA"], unfollowed := true, recurses := true, apart := false, narrowed := true }
def RefineNamesUptoSaid : Prop := refineNamesUptoRow.holds Try.pinned (OpenSpec.upto refineNamesSpec)

end Rows
end Go.Proofs.Ytandllekeimpgaa
