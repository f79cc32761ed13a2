/-
  No cell of these rows narrows 'for every input' (looked for: loops, veiled, ifaces, maps, wideKeys, modest, calm, conditions, laid).
  DERIVED. THE GIVEN ROWS OF THIS SEAT. 7 by the template 'for every input the law returns true; each argument reads behind the call as it read before'; 0 by the template 'total and deterministic' (their statements: YtpibokkcmhfdbaaTotals.lean).
  GIVEN WITH THE SEED: the statements are not yours to turn. If you find one false, say at which input.
  Laid BY PROGRAM, IN A SANDBOX (cutbox-rows.mjs): the forced cells as the released guide's own fill.sh prints them over the translation 79cbe4db4b90e78e… (all of the seat's roots in one cut). By AI agents, Wed Nov 11 2026. No macro, syntax, notation, axiom, sorry.
-/
import Derived.Test.YtpibokkcmhfdbaaChecked
import GoSem.Claim
import GoSem.ClaimJoined
import GoSem.ClaimMapViews
import Derived.JoinedTies
import Derived.KernelRfl
namespace Go.Proofs.Ytpibokkcmhfdbaa
/- THE CELL 'sum', in the pinned program and in every row, IS THE sha256 OF THE DUMP (.gsa) THAT YtpibokkcmhfdbaaProg.lean LOADS. Nothing in Lean hashes anything: it is a label: what it is worth is what the hold of that sum in a sandbox is worth. -/
noncomputable def Try.pinned : Pinned := { name := "ytpibokkcmhfdbaa", sum := "79cbe4db4b90e78e791031d6bfaf95470cb14586cfd008efe614ef04014a5205", checked := Try.checked }
namespace Rows
def none {H : Type} : Left H := { results := [], args := [] }

/-- 'gridworklaw02.PartsSizes': WHATEVER THE INPUT: true; the input reads as it did. -/
def partsSizesSpec : ChangeSpec := { name := "partsSizes", fn := fun _ => fun
  | [d] => { results := [.lit (.bool true)], args := [d] }
  | _ => none }
def partsSizesRow : OpenClaim := { program := "ytpibokkcmhfdbaa", sum := "79cbe4db4b90e78e791031d6bfaf95470cb14586cfd008efe614ef04014a5205", func := "gridwork/gridworklaw02.PartsSizes", spec := "partsSizes", inPlace := ["math.Float64frombits", "math.Float64bits", "math.sqrt"], apart := false }
def PartsSizesSaid : Prop := partsSizesRow.holds Try.pinned (OpenSpec.ofChange partsSizesSpec)

/-- ITS FALSE NEIGHBOUR: 'it returns false'. Refute it at one input. -/
def partsSizesWrong : ChangeSpec := { name := "partsSizes", fn := fun _ => fun
  | [d] => { results := [.lit (.bool false)], args := [d] }
  | _ => none }
def PartsSizesWrongFalsely : Prop := partsSizesRow.holds Try.pinned (OpenSpec.ofChange partsSizesWrong)

/-- 'gridworklaw02.PartsReckon': WHATEVER THE INPUT: true; the input reads as it did. -/
def partsReckonSpec : ChangeSpec := { name := "partsReckon", fn := fun _ => fun
  | [d1, d2] => { results := [.lit (.bool true)], args := [d1, d2] }
  | _ => none }
def partsReckonRow : OpenClaim := { program := "ytpibokkcmhfdbaa", sum := "79cbe4db4b90e78e791031d6bfaf95470cb14586cfd008efe614ef04014a5205", func := "gridwork/gridworklaw02.PartsReckon", spec := "partsReckon", inPlace := ["math.Float64frombits", "math.Float64bits", "math.sqrt"], apart := false }
def PartsReckonSaid : Prop := partsReckonRow.holds Try.pinned (OpenSpec.ofChange partsReckonSpec)

/-- ITS FALSE NEIGHBOUR: 'it returns false'. Refute it at one input. -/
def partsReckonWrong : ChangeSpec := { name := "partsReckon", fn := fun _ => fun
  | [d1, d2] => { results := [.lit (.bool false)], args := [d1, d2] }
  | _ => none }
def PartsReckonWrongFalsely : Prop := partsReckonRow.holds Try.pinned (OpenSpec.ofChange partsReckonWrong)

/-- 'gridworklaw02.PartsMirror': WHATEVER THE INPUT: true; the input reads as it did. -/
def partsMirrorSpec : ChangeSpec := { name := "partsMirror", fn := fun _ => fun
  | [d1, d2] => { results := [.lit (.bool true)], args := [d1, d2] }
  | _ => none }
def partsMirrorRow : OpenClaim := { program := "ytpibokkcmhfdbaa", sum := "79cbe4db4b90e78e791031d6bfaf95470cb14586cfd008efe614ef04014a5205", func := "gridwork/gridworklaw02.PartsMirror", spec := "partsMirror", inPlace := ["math.Float64frombits", "math.Float64bits", "math.sqrt"], apart := false }
def PartsMirrorSaid : Prop := partsMirrorRow.holds Try.pinned (OpenSpec.ofChange partsMirrorSpec)

/-- ITS FALSE NEIGHBOUR: 'it returns false'. Refute it at one input. -/
def partsMirrorWrong : ChangeSpec := { name := "partsMirror", fn := fun _ => fun
  | [d1, d2] => { results := [.lit (.bool false)], args := [d1, d2] }
  | _ => none }
def PartsMirrorWrongFalsely : Prop := partsMirrorRow.holds Try.pinned (OpenSpec.ofChange partsMirrorWrong)

/-- 'gridworklaw02.PartsAlone': WHATEVER THE INPUT: true; the input reads as it did. -/
def partsAloneSpec : ChangeSpec := { name := "partsAlone", fn := fun _ => fun
  | [d1, d2] => { results := [.lit (.bool true)], args := [d1, d2] }
  | _ => none }
def partsAloneRow : OpenClaim := { program := "ytpibokkcmhfdbaa", sum := "79cbe4db4b90e78e791031d6bfaf95470cb14586cfd008efe614ef04014a5205", func := "gridwork/gridworklaw02.PartsAlone", spec := "partsAlone", inPlace := ["math.Float64frombits", "math.Float64bits", "math.sqrt"], apart := false }
def PartsAloneSaid : Prop := partsAloneRow.holds Try.pinned (OpenSpec.ofChange partsAloneSpec)

/-- ITS FALSE NEIGHBOUR: 'it returns false'. Refute it at one input. -/
def partsAloneWrong : ChangeSpec := { name := "partsAlone", fn := fun _ => fun
  | [d1, d2] => { results := [.lit (.bool false)], args := [d1, d2] }
  | _ => none }
def PartsAloneWrongFalsely : Prop := partsAloneRow.holds Try.pinned (OpenSpec.ofChange partsAloneWrong)

/-- 'gridworklaw02.PartsNames': WHATEVER THE INPUT: true; the input reads as it did. -/
def partsNamesSpec : ChangeSpec := { name := "partsNames", fn := fun _ => fun
  | [] => { results := [.lit (.bool true)], args := [] }
  | _ => none }
def partsNamesRow : OpenClaim := { program := "ytpibokkcmhfdbaa", sum := "79cbe4db4b90e78e791031d6bfaf95470cb14586cfd008efe614ef04014a5205", func := "gridwork/gridworklaw02.PartsNames", spec := "partsNames", inPlace := ["math.Float64frombits", "math.Float64bits", "math.sqrt"], apart := false }
def PartsNamesSaid : Prop := partsNamesRow.holds Try.pinned (OpenSpec.ofChange partsNamesSpec)

/-- ITS FALSE NEIGHBOUR: 'it returns false'. Refute it at one input. -/
def partsNamesWrong : ChangeSpec := { name := "partsNames", fn := fun _ => fun
  | [] => { results := [.lit (.bool false)], args := [] }
  | _ => none }
def PartsNamesWrongFalsely : Prop := partsNamesRow.holds Try.pinned (OpenSpec.ofChange partsNamesWrong)

/-- 'gridworklaw02.PartsExact': WHATEVER THE INPUT: true; the input reads as it did. -/
def partsExactSpec : ChangeSpec := { name := "partsExact", fn := fun _ => fun
  | [d1, d2] => { results := [.lit (.bool true)], args := [d1, d2] }
  | _ => none }
def partsExactRow : OpenClaim := { program := "ytpibokkcmhfdbaa", sum := "79cbe4db4b90e78e791031d6bfaf95470cb14586cfd008efe614ef04014a5205", func := "gridwork/gridworklaw02.PartsExact", spec := "partsExact", inPlace := ["math.Float64frombits", "math.Float64bits", "math.sqrt"], apart := false }
def PartsExactSaid : Prop := partsExactRow.holds Try.pinned (OpenSpec.ofChange partsExactSpec)

/-- ITS FALSE NEIGHBOUR: 'it returns false'. Refute it at one input. -/
def partsExactWrong : ChangeSpec := { name := "partsExact", fn := fun _ => fun
  | [d1, d2] => { results := [.lit (.bool false)], args := [d1, d2] }
  | _ => none }
def PartsExactWrongFalsely : Prop := partsExactRow.holds Try.pinned (OpenSpec.ofChange partsExactWrong)

/-- 'gridworklaw02.PartsTwos': WHATEVER THE INPUT: true; the input reads as it did. -/
def partsTwosSpec : ChangeSpec := { name := "partsTwos", fn := fun _ => fun
  | [d1, d2, d3, d4, d5] => { results := [.lit (.bool true)], args := [d1, d2, d3, d4, d5] }
  | _ => none }
def partsTwosRow : OpenClaim := { program := "ytpibokkcmhfdbaa", sum := "79cbe4db4b90e78e791031d6bfaf95470cb14586cfd008efe614ef04014a5205", func := "gridwork/gridworklaw02.PartsTwos", spec := "partsTwos", inPlace := ["math.Float64bits", "math.Float64frombits", "math.sqrt"], apart := false }
def PartsTwosSaid : Prop := partsTwosRow.holds Try.pinned (OpenSpec.ofChange partsTwosSpec)

/-- ITS FALSE NEIGHBOUR: 'it returns false'. Refute it at one input. -/
def partsTwosWrong : ChangeSpec := { name := "partsTwos", fn := fun _ => fun
  | [d1, d2, d3, d4, d5] => { results := [.lit (.bool false)], args := [d1, d2, d3, d4, d5] }
  | _ => none }
def PartsTwosWrongFalsely : Prop := partsTwosRow.holds Try.pinned (OpenSpec.ofChange partsTwosWrong)

/- THE SECOND FORM. 'bulk': how many values and letters a reading holds, each counted each time it is reached (what is shared counts as often as it is met; a slice's spare places count too). A statement '..UptoSaid' is the law's where the arguments, and the package variables that the reading takes, are together of bulk at most 1048576: NARROWER than '..Said'. Prove '..Said' where nothing that the law and all that it calls make is longer than what came in: it says more and counts as full. Else prove '..UptoSaid'. A law counts once. -/
mutual
def uptoBulk {H : Type} : DataW H → Nat
  | .lit (.string bytes) => bytes.length + 1
  | .lit _ => 1
  | .nil => 1
  | .ptr d => uptoBulk d + 1
  | .slice elems spare => uptoBulkAll elems + uptoBulkAll spare + 1
  | .agg parts => uptoBulkAll parts + 1
  | .iface _ d => uptoBulk d + 1
  | .map entries => uptoBulkEntries entries + 1
  | .held _ => 1
def uptoBulkAll {H : Type} : List (DataW H) → Nat
  | [] => 0
  | d :: r => uptoBulk d + uptoBulkAll r
def uptoBulkEntries {H : Type} : List (Lit × DataW H) → Nat
  | [] => 0
  | x :: r => uptoBulkEntry x + uptoBulkEntries r
def uptoBulkEntry {H : Type} : Lit × DataW H → Nat
  | (.string bytes, d) => bytes.length + uptoBulk d + 1
  | (_, d) => uptoBulk d + 1
 end
def uptoSmall : (H : Type) → List (DataW H) → Bool := fun _ ds => decide (uptoBulkAll ds ≤ 1048576)
def OpenSpec.upto (s : _root_.Go.ChangeSpec) : _root_.Go.OpenSpec := { _root_.Go.OpenSpec.ofChange s with cond := some uptoSmall }

/-- 'gridworklaw02.PartsSizes', WHERE WHAT IT READS IS OF BULK AT MOST 1048576: true; the input reads as it did. -/
def partsSizesUptoRow : OpenClaim := { program := "ytpibokkcmhfdbaa", sum := "79cbe4db4b90e78e791031d6bfaf95470cb14586cfd008efe614ef04014a5205", func := "gridwork/gridworklaw02.PartsSizes", spec := "partsSizes", inPlace := ["math.Float64frombits", "math.Float64bits", "math.sqrt"], apart := false, narrowed := true }
def PartsSizesUptoSaid : Prop := partsSizesUptoRow.holds Try.pinned (OpenSpec.upto partsSizesSpec)

/-- 'gridworklaw02.PartsReckon', WHERE WHAT IT READS IS OF BULK AT MOST 1048576: true; the input reads as it did. -/
def partsReckonUptoRow : OpenClaim := { program := "ytpibokkcmhfdbaa", sum := "79cbe4db4b90e78e791031d6bfaf95470cb14586cfd008efe614ef04014a5205", func := "gridwork/gridworklaw02.PartsReckon", spec := "partsReckon", inPlace := ["math.Float64frombits", "math.Float64bits", "math.sqrt"], apart := false, narrowed := true }
def PartsReckonUptoSaid : Prop := partsReckonUptoRow.holds Try.pinned (OpenSpec.upto partsReckonSpec)

/-- 'gridworklaw02.PartsMirror', WHERE WHAT IT READS IS OF BULK AT MOST 1048576: true; the input reads as it did. -/
def partsMirrorUptoRow : OpenClaim := { program := "ytpibokkcmhfdbaa", sum := "79cbe4db4b90e78e791031d6bfaf95470cb14586cfd008efe614ef04014a5205", func := "gridwork/gridworklaw02.PartsMirror", spec := "partsMirror", inPlace := ["math.Float64frombits", "math.Float64bits", "math.sqrt"], apart := false, narrowed := true }
def PartsMirrorUptoSaid : Prop := partsMirrorUptoRow.holds Try.pinned (OpenSpec.upto partsMirrorSpec)

/-- 'gridworklaw02.PartsAlone', WHERE WHAT IT READS IS OF BULK AT MOST 1048576: true; the input reads as it did. -/
def partsAloneUptoRow : OpenClaim := { program := "ytpibokkcmhfdbaa", sum := "79cbe4db4b90e78e791031d6bfaf95470cb14586cfd008efe614ef04014a5205", func := "gridwork/gridworklaw02.PartsAlone", spec := "partsAlone", inPlace := ["math.Float64frombits", "math.Float64bits", "math.sqrt"], apart := false, narrowed := true }
def PartsAloneUptoSaid : Prop := partsAloneUptoRow.holds Try.pinned (OpenSpec.upto partsAloneSpec)

/-- 'gridworklaw02.PartsNames', WHERE WHAT IT READS IS OF BULK AT MOST 1048576: true; the input reads as it did. -/
def partsNamesUptoRow : OpenClaim := { program := "ytpibokkcmhfdbaa", sum := "79cbe4db4b90e78e791031d6bfaf95470cb14586cfd008efe614ef04014a5205", func := "gridwork/gridworklaw02.PartsNames", spec := "partsNames", inPlace := ["math.Float64frombits", "math.Float64bits", "math.sqrt"], apart := false, narrowed := true }
def PartsNamesUptoSaid : Prop := partsNamesUptoRow.holds Try.pinned (OpenSpec.upto partsNamesSpec)

/-- 'gridworklaw02.PartsExact', WHERE WHAT IT READS IS OF BULK AT MOST 1048576: true; the input reads as it did. -/
def partsExactUptoRow : OpenClaim := { program := "ytpibokkcmhfdbaa", sum := "79cbe4db4b90e78e791031d6bfaf95470cb14586cfd008efe614ef04014a5205", func := "gridwork/gridworklaw02.PartsExact", spec := "partsExact", inPlace := ["math.Float64frombits", "math.Float64bits", "math.sqrt"], apart := false, narrowed := true }
def PartsExactUptoSaid : Prop := partsExactUptoRow.holds Try.pinned (OpenSpec.upto partsExactSpec)

/-- 'gridworklaw02.PartsTwos', WHERE WHAT IT READS IS OF BULK AT MOST 1048576: true; the input reads as it did. -/
def partsTwosUptoRow : OpenClaim := { program := "ytpibokkcmhfdbaa", sum := "79cbe4db4b90e78e791031d6bfaf95470cb14586cfd008efe614ef04014a5205", func := "gridwork/gridworklaw02.PartsTwos", spec := "partsTwos", inPlace := ["math.Float64bits", "math.Float64frombits", "math.sqrt"], apart := false, narrowed := true }
def PartsTwosUptoSaid : Prop := partsTwosUptoRow.holds Try.pinned (OpenSpec.upto partsTwosSpec)

end Rows
end Go.Proofs.Ytpibokkcmhfdbaa
