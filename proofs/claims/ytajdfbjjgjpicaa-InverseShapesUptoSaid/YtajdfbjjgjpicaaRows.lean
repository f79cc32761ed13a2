/-
  No cell of these rows narrows 'for every input' (looked for: loops, veiled, ifaces, maps, wideKeys, modest, calm, conditions, laid).
  DERIVED. THE GIVEN ROWS OF THIS SEAT. 7 by the template 'for every input the law returns true; each argument reads behind the call as it read before'; 0 by the template 'total and deterministic' (their statements: YtajdfbjjgjpicaaTotals.lean).
  GIVEN WITH THE SEED: the statements are not yours to turn. If you find one false, say at which input.
  Laid BY PROGRAM, IN A SANDBOX (cutbox-rows.mjs): the forced cells as the released guide's own fill.sh prints them over the translation 8c00d7024c02775d… (all of the seat's roots in one cut). By AI agents, Wed Nov 11 2026. No macro, syntax, notation, axiom, sorry.
-/
import Derived.Test.YtajdfbjjgjpicaaChecked
import GoSem.Claim
import GoSem.ClaimJoined
import GoSem.ClaimMapViews
import Derived.JoinedTies
import Derived.KernelRfl
namespace Go.Proofs.Ytajdfbjjgjpicaa
/- THE CELL 'sum', in the pinned program and in every row, IS THE sha256 OF THE DUMP (.gsa) THAT YtajdfbjjgjpicaaProg.lean LOADS. Nothing in Lean hashes anything: it is a label: what it is worth is what the hold of that sum in a sandbox is worth. -/
noncomputable def Try.pinned : Pinned := { name := "ytajdfbjjgjpicaa", sum := "8c00d7024c02775d7c13781372c6440fe5407c6f02f7155918430e2d0225ca11", checked := Try.checked }
namespace Rows
def none {H : Type} : Left H := { results := [], args := [] }

/-- 'gridworklaw12.InverseOff': WHATEVER THE INPUT: true; the input reads as it did. -/
def inverseOffSpec : ChangeSpec := { name := "inverseOff", fn := fun _ => fun
  | [d1, d2] => { results := [.lit (.bool true)], args := [d1, d2] }
  | _ => none }
def inverseOffRow : OpenClaim := { program := "ytajdfbjjgjpicaa", sum := "8c00d7024c02775d7c13781372c6440fe5407c6f02f7155918430e2d0225ca11", func := "gridwork/gridworklaw12.InverseOff", spec := "inverseOff", inPlace := ["math.Float64frombits", "math.Float64bits"], unfollowed := true, recurses := true, apart := false }
def InverseOffSaid : Prop := inverseOffRow.holds Try.pinned (OpenSpec.ofChange inverseOffSpec)

/-- ITS FALSE NEIGHBOUR: 'it returns false'. Refute it at one input. -/
def inverseOffWrong : ChangeSpec := { name := "inverseOff", fn := fun _ => fun
  | [d1, d2] => { results := [.lit (.bool false)], args := [d1, d2] }
  | _ => none }
def InverseOffWrongFalsely : Prop := inverseOffRow.holds Try.pinned (OpenSpec.ofChange inverseOffWrong)

/-- 'gridworklaw12.InverseOf': WHATEVER THE INPUT: true; the input reads as it did. -/
def inverseOfSpec : ChangeSpec := { name := "inverseOf", fn := fun _ => fun
  | [d1, d2] => { results := [.lit (.bool true)], args := [d1, d2] }
  | _ => none }
def inverseOfRow : OpenClaim := { program := "ytajdfbjjgjpicaa", sum := "8c00d7024c02775d7c13781372c6440fe5407c6f02f7155918430e2d0225ca11", func := "gridwork/gridworklaw12.InverseOf", spec := "inverseOf", inPlace := ["math.Float64frombits", "math.Float64bits"], unfollowed := true, recurses := true, apart := false }
def InverseOfSaid : Prop := inverseOfRow.holds Try.pinned (OpenSpec.ofChange inverseOfSpec)

/-- ITS FALSE NEIGHBOUR: 'it returns false'. Refute it at one input. -/
def inverseOfWrong : ChangeSpec := { name := "inverseOf", fn := fun _ => fun
  | [d1, d2] => { results := [.lit (.bool false)], args := [d1, d2] }
  | _ => none }
def InverseOfWrongFalsely : Prop := inverseOfRow.holds Try.pinned (OpenSpec.ofChange inverseOfWrong)

/-- 'gridworklaw12.InverseShapes': WHATEVER THE INPUT: true; the input reads as it did. -/
def inverseShapesSpec : ChangeSpec := { name := "inverseShapes", fn := fun _ => fun
  | [d1, d2, d3] => { results := [.lit (.bool true)], args := [d1, d2, d3] }
  | _ => none }
def inverseShapesRow : OpenClaim := { program := "ytajdfbjjgjpicaa", sum := "8c00d7024c02775d7c13781372c6440fe5407c6f02f7155918430e2d0225ca11", func := "gridwork/gridworklaw12.InverseShapes", spec := "inverseShapes", inPlace := ["math.Float64frombits", "math.Float64bits"], unfollowed := true, recurses := true, apart := false }
def InverseShapesSaid : Prop := inverseShapesRow.holds Try.pinned (OpenSpec.ofChange inverseShapesSpec)

/-- ITS FALSE NEIGHBOUR: 'it returns false'. Refute it at one input. -/
def inverseShapesWrong : ChangeSpec := { name := "inverseShapes", fn := fun _ => fun
  | [d1, d2, d3] => { results := [.lit (.bool false)], args := [d1, d2, d3] }
  | _ => none }
def InverseShapesWrongFalsely : Prop := inverseShapesRow.holds Try.pinned (OpenSpec.ofChange inverseShapesWrong)

/-- 'gridworklaw12.InverseMirror': WHATEVER THE INPUT: true; the input reads as it did. -/
def inverseMirrorSpec : ChangeSpec := { name := "inverseMirror", fn := fun _ => fun
  | [d1, d2] => { results := [.lit (.bool true)], args := [d1, d2] }
  | _ => none }
def inverseMirrorRow : OpenClaim := { program := "ytajdfbjjgjpicaa", sum := "8c00d7024c02775d7c13781372c6440fe5407c6f02f7155918430e2d0225ca11", func := "gridwork/gridworklaw12.InverseMirror", spec := "inverseMirror", inPlace := ["math.Float64frombits", "math.Float64bits"], unfollowed := true, recurses := true, apart := false }
def InverseMirrorSaid : Prop := inverseMirrorRow.holds Try.pinned (OpenSpec.ofChange inverseMirrorSpec)

/-- ITS FALSE NEIGHBOUR: 'it returns false'. Refute it at one input. -/
def inverseMirrorWrong : ChangeSpec := { name := "inverseMirror", fn := fun _ => fun
  | [d1, d2] => { results := [.lit (.bool false)], args := [d1, d2] }
  | _ => none }
def InverseMirrorWrongFalsely : Prop := inverseMirrorRow.holds Try.pinned (OpenSpec.ofChange inverseMirrorWrong)

/-- 'gridworklaw12.InversePermutes': WHATEVER THE INPUT: true; the input reads as it did. -/
def inversePermutesSpec : ChangeSpec := { name := "inversePermutes", fn := fun _ => fun
  | [d1, d2, d3] => { results := [.lit (.bool true)], args := [d1, d2, d3] }
  | _ => none }
def inversePermutesRow : OpenClaim := { program := "ytajdfbjjgjpicaa", sum := "8c00d7024c02775d7c13781372c6440fe5407c6f02f7155918430e2d0225ca11", func := "gridwork/gridworklaw12.InversePermutes", spec := "inversePermutes", inPlace := ["math.Float64bits", "math.Float64frombits"], unfollowed := true, recurses := true, apart := false }
def InversePermutesSaid : Prop := inversePermutesRow.holds Try.pinned (OpenSpec.ofChange inversePermutesSpec)

/-- ITS FALSE NEIGHBOUR: 'it returns false'. Refute it at one input. -/
def inversePermutesWrong : ChangeSpec := { name := "inversePermutes", fn := fun _ => fun
  | [d1, d2, d3] => { results := [.lit (.bool false)], args := [d1, d2, d3] }
  | _ => none }
def InversePermutesWrongFalsely : Prop := inversePermutesRow.holds Try.pinned (OpenSpec.ofChange inversePermutesWrong)

/-- 'gridworklaw12.InverseScaled': WHATEVER THE INPUT: true; the input reads as it did. -/
def inverseScaledSpec : ChangeSpec := { name := "inverseScaled", fn := fun _ => fun
  | [d1, d2, d3] => { results := [.lit (.bool true)], args := [d1, d2, d3] }
  | _ => none }
def inverseScaledRow : OpenClaim := { program := "ytajdfbjjgjpicaa", sum := "8c00d7024c02775d7c13781372c6440fe5407c6f02f7155918430e2d0225ca11", func := "gridwork/gridworklaw12.InverseScaled", spec := "inverseScaled", inPlace := ["math.Float64bits", "math.Float64frombits"], unfollowed := true, recurses := true, apart := false }
def InverseScaledSaid : Prop := inverseScaledRow.holds Try.pinned (OpenSpec.ofChange inverseScaledSpec)

/-- ITS FALSE NEIGHBOUR: 'it returns false'. Refute it at one input. -/
def inverseScaledWrong : ChangeSpec := { name := "inverseScaled", fn := fun _ => fun
  | [d1, d2, d3] => { results := [.lit (.bool false)], args := [d1, d2, d3] }
  | _ => none }
def InverseScaledWrongFalsely : Prop := inverseScaledRow.holds Try.pinned (OpenSpec.ofChange inverseScaledWrong)

/-- 'gridworklaw12.InverseNames': WHATEVER THE INPUT: true; the input reads as it did. -/
def inverseNamesSpec : ChangeSpec := { name := "inverseNames", fn := fun _ => fun
  | [] => { results := [.lit (.bool true)], args := [] }
  | _ => none }
def inverseNamesRow : OpenClaim := { program := "ytajdfbjjgjpicaa", sum := "8c00d7024c02775d7c13781372c6440fe5407c6f02f7155918430e2d0225ca11", func := "gridwork/gridworklaw12.InverseNames", spec := "inverseNames", inPlace := ["math.Float64bits", "math.Float64frombits"], unfollowed := true, recurses := true, apart := false }
def InverseNamesSaid : Prop := inverseNamesRow.holds Try.pinned (OpenSpec.ofChange inverseNamesSpec)

/-- ITS FALSE NEIGHBOUR: 'it returns false'. Refute it at one input. -/
def inverseNamesWrong : ChangeSpec := { name := "inverseNames", fn := fun _ => fun
  | [] => { results := [.lit (.bool false)], args := [] }
  | _ => none }
def InverseNamesWrongFalsely : Prop := inverseNamesRow.holds Try.pinned (OpenSpec.ofChange inverseNamesWrong)

/- THE SECOND FORM. 'bulk': how many values and letters a reading holds, each counted each time it is reached (what is shared counts as often as it is met; a slice's spare places count too). A statement '..UptoSaid' is the law's where the arguments, and the package variables that the reading takes, are together of bulk at most 1048576: NARROWER than '..Said'. Prove '..Said' where nothing that the law and all that it calls make is longer than what came in: it says more and counts as full. Else prove '..UptoSaid'. A law counts once. -/
mutual
def uptoBulk {H : Type} : DataW H → Nat
  | .lit (.string bytes) => bytes.length + 1
  | .lit _ => 1
  | .nil => 1
  | .ptr d => uptoBulk d + 1
  | .slice elems spare => uptoBulkAll elems + uptoBulkAll spare + 1
  | .agg parts => uptoBulkAll parts + 1
  | .iface _ d => uptoBulk d + 1
  | .map entries => uptoBulkEntries entries + 1
  | .held _ => 1
def uptoBulkAll {H : Type} : List (DataW H) → Nat
  | [] => 0
  | d :: r => uptoBulk d + uptoBulkAll r
def uptoBulkEntries {H : Type} : List (Lit × DataW H) → Nat
  | [] => 0
  | x :: r => uptoBulkEntry x + uptoBulkEntries r
def uptoBulkEntry {H : Type} : Lit × DataW H → Nat
  | (.string bytes, d) => bytes.length + uptoBulk d + 1
  | (_, d) => uptoBulk d + 1
 end
def uptoSmall : (H : Type) → List (DataW H) → Bool := fun _ ds => decide (uptoBulkAll ds ≤ 1048576)
def OpenSpec.upto (s : _root_.Go.ChangeSpec) : _root_.Go.OpenSpec := { _root_.Go.OpenSpec.ofChange s with cond := some uptoSmall }

/-- 'gridworklaw12.InverseOff', WHERE WHAT IT READS IS OF BULK AT MOST 1048576: true; the input reads as it did. -/
def inverseOffUptoRow : OpenClaim := { program := "ytajdfbjjgjpicaa", sum := "8c00d7024c02775d7c13781372c6440fe5407c6f02f7155918430e2d0225ca11", func := "gridwork/gridworklaw12.InverseOff", spec := "inverseOff", inPlace := ["math.Float64frombits", "math.Float64bits"], unfollowed := true, recurses := true, apart := false, narrowed := true }
def InverseOffUptoSaid : Prop := inverseOffUptoRow.holds Try.pinned (OpenSpec.upto inverseOffSpec)

/-- 'gridworklaw12.InverseOf', WHERE WHAT IT READS IS OF BULK AT MOST 1048576: true; the input reads as it did. -/
def inverseOfUptoRow : OpenClaim := { program := "ytajdfbjjgjpicaa", sum := "8c00d7024c02775d7c13781372c6440fe5407c6f02f7155918430e2d0225ca11", func := "gridwork/gridworklaw12.InverseOf", spec := "inverseOf", inPlace := ["math.Float64frombits", "math.Float64bits"], unfollowed := true, recurses := true, apart := false, narrowed := true }
def InverseOfUptoSaid : Prop := inverseOfUptoRow.holds Try.pinned (OpenSpec.upto inverseOfSpec)

/-- 'gridworklaw12.InverseShapes', WHERE WHAT IT READS IS OF BULK AT MOST 1048576: true; the input reads as it did. -/
def inverseShapesUptoRow : OpenClaim := { program := "ytajdfbjjgjpicaa", sum := "8c00d7024c02775d7c13781372c6440fe5407c6f02f7155918430e2d0225ca11", func := "gridwork/gridworklaw12.InverseShapes", spec := "inverseShapes", inPlace := ["math.Float64frombits", "math.Float64bits"], unfollowed := true, recurses := true, apart := false, narrowed := true }
def InverseShapesUptoSaid : Prop := inverseShapesUptoRow.holds Try.pinned (OpenSpec.upto inverseShapesSpec)

/-- 'gridworklaw12.InverseMirror', WHERE WHAT IT READS IS OF BULK AT MOST 1048576: true; the input reads as it did. -/
def inverseMirrorUptoRow : OpenClaim := { program := "ytajdfbjjgjpicaa", sum := "8c00d7024c02775d7c13781372c6440fe5407c6f02f7155918430e2d0225ca11", func := "gridwork/gridworklaw12.InverseMirror", spec := "inverseMirror", inPlace := ["math.Float64frombits", "math.Float64bits"], unfollowed := true, recurses := true, apart := false, narrowed := true }
def InverseMirrorUptoSaid : Prop := inverseMirrorUptoRow.holds Try.pinned (OpenSpec.upto inverseMirrorSpec)

/-- 'gridworklaw12.InversePermutes', WHERE WHAT IT READS IS OF BULK AT MOST 1048576: true; the input reads as it did. -/
def inversePermutesUptoRow : OpenClaim := { program := "ytajdfbjjgjpicaa", sum := "8c00d7024c02775d7c13781372c6440fe5407c6f02f7155918430e2d0225ca11", func := "gridwork/gridworklaw12.InversePermutes", spec := "inversePermutes", inPlace := ["math.Float64bits", "math.Float64frombits"], unfollowed := true, recurses := true, apart := false, narrowed := true }
def InversePermutesUptoSaid : Prop := inversePermutesUptoRow.holds Try.pinned (OpenSpec.upto inversePermutesSpec)

/-- 'gridworklaw12.InverseScaled', WHERE WHAT IT READS IS OF BULK AT MOST 1048576: true; the input reads as it did. -/
def inverseScaledUptoRow : OpenClaim := { program := "ytajdfbjjgjpicaa", sum := "8c00d7024c02775d7c13781372c6440fe5407c6f02f7155918430e2d0225ca11", func := "gridwork/gridworklaw12.InverseScaled", spec := "inverseScaled", inPlace := ["math.Float64bits", "math.Float64frombits"], unfollowed := true, recurses := true, apart := false, narrowed := true }
def InverseScaledUptoSaid : Prop := inverseScaledUptoRow.holds Try.pinned (OpenSpec.upto inverseScaledSpec)

/-- 'gridworklaw12.InverseNames', WHERE WHAT IT READS IS OF BULK AT MOST 1048576: true; the input reads as it did. -/
def inverseNamesUptoRow : OpenClaim := { program := "ytajdfbjjgjpicaa", sum := "8c00d7024c02775d7c13781372c6440fe5407c6f02f7155918430e2d0225ca11", func := "gridwork/gridworklaw12.InverseNames", spec := "inverseNames", inPlace := ["math.Float64bits", "math.Float64frombits"], unfollowed := true, recurses := true, apart := false, narrowed := true }
def InverseNamesUptoSaid : Prop := inverseNamesUptoRow.holds Try.pinned (OpenSpec.upto inverseNamesSpec)

end Rows
end Go.Proofs.Ytajdfbjjgjpicaa
