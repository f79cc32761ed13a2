/-
  No cell of these rows narrows 'for every input' (looked for: loops, veiled, ifaces, maps, wideKeys, modest, calm, conditions, laid).
  DERIVED. THE GIVEN ROWS OF THIS SEAT. 5 by the template 'for every input the law returns true; each argument reads behind the call as it read before'; 0 by the template 'total and deterministic' (their statements: YtpfjidijecgjcaaTotals.lean).
  GIVEN WITH THE SEED: the statements are not yours to turn. If you find one false, say at which input.
  Laid BY PROGRAM, IN A SANDBOX (cutbox-rows.mjs): the forced cells as the released guide's own fill.sh prints them over the translation 197ef9b2d1d2160b… (all of the seat's roots in one cut). By AI agents, Wed Nov 11 2026. No macro, syntax, notation, axiom, sorry.
-/
import Derived.Test.YtpfjidijecgjcaaChecked
import GoSem.Claim
import GoSem.ClaimJoined
import GoSem.ClaimMapViews
import Derived.JoinedTies
import Derived.KernelRfl
namespace Go.Proofs.Ytpfjidijecgjcaa
/- THE CELL 'sum', in the pinned program and in every row, IS THE sha256 OF THE DUMP (.gsa) THAT YtpfjidijecgjcaaProg.lean LOADS. Nothing in Lean hashes anything: it is a label: what it is worth is what the hold of that sum in a sandbox is worth. -/
noncomputable def Try.pinned : Pinned := { name := "ytpfjidijecgjcaa", sum := "197ef9b2d1d2160b43eaff9e990e8e5c93f9eab8e43c4f114c3abaecfbe52395", checked := Try.checked }
namespace Rows
def none {H : Type} : Left H := { results := [], args := [] }

/-- 'gridworklaw31.ArchiveDecodes': WHATEVER THE INPUT: true; the input reads as it did. -/
def archiveDecodesSpec : ChangeSpec := { name := "archiveDecodes", fn := fun _ => fun
  | [d] => { results := [.lit (.bool true)], args := [d] }
  | _ => none }
def archiveDecodesRow : OpenClaim := { program := "ytpfjidijecgjcaa", sum := "197ef9b2d1d2160b43eaff9e990e8e5c93f9eab8e43c4f114c3abaecfbe52395", func := "gridwork/gridworklaw31.ArchiveDecodes", spec := "archiveDecodes", inPlace := ["math.Float64frombits", "math.Float32frombits", "math.Float64bits", "math.Float32bits"], apart := false }
def ArchiveDecodesSaid : Prop := archiveDecodesRow.holds Try.pinned (OpenSpec.ofChange archiveDecodesSpec)

/-- ITS FALSE NEIGHBOUR: 'it returns false'. Refute it at one input. -/
def archiveDecodesWrong : ChangeSpec := { name := "archiveDecodes", fn := fun _ => fun
  | [d] => { results := [.lit (.bool false)], args := [d] }
  | _ => none }
def ArchiveDecodesWrongFalsely : Prop := archiveDecodesRow.holds Try.pinned (OpenSpec.ofChange archiveDecodesWrong)

/-- 'gridworklaw31.ArchiveEncodes': WHATEVER THE INPUT: true; the input reads as it did. -/
def archiveEncodesSpec : ChangeSpec := { name := "archiveEncodes", fn := fun _ => fun
  | [d] => { results := [.lit (.bool true)], args := [d] }
  | _ => none }
def archiveEncodesRow : OpenClaim := { program := "ytpfjidijecgjcaa", sum := "197ef9b2d1d2160b43eaff9e990e8e5c93f9eab8e43c4f114c3abaecfbe52395", func := "gridwork/gridworklaw31.ArchiveEncodes", spec := "archiveEncodes", inPlace := ["math.Float64frombits", "math.Float64bits", "math.Float32bits", "math.sqrt"], apart := false }
def ArchiveEncodesSaid : Prop := archiveEncodesRow.holds Try.pinned (OpenSpec.ofChange archiveEncodesSpec)

/-- ITS FALSE NEIGHBOUR: 'it returns false'. Refute it at one input. -/
def archiveEncodesWrong : ChangeSpec := { name := "archiveEncodes", fn := fun _ => fun
  | [d] => { results := [.lit (.bool false)], args := [d] }
  | _ => none }
def ArchiveEncodesWrongFalsely : Prop := archiveEncodesRow.holds Try.pinned (OpenSpec.ofChange archiveEncodesWrong)

/-- 'gridworklaw31.ArchiveBack': WHATEVER THE INPUT: true; the input reads as it did. -/
def archiveBackSpec : ChangeSpec := { name := "archiveBack", fn := fun _ => fun
  | [d] => { results := [.lit (.bool true)], args := [d] }
  | _ => none }
def archiveBackRow : OpenClaim := { program := "ytpfjidijecgjcaa", sum := "197ef9b2d1d2160b43eaff9e990e8e5c93f9eab8e43c4f114c3abaecfbe52395", func := "gridwork/gridworklaw31.ArchiveBack", spec := "archiveBack", inPlace := ["math.Float64bits", "math.Float64frombits", "math.Float32bits", "math.sqrt", "math.Float32frombits"], apart := false }
def ArchiveBackSaid : Prop := archiveBackRow.holds Try.pinned (OpenSpec.ofChange archiveBackSpec)

/-- ITS FALSE NEIGHBOUR: 'it returns false'. Refute it at one input. -/
def archiveBackWrong : ChangeSpec := { name := "archiveBack", fn := fun _ => fun
  | [d] => { results := [.lit (.bool false)], args := [d] }
  | _ => none }
def ArchiveBackWrongFalsely : Prop := archiveBackRow.holds Try.pinned (OpenSpec.ofChange archiveBackWrong)

/-- 'gridworklaw31.ArchiveReads': WHATEVER THE INPUT: true; the input reads as it did. -/
def archiveReadsSpec : ChangeSpec := { name := "archiveReads", fn := fun _ => fun
  | [d] => { results := [.lit (.bool true)], args := [d] }
  | _ => none }
def archiveReadsRow : OpenClaim := { program := "ytpfjidijecgjcaa", sum := "197ef9b2d1d2160b43eaff9e990e8e5c93f9eab8e43c4f114c3abaecfbe52395", func := "gridwork/gridworklaw31.ArchiveReads", spec := "archiveReads", inPlace := ["math.Float64bits", "math.Float64frombits", "math.Float32bits", "math.sqrt", "math.Float32frombits"], apart := false }
def ArchiveReadsSaid : Prop := archiveReadsRow.holds Try.pinned (OpenSpec.ofChange archiveReadsSpec)

/-- ITS FALSE NEIGHBOUR: 'it returns false'. Refute it at one input. -/
def archiveReadsWrong : ChangeSpec := { name := "archiveReads", fn := fun _ => fun
  | [d] => { results := [.lit (.bool false)], args := [d] }
  | _ => none }
def ArchiveReadsWrongFalsely : Prop := archiveReadsRow.holds Try.pinned (OpenSpec.ofChange archiveReadsWrong)

/-- 'gridworklaw31.ArchiveKnown': WHATEVER THE INPUT: true; the input reads as it did. -/
def archiveKnownSpec : ChangeSpec := { name := "archiveKnown", fn := fun _ => fun
  | [] => { results := [.lit (.bool true)], args := [] }
  | _ => none }
def archiveKnownRow : OpenClaim := { program := "ytpfjidijecgjcaa", sum := "197ef9b2d1d2160b43eaff9e990e8e5c93f9eab8e43c4f114c3abaecfbe52395", func := "gridwork/gridworklaw31.ArchiveKnown", spec := "archiveKnown", inPlace := ["math.Float64bits", "math.Float32bits", "math.Float64frombits", "math.sqrt", "math.Float32frombits"], apart := false }
def ArchiveKnownSaid : Prop := archiveKnownRow.holds Try.pinned (OpenSpec.ofChange archiveKnownSpec)

/-- ITS FALSE NEIGHBOUR: 'it returns false'. Refute it at one input. -/
def archiveKnownWrong : ChangeSpec := { name := "archiveKnown", fn := fun _ => fun
  | [] => { results := [.lit (.bool false)], args := [] }
  | _ => none }
def ArchiveKnownWrongFalsely : Prop := archiveKnownRow.holds Try.pinned (OpenSpec.ofChange archiveKnownWrong)

/- THE SECOND FORM. 'bulk': how many values and letters a reading holds, each counted each time it is reached (what is shared counts as often as it is met; a slice's spare places count too). A statement '..UptoSaid' is the law's where the arguments, and the package variables that the reading takes, are together of bulk at most 1048576: NARROWER than '..Said'. Prove '..Said' where nothing that the law and all that it calls make is longer than what came in: it says more and counts as full. Else prove '..UptoSaid'. A law counts once. -/
mutual
def uptoBulk {H : Type} : DataW H → Nat
  | .lit (.string bytes) => bytes.length + 1
  | .lit _ => 1
  | .nil => 1
  | .ptr d => uptoBulk d + 1
  | .slice elems spare => uptoBulkAll elems + uptoBulkAll spare + 1
  | .agg parts => uptoBulkAll parts + 1
  | .iface _ d => uptoBulk d + 1
  | .map entries => uptoBulkEntries entries + 1
  | .held _ => 1
def uptoBulkAll {H : Type} : List (DataW H) → Nat
  | [] => 0
  | d :: r => uptoBulk d + uptoBulkAll r
def uptoBulkEntries {H : Type} : List (Lit × DataW H) → Nat
  | [] => 0
  | x :: r => uptoBulkEntry x + uptoBulkEntries r
def uptoBulkEntry {H : Type} : Lit × DataW H → Nat
  | (.string bytes, d) => bytes.length + uptoBulk d + 1
  | (_, d) => uptoBulk d + 1
 end
def uptoSmall : (H : Type) → List (DataW H) → Bool := fun _ ds => decide (uptoBulkAll ds ≤ 1048576)
def OpenSpec.upto (s : _root_.Go.ChangeSpec) : _root_.Go.OpenSpec := { _root_.Go.OpenSpec.ofChange s with cond := some uptoSmall }

/-- 'gridworklaw31.ArchiveDecodes', WHERE WHAT IT READS IS OF BULK AT MOST 1048576: true; the input reads as it did. -/
def archiveDecodesUptoRow : OpenClaim := { program := "ytpfjidijecgjcaa", sum := "197ef9b2d1d2160b43eaff9e990e8e5c93f9eab8e43c4f114c3abaecfbe52395", func := "gridwork/gridworklaw31.ArchiveDecodes", spec := "archiveDecodes", inPlace := ["math.Float64frombits", "math.Float32frombits", "math.Float64bits", "math.Float32bits"], apart := false, narrowed := true }
def ArchiveDecodesUptoSaid : Prop := archiveDecodesUptoRow.holds Try.pinned (OpenSpec.upto archiveDecodesSpec)

/-- 'gridworklaw31.ArchiveEncodes', WHERE WHAT IT READS IS OF BULK AT MOST 1048576: true; the input reads as it did. -/
def archiveEncodesUptoRow : OpenClaim := { program := "ytpfjidijecgjcaa", sum := "197ef9b2d1d2160b43eaff9e990e8e5c93f9eab8e43c4f114c3abaecfbe52395", func := "gridwork/gridworklaw31.ArchiveEncodes", spec := "archiveEncodes", inPlace := ["math.Float64frombits", "math.Float64bits", "math.Float32bits", "math.sqrt"], apart := false, narrowed := true }
def ArchiveEncodesUptoSaid : Prop := archiveEncodesUptoRow.holds Try.pinned (OpenSpec.upto archiveEncodesSpec)

/-- 'gridworklaw31.ArchiveBack', WHERE WHAT IT READS IS OF BULK AT MOST 1048576: true; the input reads as it did. -/
def archiveBackUptoRow : OpenClaim := { program := "ytpfjidijecgjcaa", sum := "197ef9b2d1d2160b43eaff9e990e8e5c93f9eab8e43c4f114c3abaecfbe52395", func := "gridwork/gridworklaw31.ArchiveBack", spec := "archiveBack", inPlace := ["math.Float64bits", "math.Float64frombits", "math.Float32bits", "math.sqrt", "math.Float32frombits"], apart := false, narrowed := true }
def ArchiveBackUptoSaid : Prop := archiveBackUptoRow.holds Try.pinned (OpenSpec.upto archiveBackSpec)

/-- 'gridworklaw31.ArchiveReads', WHERE WHAT IT READS IS OF BULK AT MOST 1048576: true; the input reads as it did. -/
def archiveReadsUptoRow : OpenClaim := { program := "ytpfjidijecgjcaa", sum := "197ef9b2d1d2160b43eaff9e990e8e5c93f9eab8e43c4f114c3abaecfbe52395", func := "gridwork/gridworklaw31.ArchiveReads", spec := "archiveReads", inPlace := ["math.Float64bits", "math.Float64frombits", "math.Float32bits", "math.sqrt", "math.Float32frombits"], apart := false, narrowed := true }
def ArchiveReadsUptoSaid : Prop := archiveReadsUptoRow.holds Try.pinned (OpenSpec.upto archiveReadsSpec)

/-- 'gridworklaw31.ArchiveKnown', WHERE WHAT IT READS IS OF BULK AT MOST 1048576: true; the input reads as it did. -/
def archiveKnownUptoRow : OpenClaim := { program := "ytpfjidijecgjcaa", sum := "197ef9b2d1d2160b43eaff9e990e8e5c93f9eab8e43c4f114c3abaecfbe52395", func := "gridwork/gridworklaw31.ArchiveKnown", spec := "archiveKnown", inPlace := ["math.Float64bits", "math.Float32bits", "math.Float64frombits", "math.sqrt", "math.Float32frombits"], apart := false, narrowed := true }
def ArchiveKnownUptoSaid : Prop := archiveKnownUptoRow.holds Try.pinned (OpenSpec.upto archiveKnownSpec)

end Rows
end Go.Proofs.Ytpfjidijecgjcaa
