/-
  No cell of these rows narrows 'for every input' (looked for: loops, veiled, ifaces, maps, wideKeys, modest, calm, conditions, laid).
  DERIVED. THE GIVEN ROWS OF THIS SEAT. 7 by the template 'for every input the law returns true; each argument reads behind the call as it read before'; 0 by the template 'total and deterministic' (their statements: YtbajeonhiaaclaaTotals.lean).
  GIVEN WITH THE SEED: the statements are not yours to turn. If you find one false, say at which input.
  Laid BY PROGRAM, IN A SANDBOX (cutbox-rows.mjs): the forced cells as the released guide's own fill.sh prints them over the translation a0c17754e96979bb… (all of the seat's roots in one cut). By AI agents, Wed Nov 11 2026. No macro, syntax, notation, axiom, sorry.
-/
import Derived.Test.YtbajeonhiaaclaaChecked
import GoSem.Claim
import GoSem.ClaimJoined
import GoSem.ClaimMapViews
import Derived.JoinedTies
import Derived.KernelRfl
namespace Go.Proofs.Ytbajeonhiaaclaa
/- THE CELL 'sum', in the pinned program and in every row, IS THE sha256 OF THE DUMP (.gsa) THAT YtbajeonhiaaclaaProg.lean LOADS. Nothing in Lean hashes anything: it is a label: what it is worth is what the hold of that sum in a sandbox is worth. -/
noncomputable def Try.pinned : Pinned := { name := "ytbajeonhiaaclaa", sum := "a0c17754e96979bbd50c13fb87f11a9b73172ea7f26c1027fc2f5ea2d521ca0d", checked := Try.checked }
namespace Rows
def none {H : Type} : Left H := { results := [], args := [] }

/-- 'gridworklaw01.RealSums': WHATEVER THE INPUT: true; the input reads as it did. -/
def realSumsSpec : ChangeSpec := { name := "realSums", fn := fun _ => fun
  | [d] => { results := [.lit (.bool true)], args := [d] }
  | _ => none }
def realSumsRow : OpenClaim := { program := "ytbajeonhiaaclaa", sum := "a0c17754e96979bbd50c13fb87f11a9b73172ea7f26c1027fc2f5ea2d521ca0d", func := "gridwork/gridworklaw01.RealSums", spec := "realSums", inPlace := ["math.Float64frombits", "math.Float64bits"], apart := false }
def RealSumsSaid : Prop := realSumsRow.holds Try.pinned (OpenSpec.ofChange realSumsSpec)

/-- ITS FALSE NEIGHBOUR: 'it returns false'. Refute it at one input. -/
def realSumsWrong : ChangeSpec := { name := "realSums", fn := fun _ => fun
  | [d] => { results := [.lit (.bool false)], args := [d] }
  | _ => none }
def RealSumsWrongFalsely : Prop := realSumsRow.holds Try.pinned (OpenSpec.ofChange realSumsWrong)

/-- 'gridworklaw01.RealPlaces': WHATEVER THE INPUT: true; the input reads as it did. -/
def realPlacesSpec : ChangeSpec := { name := "realPlaces", fn := fun _ => fun
  | [d1, d2, d3] => { results := [.lit (.bool true)], args := [d1, d2, d3] }
  | _ => none }
def realPlacesRow : OpenClaim := { program := "ytbajeonhiaaclaa", sum := "a0c17754e96979bbd50c13fb87f11a9b73172ea7f26c1027fc2f5ea2d521ca0d", func := "gridwork/gridworklaw01.RealPlaces", spec := "realPlaces", inPlace := ["math.Float64frombits", "math.Float64bits"], apart := false }
def RealPlacesSaid : Prop := realPlacesRow.holds Try.pinned (OpenSpec.ofChange realPlacesSpec)

/-- ITS FALSE NEIGHBOUR: 'it returns false'. Refute it at one input. -/
def realPlacesWrong : ChangeSpec := { name := "realPlaces", fn := fun _ => fun
  | [d1, d2, d3] => { results := [.lit (.bool false)], args := [d1, d2, d3] }
  | _ => none }
def RealPlacesWrongFalsely : Prop := realPlacesRow.holds Try.pinned (OpenSpec.ofChange realPlacesWrong)

/-- 'gridworklaw01.RealOrder': WHATEVER THE INPUT: true; the input reads as it did. -/
def realOrderSpec : ChangeSpec := { name := "realOrder", fn := fun _ => fun
  | [d1, d2, d3] => { results := [.lit (.bool true)], args := [d1, d2, d3] }
  | _ => none }
def realOrderRow : OpenClaim := { program := "ytbajeonhiaaclaa", sum := "a0c17754e96979bbd50c13fb87f11a9b73172ea7f26c1027fc2f5ea2d521ca0d", func := "gridwork/gridworklaw01.RealOrder", spec := "realOrder", inPlace := ["math.Float64bits", "math.FMA", "math.Float64frombits"], apart := false }
def RealOrderSaid : Prop := realOrderRow.holds Try.pinned (OpenSpec.ofChange realOrderSpec)

/-- ITS FALSE NEIGHBOUR: 'it returns false'. Refute it at one input. -/
def realOrderWrong : ChangeSpec := { name := "realOrder", fn := fun _ => fun
  | [d1, d2, d3] => { results := [.lit (.bool false)], args := [d1, d2, d3] }
  | _ => none }
def RealOrderWrongFalsely : Prop := realOrderRow.holds Try.pinned (OpenSpec.ofChange realOrderWrong)

/-- 'gridworklaw01.RealExact': WHATEVER THE INPUT: true; the input reads as it did. -/
def realExactSpec : ChangeSpec := { name := "realExact", fn := fun _ => fun
  | [d1, d2] => { results := [.lit (.bool true)], args := [d1, d2] }
  | _ => none }
def realExactRow : OpenClaim := { program := "ytbajeonhiaaclaa", sum := "a0c17754e96979bbd50c13fb87f11a9b73172ea7f26c1027fc2f5ea2d521ca0d", func := "gridwork/gridworklaw01.RealExact", spec := "realExact", inPlace := ["math.Float64bits", "math.FMA", "math.Float64frombits"], apart := false }
def RealExactSaid : Prop := realExactRow.holds Try.pinned (OpenSpec.ofChange realExactSpec)

/-- ITS FALSE NEIGHBOUR: 'it returns false'. Refute it at one input. -/
def realExactWrong : ChangeSpec := { name := "realExact", fn := fun _ => fun
  | [d1, d2] => { results := [.lit (.bool false)], args := [d1, d2] }
  | _ => none }
def RealExactWrongFalsely : Prop := realExactRow.holds Try.pinned (OpenSpec.ofChange realExactWrong)

/-- 'gridworklaw01.RealAll': WHATEVER THE INPUT: true; the input reads as it did. -/
def realAllSpec : ChangeSpec := { name := "realAll", fn := fun _ => fun
  | [d] => { results := [.lit (.bool true)], args := [d] }
  | _ => none }
def realAllRow : OpenClaim := { program := "ytbajeonhiaaclaa", sum := "a0c17754e96979bbd50c13fb87f11a9b73172ea7f26c1027fc2f5ea2d521ca0d", func := "gridwork/gridworklaw01.RealAll", spec := "realAll", inPlace := ["math.Float64bits", "math.FMA", "math.Float64frombits"], apart := false }
def RealAllSaid : Prop := realAllRow.holds Try.pinned (OpenSpec.ofChange realAllSpec)

/-- ITS FALSE NEIGHBOUR: 'it returns false'. Refute it at one input. -/
def realAllWrong : ChangeSpec := { name := "realAll", fn := fun _ => fun
  | [d] => { results := [.lit (.bool false)], args := [d] }
  | _ => none }
def RealAllWrongFalsely : Prop := realAllRow.holds Try.pinned (OpenSpec.ofChange realAllWrong)

/-- 'gridworklaw01.RealPairs': WHATEVER THE INPUT: true; the input reads as it did. -/
def realPairsSpec : ChangeSpec := { name := "realPairs", fn := fun _ => fun
  | [d1, d2] => { results := [.lit (.bool true)], args := [d1, d2] }
  | _ => none }
def realPairsRow : OpenClaim := { program := "ytbajeonhiaaclaa", sum := "a0c17754e96979bbd50c13fb87f11a9b73172ea7f26c1027fc2f5ea2d521ca0d", func := "gridwork/gridworklaw01.RealPairs", spec := "realPairs", inPlace := ["math.Float64frombits", "math.FMA", "math.Float64bits"], apart := false }
def RealPairsSaid : Prop := realPairsRow.holds Try.pinned (OpenSpec.ofChange realPairsSpec)

/-- ITS FALSE NEIGHBOUR: 'it returns false'. Refute it at one input. -/
def realPairsWrong : ChangeSpec := { name := "realPairs", fn := fun _ => fun
  | [d1, d2] => { results := [.lit (.bool false)], args := [d1, d2] }
  | _ => none }
def RealPairsWrongFalsely : Prop := realPairsRow.holds Try.pinned (OpenSpec.ofChange realPairsWrong)

/-- 'gridworklaw01.RealKnown': WHATEVER THE INPUT: true; the input reads as it did. -/
def realKnownSpec : ChangeSpec := { name := "realKnown", fn := fun _ => fun
  | [] => { results := [.lit (.bool true)], args := [] }
  | _ => none }
def realKnownRow : OpenClaim := { program := "ytbajeonhiaaclaa", sum := "a0c17754e96979bbd50c13fb87f11a9b73172ea7f26c1027fc2f5ea2d521ca0d", func := "gridwork/gridworklaw01.RealKnown", spec := "realKnown", inPlace := ["math.Float64frombits", "math.Float64bits", "math.FMA"], apart := false }
def RealKnownSaid : Prop := realKnownRow.holds Try.pinned (OpenSpec.ofChange realKnownSpec)

/-- ITS FALSE NEIGHBOUR: 'it returns false'. Refute it at one input. -/
def realKnownWrong : ChangeSpec := { name := "realKnown", fn := fun _ => fun
  | [] => { results := [.lit (.bool false)], args := [] }
  | _ => none }
def RealKnownWrongFalsely : Prop := realKnownRow.holds Try.pinned (OpenSpec.ofChange realKnownWrong)

/- THE SECOND FORM. 'bulk': how many values and letters a reading holds, each counted each time it is reached (what is shared counts as often as it is met; a slice's spare places count too). A statement '..UptoSaid' is the law's where the arguments, and the package variables that the reading takes, are together of bulk at most 1048576: NARROWER than '..Said'. Prove '..Said' where nothing that the law and all that it calls make is longer than what came in: it says more and counts as full. Else prove '..UptoSaid'. A law counts once. -/
mutual
def uptoBulk {H : Type} : DataW H → Nat
  | .lit (.string bytes) => bytes.length + 1
  | .lit _ => 1
  | .nil => 1
  | .ptr d => uptoBulk d + 1
  | .slice elems spare => uptoBulkAll elems + uptoBulkAll spare + 1
  | .agg parts => uptoBulkAll parts + 1
  | .iface _ d => uptoBulk d + 1
  | .map entries => uptoBulkEntries entries + 1
  | .held _ => 1
def uptoBulkAll {H : Type} : List (DataW H) → Nat
  | [] => 0
  | d :: r => uptoBulk d + uptoBulkAll r
def uptoBulkEntries {H : Type} : List (Lit × DataW H) → Nat
  | [] => 0
  | x :: r => uptoBulkEntry x + uptoBulkEntries r
def uptoBulkEntry {H : Type} : Lit × DataW H → Nat
  | (.string bytes, d) => bytes.length + uptoBulk d + 1
  | (_, d) => uptoBulk d + 1
 end
def uptoSmall : (H : Type) → List (DataW H) → Bool := fun _ ds => decide (uptoBulkAll ds ≤ 1048576)
def OpenSpec.upto (s : _root_.Go.ChangeSpec) : _root_.Go.OpenSpec := { _root_.Go.OpenSpec.ofChange s with cond := some uptoSmall }

/-- 'gridworklaw01.RealSums', WHERE WHAT IT READS IS OF BULK AT MOST 1048576: true; the input reads as it did. -/
def realSumsUptoRow : OpenClaim := { program := "ytbajeonhiaaclaa", sum := "a0c17754e96979bbd50c13fb87f11a9b73172ea7f26c1027fc2f5ea2d521ca0d", func := "gridwork/gridworklaw01.RealSums", spec := "realSums", inPlace := ["math.Float64frombits", "math.Float64bits"], apart := false, narrowed := true }
def RealSumsUptoSaid : Prop := realSumsUptoRow.holds Try.pinned (OpenSpec.upto realSumsSpec)

/-- 'gridworklaw01.RealPlaces', WHERE WHAT IT READS IS OF BULK AT MOST 1048576: true; the input reads as it did. -/
def realPlacesUptoRow : OpenClaim := { program := "ytbajeonhiaaclaa", sum := "a0c17754e96979bbd50c13fb87f11a9b73172ea7f26c1027fc2f5ea2d521ca0d", func := "gridwork/gridworklaw01.RealPlaces", spec := "realPlaces", inPlace := ["math.Float64frombits", "math.Float64bits"], apart := false, narrowed := true }
def RealPlacesUptoSaid : Prop := realPlacesUptoRow.holds Try.pinned (OpenSpec.upto realPlacesSpec)

/-- 'gridworklaw01.RealOrder', WHERE WHAT IT READS IS OF BULK AT MOST 1048576: true; the input reads as it did. -/
def realOrderUptoRow : OpenClaim := { program := "ytbajeonhiaaclaa", sum := "a0c17754e96979bbd50c13fb87f11a9b73172ea7f26c1027fc2f5ea2d521ca0d", func := "gridwork/gridworklaw01.RealOrder", spec := "realOrder", inPlace := ["math.Float64bits", "math.FMA", "math.Float64frombits"], apart := false, narrowed := true }
def RealOrderUptoSaid : Prop := realOrderUptoRow.holds Try.pinned (OpenSpec.upto realOrderSpec)

/-- 'gridworklaw01.RealExact', WHERE WHAT IT READS IS OF BULK AT MOST 1048576: true; the input reads as it did. -/
def realExactUptoRow : OpenClaim := { program := "ytbajeonhiaaclaa", sum := "a0c17754e96979bbd50c13fb87f11a9b73172ea7f26c1027fc2f5ea2d521ca0d", func := "gridwork/gridworklaw01.RealExact", spec := "realExact", inPlace := ["math.Float64bits", "math.FMA", "math.Float64frombits"], apart := false, narrowed := true }
def RealExactUptoSaid : Prop := realExactUptoRow.holds Try.pinned (OpenSpec.upto realExactSpec)

/-- 'gridworklaw01.RealAll', WHERE WHAT IT READS IS OF BULK AT MOST 1048576: true; the input reads as it did. -/
def realAllUptoRow : OpenClaim := { program := "ytbajeonhiaaclaa", sum := "a0c17754e96979bbd50c13fb87f11a9b73172ea7f26c1027fc2f5ea2d521ca0d", func := "gridwork/gridworklaw01.RealAll", spec := "realAll", inPlace := ["math.Float64bits", "math.FMA", "math.Float64frombits"], apart := false, narrowed := true }
def RealAllUptoSaid : Prop := realAllUptoRow.holds Try.pinned (OpenSpec.upto realAllSpec)

/-- 'gridworklaw01.RealPairs', WHERE WHAT IT READS IS OF BULK AT MOST 1048576: true; the input reads as it did. -/
def realPairsUptoRow : OpenClaim := { program := "ytbajeonhiaaclaa", sum := "a0c17754e96979bbd50c13fb87f11a9b73172ea7f26c1027fc2f5ea2d521ca0d", func := "gridwork/gridworklaw01.RealPairs", spec := "realPairs", inPlace := ["math.Float64frombits", "math.FMA", "math.Float64bits"], apart := false, narrowed := true }
def RealPairsUptoSaid : Prop := realPairsUptoRow.holds Try.pinned (OpenSpec.upto realPairsSpec)

/-- 'gridworklaw01.RealKnown', WHERE WHAT IT READS IS OF BULK AT MOST 1048576: true; the input reads as it did. -/
def realKnownUptoRow : OpenClaim := { program := "ytbajeonhiaaclaa", sum := "a0c17754e96979bbd50c13fb87f11a9b73172ea7f26c1027fc2f5ea2d521ca0d", func := "gridwork/gridworklaw01.RealKnown", spec := "realKnown", inPlace := ["math.Float64frombits", "math.Float64bits", "math.FMA"], apart := false, narrowed := true }
def RealKnownUptoSaid : Prop := realKnownUptoRow.holds Try.pinned (OpenSpec.upto realKnownSpec)

end Rows
end Go.Proofs.Ytbajeonhiaaclaa
