/-
  No cell of these rows narrows 'for every input' (looked for: loops, veiled, ifaces, maps, wideKeys, modest, calm, conditions, laid).
  DERIVED. THE GIVEN ROWS OF THIS SEAT. 7 by the template 'for every input the law returns true; each argument reads behind the call as it read before'; 0 by the template 'total and deterministic' (their statements: YtmbjaadhkhhaeaaTotals.lean).
  GIVEN WITH THE SEED: the statements are not yours to turn. If you find one false, say at which input.
  Laid BY PROGRAM, IN A SANDBOX (cutbox-rows.mjs): the forced cells as the released guide's own fill.sh prints them over the translation 354a0c68a5bce0dc… (all of the seat's roots in one cut). By AI agents, Wed Nov 11 2026. No macro, syntax, notation, axiom, sorry.
-/
import Derived.Test.YtmbjaadhkhhaeaaChecked
import GoSem.Claim
import GoSem.ClaimJoined
import GoSem.ClaimMapViews
import Derived.JoinedTies
import Derived.KernelRfl
namespace Go.Proofs.Ytmbjaadhkhhaeaa
/- THE CELL 'sum', in the pinned program and in every row, IS THE sha256 OF THE DUMP (.gsa) THAT YtmbjaadhkhhaeaaProg.lean LOADS. Nothing in Lean hashes anything: it is a label: what it is worth is what the hold of that sum in a sandbox is worth. -/
noncomputable def Try.pinned : Pinned := { name := "ytmbjaadhkhhaeaa", sum := "354a0c68a5bce0dc559e29a557cbf9c59830d49108f8e3a07201e100e7f6e2c6", checked := Try.checked }
namespace Rows
def none {H : Type} : Left H := { results := [], args := [] }

/-- 'gridworklaw03.NarrowBits': WHATEVER THE INPUT: true; the input reads as it did. -/
def narrowBitsSpec : ChangeSpec := { name := "narrowBits", fn := fun _ => fun
  | [d] => { results := [.lit (.bool true)], args := [d] }
  | _ => none }
def narrowBitsRow : OpenClaim := { program := "ytmbjaadhkhhaeaa", sum := "354a0c68a5bce0dc559e29a557cbf9c59830d49108f8e3a07201e100e7f6e2c6", func := "gridwork/gridworklaw03.NarrowBits", spec := "narrowBits", inPlace := ["math.Float32frombits", "math.Float32bits"], apart := false }
def NarrowBitsSaid : Prop := narrowBitsRow.holds Try.pinned (OpenSpec.ofChange narrowBitsSpec)

/-- ITS FALSE NEIGHBOUR: 'it returns false'. Refute it at one input. -/
def narrowBitsWrong : ChangeSpec := { name := "narrowBits", fn := fun _ => fun
  | [d] => { results := [.lit (.bool false)], args := [d] }
  | _ => none }
def NarrowBitsWrongFalsely : Prop := narrowBitsRow.holds Try.pinned (OpenSpec.ofChange narrowBitsWrong)

/-- 'gridworklaw03.NarrowTakes': WHATEVER THE INPUT: true; the input reads as it did. -/
def narrowTakesSpec : ChangeSpec := { name := "narrowTakes", fn := fun _ => fun
  | [d] => { results := [.lit (.bool true)], args := [d] }
  | _ => none }
def narrowTakesRow : OpenClaim := { program := "ytmbjaadhkhhaeaa", sum := "354a0c68a5bce0dc559e29a557cbf9c59830d49108f8e3a07201e100e7f6e2c6", func := "gridwork/gridworklaw03.NarrowTakes", spec := "narrowTakes", inPlace := ["math.Float64frombits", "math.Float32bits", "math.Float64bits"], apart := false }
def NarrowTakesSaid : Prop := narrowTakesRow.holds Try.pinned (OpenSpec.ofChange narrowTakesSpec)

/-- ITS FALSE NEIGHBOUR: 'it returns false'. Refute it at one input. -/
def narrowTakesWrong : ChangeSpec := { name := "narrowTakes", fn := fun _ => fun
  | [d] => { results := [.lit (.bool false)], args := [d] }
  | _ => none }
def NarrowTakesWrongFalsely : Prop := narrowTakesRow.holds Try.pinned (OpenSpec.ofChange narrowTakesWrong)

/-- 'gridworklaw03.NarrowNeighbours': WHATEVER THE INPUT: true; the input reads as it did. -/
def narrowNeighboursSpec : ChangeSpec := { name := "narrowNeighbours", fn := fun _ => fun
  | [d] => { results := [.lit (.bool true)], args := [d] }
  | _ => none }
def narrowNeighboursRow : OpenClaim := { program := "ytmbjaadhkhhaeaa", sum := "354a0c68a5bce0dc559e29a557cbf9c59830d49108f8e3a07201e100e7f6e2c6", func := "gridwork/gridworklaw03.NarrowNeighbours", spec := "narrowNeighbours", inPlace := ["math.Float32frombits", "math.Float32bits", "math.Float64bits", "math.Float64frombits"], apart := false }
def NarrowNeighboursSaid : Prop := narrowNeighboursRow.holds Try.pinned (OpenSpec.ofChange narrowNeighboursSpec)

/-- ITS FALSE NEIGHBOUR: 'it returns false'. Refute it at one input. -/
def narrowNeighboursWrong : ChangeSpec := { name := "narrowNeighbours", fn := fun _ => fun
  | [d] => { results := [.lit (.bool false)], args := [d] }
  | _ => none }
def NarrowNeighboursWrongFalsely : Prop := narrowNeighboursRow.holds Try.pinned (OpenSpec.ofChange narrowNeighboursWrong)

/-- 'gridworklaw03.NarrowReckons': WHATEVER THE INPUT: true; the input reads as it did. -/
def narrowReckonsSpec : ChangeSpec := { name := "narrowReckons", fn := fun _ => fun
  | [d1, d2] => { results := [.lit (.bool true)], args := [d1, d2] }
  | _ => none }
def narrowReckonsRow : OpenClaim := { program := "ytmbjaadhkhhaeaa", sum := "354a0c68a5bce0dc559e29a557cbf9c59830d49108f8e3a07201e100e7f6e2c6", func := "gridwork/gridworklaw03.NarrowReckons", spec := "narrowReckons", inPlace := ["math.Float32frombits", "math.Float32bits", "math.Float64frombits", "math.sqrt", "math.Float64bits"], apart := false }
def NarrowReckonsSaid : Prop := narrowReckonsRow.holds Try.pinned (OpenSpec.ofChange narrowReckonsSpec)

/-- ITS FALSE NEIGHBOUR: 'it returns false'. Refute it at one input. -/
def narrowReckonsWrong : ChangeSpec := { name := "narrowReckons", fn := fun _ => fun
  | [d1, d2] => { results := [.lit (.bool false)], args := [d1, d2] }
  | _ => none }
def NarrowReckonsWrongFalsely : Prop := narrowReckonsRow.holds Try.pinned (OpenSpec.ofChange narrowReckonsWrong)

/-- 'gridworklaw03.NarrowSteps': WHATEVER THE INPUT: true; the input reads as it did. -/
def narrowStepsSpec : ChangeSpec := { name := "narrowSteps", fn := fun _ => fun
  | [d] => { results := [.lit (.bool true)], args := [d] }
  | _ => none }
def narrowStepsRow : OpenClaim := { program := "ytmbjaadhkhhaeaa", sum := "354a0c68a5bce0dc559e29a557cbf9c59830d49108f8e3a07201e100e7f6e2c6", func := "gridwork/gridworklaw03.NarrowSteps", spec := "narrowSteps", inPlace := ["math.Float32frombits", "math.Float32bits", "math.Float64bits", "math.Float64frombits", "math.sqrt"], apart := false }
def NarrowStepsSaid : Prop := narrowStepsRow.holds Try.pinned (OpenSpec.ofChange narrowStepsSpec)

/-- ITS FALSE NEIGHBOUR: 'it returns false'. Refute it at one input. -/
def narrowStepsWrong : ChangeSpec := { name := "narrowSteps", fn := fun _ => fun
  | [d] => { results := [.lit (.bool false)], args := [d] }
  | _ => none }
def NarrowStepsWrongFalsely : Prop := narrowStepsRow.holds Try.pinned (OpenSpec.ofChange narrowStepsWrong)

/-- 'gridworklaw03.NarrowBack': WHATEVER THE INPUT: true; the input reads as it did. -/
def narrowBackSpec : ChangeSpec := { name := "narrowBack", fn := fun _ => fun
  | [d1, d2, d3] => { results := [.lit (.bool true)], args := [d1, d2, d3] }
  | _ => none }
def narrowBackRow : OpenClaim := { program := "ytmbjaadhkhhaeaa", sum := "354a0c68a5bce0dc559e29a557cbf9c59830d49108f8e3a07201e100e7f6e2c6", func := "gridwork/gridworklaw03.NarrowBack", spec := "narrowBack", inPlace := ["math.Float32frombits", "math.Float64bits", "math.Float64frombits", "math.Float32bits", "math.sqrt"], apart := false }
def NarrowBackSaid : Prop := narrowBackRow.holds Try.pinned (OpenSpec.ofChange narrowBackSpec)

/-- ITS FALSE NEIGHBOUR: 'it returns false'. Refute it at one input. -/
def narrowBackWrong : ChangeSpec := { name := "narrowBack", fn := fun _ => fun
  | [d1, d2, d3] => { results := [.lit (.bool false)], args := [d1, d2, d3] }
  | _ => none }
def NarrowBackWrongFalsely : Prop := narrowBackRow.holds Try.pinned (OpenSpec.ofChange narrowBackWrong)

/-- 'gridworklaw03.NarrowNames': WHATEVER THE INPUT: true; the input reads as it did. -/
def narrowNamesSpec : ChangeSpec := { name := "narrowNames", fn := fun _ => fun
  | [] => { results := [.lit (.bool true)], args := [] }
  | _ => none }
def narrowNamesRow : OpenClaim := { program := "ytmbjaadhkhhaeaa", sum := "354a0c68a5bce0dc559e29a557cbf9c59830d49108f8e3a07201e100e7f6e2c6", func := "gridwork/gridworklaw03.NarrowNames", spec := "narrowNames", inPlace := ["math.Float64frombits", "math.Float64bits", "math.Float32bits", "math.Float32frombits", "math.sqrt"], apart := false }
def NarrowNamesSaid : Prop := narrowNamesRow.holds Try.pinned (OpenSpec.ofChange narrowNamesSpec)

/-- ITS FALSE NEIGHBOUR: 'it returns false'. Refute it at one input. -/
def narrowNamesWrong : ChangeSpec := { name := "narrowNames", fn := fun _ => fun
  | [] => { results := [.lit (.bool false)], args := [] }
  | _ => none }
def NarrowNamesWrongFalsely : Prop := narrowNamesRow.holds Try.pinned (OpenSpec.ofChange narrowNamesWrong)

/- THE SECOND FORM. 'bulk': how many values and letters a reading holds, each counted each time it is reached (what is shared counts as often as it is met; a slice's spare places count too). A statement '..UptoSaid' is the law's where the arguments, and the package variables that the reading takes, are together of bulk at most 1048576: NARROWER than '..Said'. Prove '..Said' where nothing that the law and all that it calls make is longer than what came in: it says more and counts as full. Else prove '..UptoSaid'. A law counts once. -/
mutual
def uptoBulk {H : Type} : DataW H → Nat
  | .lit (.string bytes) => bytes.length + 1
  | .lit _ => 1
  | .nil => 1
  | .ptr d => uptoBulk d + 1
  | .slice elems spare => uptoBulkAll elems + uptoBulkAll spare + 1
  | .agg parts => uptoBulkAll parts + 1
  | .iface _ d => uptoBulk d + 1
  | .map entries => uptoBulkEntries entries + 1
  | .held _ => 1
def uptoBulkAll {H : Type} : List (DataW H) → Nat
  | [] => 0
  | d :: r => uptoBulk d + uptoBulkAll r
def uptoBulkEntries {H : Type} : List (Lit × DataW H) → Nat
  | [] => 0
  | x :: r => uptoBulkEntry x + uptoBulkEntries r
def uptoBulkEntry {H : Type} : Lit × DataW H → Nat
  | (.string bytes, d) => bytes.length + uptoBulk d + 1
  | (_, d) => uptoBulk d + 1
 end
def uptoSmall : (H : Type) → List (DataW H) → Bool := fun _ ds => decide (uptoBulkAll ds ≤ 1048576)
def OpenSpec.upto (s : _root_.Go.ChangeSpec) : _root_.Go.OpenSpec := { _root_.Go.OpenSpec.ofChange s with cond := some uptoSmall }

/-- 'gridworklaw03.NarrowBits', WHERE WHAT IT READS IS OF BULK AT MOST 1048576: true; the input reads as it did. -/
def narrowBitsUptoRow : OpenClaim := { program := "ytmbjaadhkhhaeaa", sum := "354a0c68a5bce0dc559e29a557cbf9c59830d49108f8e3a07201e100e7f6e2c6", func := "gridwork/gridworklaw03.NarrowBits", spec := "narrowBits", inPlace := ["math.Float32frombits", "math.Float32bits"], apart := false, narrowed := true }
def NarrowBitsUptoSaid : Prop := narrowBitsUptoRow.holds Try.pinned (OpenSpec.upto narrowBitsSpec)

/-- 'gridworklaw03.NarrowTakes', WHERE WHAT IT READS IS OF BULK AT MOST 1048576: true; the input reads as it did. -/
def narrowTakesUptoRow : OpenClaim := { program := "ytmbjaadhkhhaeaa", sum := "354a0c68a5bce0dc559e29a557cbf9c59830d49108f8e3a07201e100e7f6e2c6", func := "gridwork/gridworklaw03.NarrowTakes", spec := "narrowTakes", inPlace := ["math.Float64frombits", "math.Float32bits", "math.Float64bits"], apart := false, narrowed := true }
def NarrowTakesUptoSaid : Prop := narrowTakesUptoRow.holds Try.pinned (OpenSpec.upto narrowTakesSpec)

/-- 'gridworklaw03.NarrowNeighbours', WHERE WHAT IT READS IS OF BULK AT MOST 1048576: true; the input reads as it did. -/
def narrowNeighboursUptoRow : OpenClaim := { program := "ytmbjaadhkhhaeaa", sum := "354a0c68a5bce0dc559e29a557cbf9c59830d49108f8e3a07201e100e7f6e2c6", func := "gridwork/gridworklaw03.NarrowNeighbours", spec := "narrowNeighbours", inPlace := ["math.Float32frombits", "math.Float32bits", "math.Float64bits", "math.Float64frombits"], apart := false, narrowed := true }
def NarrowNeighboursUptoSaid : Prop := narrowNeighboursUptoRow.holds Try.pinned (OpenSpec.upto narrowNeighboursSpec)

/-- 'gridworklaw03.NarrowReckons', WHERE WHAT IT READS IS OF BULK AT MOST 1048576: true; the input reads as it did. -/
def narrowReckonsUptoRow : OpenClaim := { program := "ytmbjaadhkhhaeaa", sum := "354a0c68a5bce0dc559e29a557cbf9c59830d49108f8e3a07201e100e7f6e2c6", func := "gridwork/gridworklaw03.NarrowReckons", spec := "narrowReckons", inPlace := ["math.Float32frombits", "math.Float32bits", "math.Float64frombits", "math.sqrt", "math.Float64bits"], apart := false, narrowed := true }
def NarrowReckonsUptoSaid : Prop := narrowReckonsUptoRow.holds Try.pinned (OpenSpec.upto narrowReckonsSpec)

/-- 'gridworklaw03.NarrowSteps', WHERE WHAT IT READS IS OF BULK AT MOST 1048576: true; the input reads as it did. -/
def narrowStepsUptoRow : OpenClaim := { program := "ytmbjaadhkhhaeaa", sum := "354a0c68a5bce0dc559e29a557cbf9c59830d49108f8e3a07201e100e7f6e2c6", func := "gridwork/gridworklaw03.NarrowSteps", spec := "narrowSteps", inPlace := ["math.Float32frombits", "math.Float32bits", "math.Float64bits", "math.Float64frombits", "math.sqrt"], apart := false, narrowed := true }
def NarrowStepsUptoSaid : Prop := narrowStepsUptoRow.holds Try.pinned (OpenSpec.upto narrowStepsSpec)

/-- 'gridworklaw03.NarrowBack', WHERE WHAT IT READS IS OF BULK AT MOST 1048576: true; the input reads as it did. -/
def narrowBackUptoRow : OpenClaim := { program := "ytmbjaadhkhhaeaa", sum := "354a0c68a5bce0dc559e29a557cbf9c59830d49108f8e3a07201e100e7f6e2c6", func := "gridwork/gridworklaw03.NarrowBack", spec := "narrowBack", inPlace := ["math.Float32frombits", "math.Float64bits", "math.Float64frombits", "math.Float32bits", "math.sqrt"], apart := false, narrowed := true }
def NarrowBackUptoSaid : Prop := narrowBackUptoRow.holds Try.pinned (OpenSpec.upto narrowBackSpec)

/-- 'gridworklaw03.NarrowNames', WHERE WHAT IT READS IS OF BULK AT MOST 1048576: true; the input reads as it did. -/
def narrowNamesUptoRow : OpenClaim := { program := "ytmbjaadhkhhaeaa", sum := "354a0c68a5bce0dc559e29a557cbf9c59830d49108f8e3a07201e100e7f6e2c6", func := "gridwork/gridworklaw03.NarrowNames", spec := "narrowNames", inPlace := ["math.Float64frombits", "math.Float64bits", "math.Float32bits", "math.Float32frombits", "math.sqrt"], apart := false, narrowed := true }
def NarrowNamesUptoSaid : Prop := narrowNamesUptoRow.holds Try.pinned (OpenSpec.upto narrowNamesSpec)

end Rows
end Go.Proofs.Ytmbjaadhkhhaeaa
