/-
  No cell of these rows narrows 'for every input' (looked for: loops, veiled, ifaces, maps, wideKeys, modest, calm, conditions, laid).
  DERIVED. THE GIVEN ROWS OF THIS SEAT. 5 by the template 'for every input the law returns true; each argument reads behind the call as it read before'; 0 by the template 'total and deterministic' (their statements: YtbhjhlobmhpjfaaTotals.lean).
  GIVEN WITH THE SEED: the statements are not yours to turn. If you find one false, say at which input.
  Laid BY PROGRAM, IN A SANDBOX (cutbox-rows.mjs): the forced cells as the released guide's own fill.sh prints them over the translation 8ce21a95e164ebd9… (all of the seat's roots in one cut). By AI agents, Wed Nov 11 2026. No macro, syntax, notation, axiom, sorry.
-/
import Derived.Test.YtbhjhlobmhpjfaaChecked
import GoSem.Claim
import GoSem.ClaimJoined
import GoSem.ClaimMapViews
import Derived.JoinedTies
import Derived.KernelRfl
namespace Go.Proofs.Ytbhjhlobmhpjfaa
/- THE CELL 'sum', in the pinned program and in every row, IS THE sha256 OF THE DUMP (.gsa) THAT YtbhjhlobmhpjfaaProg.lean LOADS. Nothing in Lean hashes anything: it is a label: what it is worth is what the hold of that sum in a sandbox is worth. -/
noncomputable def Try.pinned : Pinned := { name := "ytbhjhlobmhpjfaa", sum := "8ce21a95e164ebd9f68a7225bdb313e2fac79268baca3c08bcbcd11e66ecd906", checked := Try.checked }
namespace Rows
def none {H : Type} : Left H := { results := [], args := [] }

/-- 'gridworklaw04.TurnsRoots': WHATEVER THE INPUT: true; the input reads as it did. -/
def turnsRootsSpec : ChangeSpec := { name := "turnsRoots", fn := fun _ => fun
  | [d1, d2, d3] => { results := [.lit (.bool true)], args := [d1, d2, d3] }
  | _ => none }
def turnsRootsRow : OpenClaim := { program := "ytbhjhlobmhpjfaa", sum := "8ce21a95e164ebd9f68a7225bdb313e2fac79268baca3c08bcbcd11e66ecd906", func := "gridwork/gridworklaw04.TurnsRoots", spec := "turnsRoots", inPlace := ["math.Float64frombits", "math.Float64bits"], apart := false }
def TurnsRootsSaid : Prop := turnsRootsRow.holds Try.pinned (OpenSpec.ofChange turnsRootsSpec)

/-- ITS FALSE NEIGHBOUR: 'it returns false'. Refute it at one input. -/
def turnsRootsWrong : ChangeSpec := { name := "turnsRoots", fn := fun _ => fun
  | [d1, d2, d3] => { results := [.lit (.bool false)], args := [d1, d2, d3] }
  | _ => none }
def TurnsRootsWrongFalsely : Prop := turnsRootsRow.holds Try.pinned (OpenSpec.ofChange turnsRootsWrong)

/-- 'gridworklaw04.TurnsAngles': WHATEVER THE INPUT: true; the input reads as it did. -/
def turnsAnglesSpec : ChangeSpec := { name := "turnsAngles", fn := fun _ => fun
  | [d] => { results := [.lit (.bool true)], args := [d] }
  | _ => none }
def turnsAnglesRow : OpenClaim := { program := "ytbhjhlobmhpjfaa", sum := "8ce21a95e164ebd9f68a7225bdb313e2fac79268baca3c08bcbcd11e66ecd906", func := "gridwork/gridworklaw04.TurnsAngles", spec := "turnsAngles", inPlace := ["math.Float64frombits", "math.Float64bits", "math.sqrt"], apart := false }
def TurnsAnglesSaid : Prop := turnsAnglesRow.holds Try.pinned (OpenSpec.ofChange turnsAnglesSpec)

/-- ITS FALSE NEIGHBOUR: 'it returns false'. Refute it at one input. -/
def turnsAnglesWrong : ChangeSpec := { name := "turnsAngles", fn := fun _ => fun
  | [d] => { results := [.lit (.bool false)], args := [d] }
  | _ => none }
def TurnsAnglesWrongFalsely : Prop := turnsAnglesRow.holds Try.pinned (OpenSpec.ofChange turnsAnglesWrong)

/-- 'gridworklaw04.TurnsCircle': WHATEVER THE INPUT: true; the input reads as it did. -/
def turnsCircleSpec : ChangeSpec := { name := "turnsCircle", fn := fun _ => fun
  | [d] => { results := [.lit (.bool true)], args := [d] }
  | _ => none }
def turnsCircleRow : OpenClaim := { program := "ytbhjhlobmhpjfaa", sum := "8ce21a95e164ebd9f68a7225bdb313e2fac79268baca3c08bcbcd11e66ecd906", func := "gridwork/gridworklaw04.TurnsCircle", spec := "turnsCircle", inPlace := ["math.Float64frombits", "math.Float64bits", "math.sqrt"], apart := false }
def TurnsCircleSaid : Prop := turnsCircleRow.holds Try.pinned (OpenSpec.ofChange turnsCircleSpec)

/-- ITS FALSE NEIGHBOUR: 'it returns false'. Refute it at one input. -/
def turnsCircleWrong : ChangeSpec := { name := "turnsCircle", fn := fun _ => fun
  | [d] => { results := [.lit (.bool false)], args := [d] }
  | _ => none }
def TurnsCircleWrongFalsely : Prop := turnsCircleRow.holds Try.pinned (OpenSpec.ofChange turnsCircleWrong)

/-- 'gridworklaw04.TurnsKnown': WHATEVER THE INPUT: true; the input reads as it did. -/
def turnsKnownSpec : ChangeSpec := { name := "turnsKnown", fn := fun _ => fun
  | [] => { results := [.lit (.bool true)], args := [] }
  | _ => none }
def turnsKnownRow : OpenClaim := { program := "ytbhjhlobmhpjfaa", sum := "8ce21a95e164ebd9f68a7225bdb313e2fac79268baca3c08bcbcd11e66ecd906", func := "gridwork/gridworklaw04.TurnsKnown", spec := "turnsKnown", inPlace := ["math.Float64frombits", "math.Float64bits", "math.sqrt"], apart := false }
def TurnsKnownSaid : Prop := turnsKnownRow.holds Try.pinned (OpenSpec.ofChange turnsKnownSpec)

/-- ITS FALSE NEIGHBOUR: 'it returns false'. Refute it at one input. -/
def turnsKnownWrong : ChangeSpec := { name := "turnsKnown", fn := fun _ => fun
  | [] => { results := [.lit (.bool false)], args := [] }
  | _ => none }
def TurnsKnownWrongFalsely : Prop := turnsKnownRow.holds Try.pinned (OpenSpec.ofChange turnsKnownWrong)

/-- 'gridworklaw04.TurnsScale': WHATEVER THE INPUT: true; the input reads as it did. -/
def turnsScaleSpec : ChangeSpec := { name := "turnsScale", fn := fun _ => fun
  | [d1, d2] => { results := [.lit (.bool true)], args := [d1, d2] }
  | _ => none }
def turnsScaleRow : OpenClaim := { program := "ytbhjhlobmhpjfaa", sum := "8ce21a95e164ebd9f68a7225bdb313e2fac79268baca3c08bcbcd11e66ecd906", func := "gridwork/gridworklaw04.TurnsScale", spec := "turnsScale", inPlace := ["math.Float64frombits", "math.Float64bits", "math.sqrt"], apart := false }
def TurnsScaleSaid : Prop := turnsScaleRow.holds Try.pinned (OpenSpec.ofChange turnsScaleSpec)

/-- ITS FALSE NEIGHBOUR: 'it returns false'. Refute it at one input. -/
def turnsScaleWrong : ChangeSpec := { name := "turnsScale", fn := fun _ => fun
  | [d1, d2] => { results := [.lit (.bool false)], args := [d1, d2] }
  | _ => none }
def TurnsScaleWrongFalsely : Prop := turnsScaleRow.holds Try.pinned (OpenSpec.ofChange turnsScaleWrong)

/- THE SECOND FORM. 'bulk': how many values and letters a reading holds, each counted each time it is reached (what is shared counts as often as it is met; a slice's spare places count too). A statement '..UptoSaid' is the law's where the arguments, and the package variables that the reading takes, are together of bulk at most 1048576: NARROWER than '..Said'. Prove '..Said' where nothing that the law and all that it calls make is longer than what came in: it says more and counts as full. Else prove '..UptoSaid'. A law counts once. -/
mutual
def uptoBulk {H : Type} : DataW H → Nat
  | .lit (.string bytes) => bytes.length + 1
  | .lit _ => 1
  | .nil => 1
  | .ptr d => uptoBulk d + 1
  | .slice elems spare => uptoBulkAll elems + uptoBulkAll spare + 1
  | .agg parts => uptoBulkAll parts + 1
  | .iface _ d => uptoBulk d + 1
  | .map entries => uptoBulkEntries entries + 1
  | .held _ => 1
def uptoBulkAll {H : Type} : List (DataW H) → Nat
  | [] => 0
  | d :: r => uptoBulk d + uptoBulkAll r
def uptoBulkEntries {H : Type} : List (Lit × DataW H) → Nat
  | [] => 0
  | x :: r => uptoBulkEntry x + uptoBulkEntries r
def uptoBulkEntry {H : Type} : Lit × DataW H → Nat
  | (.string bytes, d) => bytes.length + uptoBulk d + 1
  | (_, d) => uptoBulk d + 1
 end
def uptoSmall : (H : Type) → List (DataW H) → Bool := fun _ ds => decide (uptoBulkAll ds ≤ 1048576)
def OpenSpec.upto (s : _root_.Go.ChangeSpec) : _root_.Go.OpenSpec := { _root_.Go.OpenSpec.ofChange s with cond := some uptoSmall }

/-- 'gridworklaw04.TurnsRoots', WHERE WHAT IT READS IS OF BULK AT MOST 1048576: true; the input reads as it did. -/
def turnsRootsUptoRow : OpenClaim := { program := "ytbhjhlobmhpjfaa", sum := "8ce21a95e164ebd9f68a7225bdb313e2fac79268baca3c08bcbcd11e66ecd906", func := "gridwork/gridworklaw04.TurnsRoots", spec := "turnsRoots", inPlace := ["math.Float64frombits", "math.Float64bits"], apart := false, narrowed := true }
def TurnsRootsUptoSaid : Prop := turnsRootsUptoRow.holds Try.pinned (OpenSpec.upto turnsRootsSpec)

/-- 'gridworklaw04.TurnsAngles', WHERE WHAT IT READS IS OF BULK AT MOST 1048576: true; the input reads as it did. -/
def turnsAnglesUptoRow : OpenClaim := { program := "ytbhjhlobmhpjfaa", sum := "8ce21a95e164ebd9f68a7225bdb313e2fac79268baca3c08bcbcd11e66ecd906", func := "gridwork/gridworklaw04.TurnsAngles", spec := "turnsAngles", inPlace := ["math.Float64frombits", "math.Float64bits", "math.sqrt"], apart := false, narrowed := true }
def TurnsAnglesUptoSaid : Prop := turnsAnglesUptoRow.holds Try.pinned (OpenSpec.upto turnsAnglesSpec)

/-- 'gridworklaw04.TurnsCircle', WHERE WHAT IT READS IS OF BULK AT MOST 1048576: true; the input reads as it did. -/
def turnsCircleUptoRow : OpenClaim := { program := "ytbhjhlobmhpjfaa", sum := "8ce21a95e164ebd9f68a7225bdb313e2fac79268baca3c08bcbcd11e66ecd906", func := "gridwork/gridworklaw04.TurnsCircle", spec := "turnsCircle", inPlace := ["math.Float64frombits", "math.Float64bits", "math.sqrt"], apart := false, narrowed := true }
def TurnsCircleUptoSaid : Prop := turnsCircleUptoRow.holds Try.pinned (OpenSpec.upto turnsCircleSpec)

/-- 'gridworklaw04.TurnsKnown', WHERE WHAT IT READS IS OF BULK AT MOST 1048576: true; the input reads as it did. -/
def turnsKnownUptoRow : OpenClaim := { program := "ytbhjhlobmhpjfaa", sum := "8ce21a95e164ebd9f68a7225bdb313e2fac79268baca3c08bcbcd11e66ecd906", func := "gridwork/gridworklaw04.TurnsKnown", spec := "turnsKnown", inPlace := ["math.Float64frombits", "math.Float64bits", "math.sqrt"], apart := false, narrowed := true }
def TurnsKnownUptoSaid : Prop := turnsKnownUptoRow.holds Try.pinned (OpenSpec.upto turnsKnownSpec)

/-- 'gridworklaw04.TurnsScale', WHERE WHAT IT READS IS OF BULK AT MOST 1048576: true; the input reads as it did. -/
def turnsScaleUptoRow : OpenClaim := { program := "ytbhjhlobmhpjfaa", sum := "8ce21a95e164ebd9f68a7225bdb313e2fac79268baca3c08bcbcd11e66ecd906", func := "gridwork/gridworklaw04.TurnsScale", spec := "turnsScale", inPlace := ["math.Float64frombits", "math.Float64bits", "math.sqrt"], apart := false, narrowed := true }
def TurnsScaleUptoSaid : Prop := turnsScaleUptoRow.holds Try.pinned (OpenSpec.upto turnsScaleSpec)

end Rows
end Go.Proofs.Ytbhjhlobmhpjfaa
