/- Layer 7: the identity, conjugates. -/
import Derived.Test.YtibjkmjccelcaaaMX6
namespace Go.Proofs.Ytibjkmjccelcaaa
open Go.RowKit Fl Ieee
set_option maxRecDepth 20000
attribute [local go_sem] run_store_float run_store_complex
/-- One on the diagonal. -/
def idE (i j : Nat) : C := if i = j then (fone, 0) else (0, 0)
end Go.Proofs.Ytibjkmjccelcaaa
