/- Layer 7: conjugates. -/
import Derived.Test.YtajdfbjjgjpicaaMX9
import Derived.Test.YtajdfbjjgjpicaaMX10
namespace Go.Proofs.Ytajdfbjjgjpicaa
open Go.RowKit Fl Ieee
set_option maxRecDepth 20000
attribute [local go_sem] run_store_float run_store_complex
end Go.Proofs.Ytajdfbjjgjpicaa
namespace Go.Proofs.Ytajdfbjjgjpicaa
open Go.RowKit Fl Ieee
set_option maxRecDepth 20000
attribute [local go_sem] run_store_float run_store_complex
end Go.Proofs.Ytajdfbjjgjpicaa
