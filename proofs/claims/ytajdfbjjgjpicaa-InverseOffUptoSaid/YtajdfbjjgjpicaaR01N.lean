/- Layer 1: the neighbours of a real. -/
import Derived.Test.YtajdfbjjgjpicaaR01
namespace Go.Proofs.Ytajdfbjjgjpicaa
open Go.RowKit Fl Ieee
set_option maxRecDepth 20000
end Go.Proofs.Ytajdfbjjgjpicaa
