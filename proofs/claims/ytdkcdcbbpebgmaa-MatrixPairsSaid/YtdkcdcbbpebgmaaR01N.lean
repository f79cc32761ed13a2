/- Layer 1: the neighbours of a real. -/
import Derived.Test.YtdkcdcbbpebgmaaR01
namespace Go.Proofs.Ytdkcdcbbpebgmaa
open Go.RowKit Fl Ieee
set_option maxRecDepth 20000
end Go.Proofs.Ytdkcdcbbpebgmaa
