/- Layer 10, the plain law of SolveScales, second part: the elimination's bounds; Ldexp is exact; both solutions. -/
import Derived.Test.YtglmmidhkpomgaaGreatScC
import Derived.Test.YtglmmidhkpomgaaGreatLdA
import Derived.Test.YtglmmidhkpomgaaGreatT19
namespace Go.Proofs.YtglmmidhkpomgaaGreat
open Go.RowKit Fl Ieee
set_option maxRecDepth 20000
end Go.Proofs.YtglmmidhkpomgaaGreat
