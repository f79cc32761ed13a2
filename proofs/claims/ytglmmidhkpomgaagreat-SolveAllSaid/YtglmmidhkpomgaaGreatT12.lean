/- Layer 10: awake: the document's examples. -/
import Derived.Test.YtglmmidhkpomgaaGreatT11
namespace Go.Proofs.YtglmmidhkpomgaaGreat
open Go.RowKit Fl Ieee
set_option maxRecDepth 20000
attribute [local go_sem] run_store_float run_store_complex Fl.order_self Fl.order_self' Fl.order_eq Fl.order_ne Fl.order_lt Fl.order_gt
end Go.Proofs.YtglmmidhkpomgaaGreat
