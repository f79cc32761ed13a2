/- Layer 1: sums, the greatest, lists that are the same. -/
import Derived.Test.YtdkcdcbbpebgmaaS01
namespace Go.Proofs.Ytdkcdcbbpebgmaa
open Go.RowKit Fl Ieee
set_option maxRecDepth 20000
attribute [local go_sem] Fl.order_self Fl.order_self' Fl.order_eq Fl.order_ne Fl.order_lt Fl.order_gt Fl.fle_fold Fl.fge_fold
end Go.Proofs.Ytdkcdcbbpebgmaa
