/- Layer 2's small closed call, and what the laws need. -/
import Derived.Test.YtandllekeimpgaaExt
namespace Go.Proofs.Ytandllekeimpgaa
open Go.RowKit Fl Ieee
set_option maxRecDepth 20000
attribute [local go_sem] Fl.order_self Fl.order_self' Fl.order_eq Fl.order_ne Fl.order_lt Fl.order_gt Fl.fle_fold Fl.fge_fold
theorem feq_of02 {x c : Nat} (h : cn .f64 x = c) (hn : isNaN double c = false) : feq .f64 x c = true := by
  have h1 : isNaN double x = false := by rw [← h] at hn; exact (isNaN_cn64 x).symm.trans hn
  rw [cn_of_not (k := .f64) h1] at h
  rw [← h, feq_self]
  have h2 : isNaN FloatKind.f64.format x = false := h1
  rw [h2]; rfl
end Go.Proofs.Ytandllekeimpgaa
