/- Layer 7, the document's answer: sums and differences. -/
import Derived.Test.YtandllekeimpgaaGreatRM1
import Derived.Test.YtandllekeimpgaaGreatMX1
import Derived.Test.YtandllekeimpgaaGreatFlA
namespace Go.Proofs.YtandllekeimpgaaGreat
open Go.RowKit Fl Ieee
set_option maxRecDepth 20000
attribute [local go_sem] run_store_float run_store_complex
end Go.Proofs.YtandllekeimpgaaGreat
namespace Go.Proofs.YtandllekeimpgaaGreat
open Go.RowKit Fl Ieee
set_option maxRecDepth 20000
attribute [local go_sem] run_store_float run_store_complex
end Go.Proofs.YtandllekeimpgaaGreat
namespace Go.Proofs.YtandllekeimpgaaGreat
open Go.RowKit Fl Ieee
theorem ltC_mul (a b : C) : ltC (pMul a b) := ⟨fsub_lt _ _, fadd_lt _ _⟩
theorem ltC_conj {a : C} (h : ltC a) : ltC (pConj a) := ⟨h.1, fneg_lt h.2⟩
end Go.Proofs.YtandllekeimpgaaGreat
namespace Go.Proofs.YtandllekeimpgaaGreat
open Go.RowKit Fl Ieee
set_option maxRecDepth 20000
attribute [local go_sem] run_store_float run_store_complex Fl.order_self Fl.order_self' Fl.order_eq Fl.order_ne Fl.order_lt Fl.order_gt
/-- What a caller hands in: a matrix that lies in memory. -/
structure Lies (w : World) (A : Option Addr) (l : List C) (cap : Nat) : Prop where
  reads : Reads w w.heap.size A (nums l)
  none : A = none → cap = 0
  fits : l.length ≤ cap
  lt : ltCs l
theorem Lies.has {w W : World} {A : Option Addr} {l : List C} {cap b : Nat} {r c : Int} (h : Lies w A l cap) (hb : Below w.heap.size w W) (hx : Box W b r c (.slice A l.length cap)) (hl : b < W.heap.size) : Has W b r c A l cap :=
  ⟨hx, hl, (h.reads.below hb).more hb.size, h.none, h.fits⟩
end Go.Proofs.YtandllekeimpgaaGreat
