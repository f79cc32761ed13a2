/- Layer 1: a product and its error. -/
import Derived.Test.YtandllekeimpgaaExt
import Derived.Test.YtandllekeimpgaaFlF
namespace Go.Proofs.Ytandllekeimpgaa
open Go.RowKit Fl Ieee
set_option maxRecDepth 20000
theorem x_fma (x y z : Nat) (w : World) : (callFunc 59 #[.float .f64 x, .float .f64 y, .float .f64 z]).run Try.prog w = ((Extern.MathFMA.fma #[.float .f64 x, .float .f64 y, .float .f64 z]).run Try.prog w).andThen fun v w' => .ok (.value v) w' :=
  run_callFunc_extern (e := Extern.MathFMA.fma) (P := Try.prog) (f := 59) Try.func59 (by kernel_rfl) (by kernel_rfl) (by kernel_rfl) (by kernel_rfl) _ w
/-- A product and its error, up to NaN. -/
def twoProd (a b : Nat) : Nat × Nat := (fmul a b, ffma a b (fneg (fmul a b)))
theorem TwoProd_c (a b : Nat) (w : World) :
    Calls Try.prog 37 #[.float .f64 a, .float .f64 b] w (RetRR (twoProd (cn .f64 a) (cn .f64 b)) w) := by
  go_enter Try.func37, Try.ntmps37
  go_wp2_with fail
  refine upon_mul _ _ _ _ ?_
  intro r1 n1 h1
  go_wp2_with fail
  refine upon_fma (x_fma _ _ _) ?_
  intro r2 n2 h2
  go_wp2
  go_ret2; exact closeRR h1.1 (by rw [h2.1, negFloat_flip, cn_flip h1.2, h1.1]; rfl) h1.2 h2.2
end Go.Proofs.Ytandllekeimpgaa
