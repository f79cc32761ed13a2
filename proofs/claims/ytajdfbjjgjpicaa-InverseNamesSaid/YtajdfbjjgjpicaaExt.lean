/- The library's functions without a body, and comparisons of floats, in the walk's form. -/
import Derived.Test.YtajdfbjjgjpicaaChecked
import Derived.Test.YtajdfbjjgjpicaaFlConv
import Derived.Test.YtajdfbjjgjpicaaFlBits
import Derived.Test.YtajdfbjjgjpicaaFlP
import Derived.Test.YtajdfbjjgjpicaaFlN
import Derived.Test.YtajdfbjjgjpicaaFlS
import Derived.KernelRfl
import Derived.Deep.QuietTactic
import Derived.BigQuiet
import Derived.Deep.RegionHeld3
namespace Go.Proofs.Ytajdfbjjgjpicaa
open Go.RowKit Fl Ieee
theorem grown_drewN (w : World) (n : Nat) : Grown w (w.drewN n) := by
  induction n with
  | zero => exact Grown.refl w
  | succ n ih =>
    have e : w.drewN (n + 1) = (w.drewN n).drew := rfl
    rw [e]; exact ih.drew
theorem grown_dn {W w : World} (h : Grown W w) (n : Nat) : Grown W (w.drewN n) := by
  induction n with
  | zero => exact h
  | succ n ih =>
    have e : w.drewN (n + 1) = (w.drewN n).drew := rfl
    rw [e]; exact ih.drew
theorem grown_ad (w : World) (cs : Array Value) (t : TypeId) (n : Nat) : Grown w ((w.alloc (.cells cs t)).drewN n) := by
  induction n with
  | zero => apply Grown.alloc; exact Grown.refl w
  | succ n ih =>
    have e : (w.alloc (.cells cs t)).drewN (n + 1) = ((w.alloc (.cells cs t)).drewN n).drew := rfl
    rw [e]; exact ih.drew
section
variable {P : Program} {w : World} {a : Addr} {m : Mode}
theorem run_store_float (k : FloatKind) (b : Nat) : (store a (.float k b) m).run P w = stored P w a (.float k b) m := run_store P w a _ m rfl
theorem run_store_complex (k : FloatKind) (b c : Nat) : (store a (.complex k b c) m).run P w = stored P w a (.complex k b c) m := run_store P w a _ m rfl
end
theorem x_f64frombits (n : Int) (w : World) : (callFunc 56 #[.int .u64 n]).run Try.prog w = .ok (.value (.float .f64 n.toNat)) w := by kernel_rfl
theorem x_f64bits (n : Nat) (w : World) : (callFunc 40 #[.float .f64 n]).run Try.prog w = .ok (.value (.int .u64 n)) w := by kernel_rfl
end Go.Proofs.Ytajdfbjjgjpicaa
