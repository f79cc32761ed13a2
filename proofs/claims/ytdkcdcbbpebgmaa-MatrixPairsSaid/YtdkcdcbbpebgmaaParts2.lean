/- Contracts of layer 2, and the reference's, second half: what is asked, sizes, roots. -/
import Derived.Test.YtdkcdcbbpebgmaaParts
import Derived.Test.YtdkcdcbbpebgmaaFlN
import Derived.Deep.QuietTactic
import Derived.BigQuiet
namespace Go.Proofs.Ytdkcdcbbpebgmaa
open Go.RowKit Fl Ieee
set_option maxRecDepth 20000
attribute [local go_sem] x_f64frombits
attribute [local go_sem] x_f64bits
attribute [local go_sem] Fl.order_self Fl.order_self' Fl.order_eq Fl.order_ne Fl.order_lt Fl.order_gt Fl.fle_fold Fl.fge_fold Fl.u64_clear Fl.u64_sign Fl.u64_flip Fl.u64_or_sign Fl.u32_clear Fl.negFloat_flip
def RetNum (a b : Nat) (w : World) (e : Ending) (w' : World) : Prop :=
  ∃ n, e = .returned (.complex .f64 a b) ∧ w' = (w.alloc (.cells #[.int .u64 a, .int .u64 b] 72)).drewN n
theorem Number_c (a b : Nat) (w : World) :
    Calls Try.prog 61 #[.agg #[.int .u64 a, .int .u64 b]] w (RetNum a b w) := by
  go_enter Try.func61, Try.ntmps61
  go_wp2
  go_quiet (fail)
  go_wp2
  go_ret; exact ⟨_, rfl, rfl⟩
theorem Equal_c (a b c d : Nat) (w : World) :
    Calls Try.prog 89 #[.complex .f64 a b, .complex .f64 c d] w fun e w' => e = .returned (.bool (pEqual (cn .f64 a, cn .f64 b) (cn .f64 c, cn .f64 d))) ∧ w = w' := by
  unfold pEqual
  rw [feq_cn, feq_cn]
  cases hd : feq .f64 a c
  · go_enter Try.func89, Try.ntmps89
    go_wp2
    go_ret; exact ⟨ret_bool (by rfl), rfl⟩
  · go_enter Try.func89, Try.ntmps89
    go_wp2
    go_ret; exact ⟨ret_bool (by rfl), rfl⟩
theorem feq_cn0 (r : Nat) : feq .f64 r 0 = feq .f64 (cn .f64 r) 0 := by
  have h1 := feq_cn .f64 r 0
  have h0 : cn .f64 0 = 0 := cn_of_not (isNaN_zero .f64)
  rw [h0] at h1; exact h1.symm
theorem isNaN_cn64 (x : Nat) : isNaN double (cn .f64 x) = isNaN double x := isNaN_cn .f64 x
theorem pZero_cn (a b : Nat) : pZero (cn .f64 a, cn .f64 b) = (feq .f64 a 0 && feq .f64 b 0) := by
  unfold pZero
  rw [← feq_cn0, ← feq_cn0]
theorem cn0 : cn .f64 0 = 0 := cn_of_not (isNaN_zero .f64)
theorem cn2 : cn .f64 4611686018427387904 = ftwo := by decide
theorem fle_cn0 (r : Nat) : fle .f64 0 (cn .f64 r) = fle .f64 0 r := by
  have h1 := fle_cn .f64 0 r
  rw [cn0] at h1; exact h1
theorem fin_of_sub {a r : Nat} (ha : a < 18446744073709551616) (h : IsOp .sub .f64 a a r) : feq .f64 r 0 = isFin double a := by
  rw [feq_cn0, h.1, fop_cn, sub_self_eq a ha]
end Go.Proofs.Ytdkcdcbbpebgmaa
