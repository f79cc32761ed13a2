/- Contracts of layer 2, and the reference's, second half: what is asked, sizes, roots. -/
import Derived.Test.YtajdfbjjgjpicaaParts
import Derived.Test.YtajdfbjjgjpicaaFlN
import Derived.Deep.QuietTactic
import Derived.BigQuiet
namespace Go.Proofs.Ytajdfbjjgjpicaa
open Go.RowKit Fl Ieee
set_option maxRecDepth 20000
attribute [local go_sem] x_f64frombits
attribute [local go_sem] x_f64bits
attribute [local go_sem] Fl.order_self Fl.order_self' Fl.order_eq Fl.order_ne Fl.order_lt Fl.order_gt Fl.fle_fold Fl.fge_fold Fl.u64_clear Fl.u64_sign Fl.u64_flip Fl.u64_or_sign Fl.u32_clear Fl.negFloat_flip
def RetNum (a b : Nat) (w : World) (e : Ending) (w' : World) : Prop :=
  ∃ n, e = .returned (.complex .f64 a b) ∧ w' = (w.alloc (.cells #[.int .u64 a, .int .u64 b] 63)).drewN n
theorem Number_c (a b : Nat) (w : World) :
    Calls Try.prog 28 #[.agg #[.int .u64 a, .int .u64 b]] w (RetNum a b w) := by
  go_enter Try.func28, Try.ntmps28
  go_wp2
  go_quiet (fail)
  go_wp2
  go_ret; exact ⟨_, rfl, rfl⟩
theorem Zero_c (a b : Nat) (w : World) :
    Calls Try.prog 118 #[.complex .f64 a b] w fun e w' => e = .returned (.bool (pZero (cn .f64 a, cn .f64 b))) ∧ w = w' := by
  have e : pZero (cn .f64 a, cn .f64 b) = (feq .f64 a 0 && feq .f64 b 0) := by
    unfold pZero
    have h1 := feq_cn .f64 a 0
    have h2 := feq_cn .f64 b 0
    have h0 : cn .f64 0 = 0 := cn_of_not (isNaN_zero .f64)
    rw [h0] at h1 h2
    rw [h1, h2]
  rw [e]; clear e
  cases hd : feq .f64 a 0
  · go_enter Try.func118, Try.ntmps118
    go_wp2
    go_ret; exact ⟨ret_bool (by rfl), rfl⟩
  · go_enter Try.func118, Try.ntmps118
    go_wp2
    go_ret; exact ⟨ret_bool (by rfl), rfl⟩
theorem feq_cn0 (r : Nat) : feq .f64 r 0 = feq .f64 (cn .f64 r) 0 := by
  have h1 := feq_cn .f64 r 0
  have h0 : cn .f64 0 = 0 := cn_of_not (isNaN_zero .f64)
  rw [h0] at h1; exact h1.symm
theorem isNaN_cn64 (x : Nat) : isNaN double (cn .f64 x) = isNaN double x := isNaN_cn .f64 x
theorem pZero_cn (a b : Nat) : pZero (cn .f64 a, cn .f64 b) = (feq .f64 a 0 && feq .f64 b 0) := by
  unfold pZero
  rw [← feq_cn0, ← feq_cn0]
theorem cn0 : cn .f64 0 = 0 := cn_of_not (isNaN_zero .f64)
theorem cn2 : cn .f64 4611686018427387904 = ftwo := by decide
theorem fle_cn0 (r : Nat) : fle .f64 0 (cn .f64 r) = fle .f64 0 r := by
  have h1 := fle_cn .f64 0 r
  rw [cn0] at h1; exact h1
theorem fin_of_sub {a r : Nat} (ha : a < 18446744073709551616) (h : IsOp .sub .f64 a a r) : feq .f64 r 0 = isFin double a := by
  rw [feq_cn0, h.1, fop_cn, sub_self_eq a ha]
theorem Finite_c (a b : Nat) (ha : a < 18446744073709551616) (hb : b < 18446744073709551616) (w : World) :
    Calls Try.prog 80 #[.complex .f64 a b] w (RetB (pFinite (cn .f64 a, cn .f64 b)) w) := by
  have e : pFinite (cn .f64 a, cn .f64 b) = (isFin double a && isFin double b) := by
    unfold pFinite
    have h1 := isFin_cn .f64 a
    have h2 := isFin_cn .f64 b
    exact congr (congrArg and h1) h2
  rw [e]; clear e
  cases hd : isFin double a
  · go_enter Try.func80, Try.ntmps80
    go_wp2_with fail
    refine upon_sub _ _ _ _ ?_
    intro r1 n1 h1
    have f1 : feq .f64 r1 0 = false := (fin_of_sub ha h1).trans hd
    go_wp2
    go_ret; exact closeB rfl
  · go_enter Try.func80, Try.ntmps80
    go_wp2_with fail
    refine upon_sub _ _ _ _ ?_
    intro r1 n1 h1
    have f1 : feq .f64 r1 0 = true := (fin_of_sub ha h1).trans hd
    go_wp2_with fail
    refine upon_sub _ _ _ _ ?_
    intro r2 n2 h2
    have f2 : feq .f64 r2 0 = isFin double b := fin_of_sub hb h2
    go_wp2
    go_ret; exact closeB rfl
end Go.Proofs.Ytajdfbjjgjpicaa
