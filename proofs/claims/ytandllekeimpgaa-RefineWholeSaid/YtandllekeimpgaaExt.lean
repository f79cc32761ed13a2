/- The library's functions without a body, and comparisons of floats, in the walk's form. -/
import Derived.Test.YtandllekeimpgaaFlA
import Derived.Test.YtandllekeimpgaaChecked
import Derived.KernelRfl
import Derived.Deep.QuietTactic
import Derived.BigQuiet
import Derived.Deep.RegionHeld3
import Derived.Test.YtandllekeimpgaaRows
import Derived.ProofKit
import Derived.OpenShut
import Derived.Lib.SmallJoins
import Derived.WalkKit
import Derived.Maps.AppendAt
import Derived.Below
import Derived.Laws.OwnMore
import Derived.Deep.AppendLies
import Derived.Deep.Draws
import Derived.Lib.Hide
import Derived.ChangeSame
import Derived.ChangeVars
namespace Go.Proofs.Ytandllekeimpgaa
open Go.RowKit Fl Ieee
theorem grown_drewN (w : World) (n : Nat) : Grown w (w.drewN n) := by
  induction n with
  | zero => exact Grown.refl w
  | succ n ih =>
    have e : w.drewN (n + 1) = (w.drewN n).drew := rfl
    rw [e]; exact ih.drew
theorem grown_dn {W w : World} (h : Grown W w) (n : Nat) : Grown W (w.drewN n) := by
  induction n with
  | zero => exact h
  | succ n ih =>
    have e : w.drewN (n + 1) = (w.drewN n).drew := rfl
    rw [e]; exact ih.drew
theorem grown_ad (w : World) (cs : Array Value) (t : TypeId) (n : Nat) : Grown w ((w.alloc (.cells cs t)).drewN n) := by
  induction n with
  | zero => apply Grown.alloc; exact Grown.refl w
  | succ n ih =>
    have e : (w.alloc (.cells cs t)).drewN (n + 1) = ((w.alloc (.cells cs t)).drewN n).drew := rfl
    rw [e]; exact ih.drew
section
variable {P : Program} {w : World} {a : Addr} {m : Mode}
theorem run_store_float (k : FloatKind) (b : Nat) : (store a (.float k b) m).run P w = stored P w a (.float k b) m := run_store P w a _ m rfl
theorem run_store_complex (k : FloatKind) (b c : Nat) : (store a (.complex k b c) m).run P w = stored P w a (.complex k b c) m := run_store P w a _ m rfl
end
theorem x_f64frombits (n : Int) (w : World) : (callFunc 54 #[.int .u64 n]).run Try.prog w = .ok (.value (.float .f64 n.toNat)) w := by kernel_rfl
theorem x_f64bits (n : Nat) (w : World) : (callFunc 67 #[.float .f64 n]).run Try.prog w = .ok (.value (.int .u64 n)) w := by kernel_rfl
end Go.Proofs.Ytandllekeimpgaa
namespace Go.Proofs.Ytandllekeimpgaa
open Go.RowKit Fl Ieee
set_option maxRecDepth 20000
attribute [local go_sem] x_f64frombits
attribute [local go_sem] x_f64bits
attribute [local go_sem] Fl.order_self Fl.order_self' Fl.order_eq Fl.order_ne Fl.order_lt Fl.order_gt Fl.fle_fold Fl.fge_fold Fl.u64_clear Fl.u64_sign Fl.u64_flip Fl.u64_or_sign Fl.u32_clear Fl.negFloat_flip

/-- A complex number that is v up to NaN is handed back; the world is as it was but for draws. -/
def RetC (v : C) (w : World) (e : Ending) (w' : World) : Prop :=
  ∃ x y n, e = .returned (.complex .f64 x y) ∧ (cn .f64 x, cn .f64 y) = v ∧ x < 18446744073709551616 ∧ y < 18446744073709551616 ∧ w' = w.drewN n
def RetR (v : Nat) (w : World) (e : Ending) (w' : World) : Prop :=
  ∃ x n, e = .returned (.float .f64 x) ∧ cn .f64 x = v ∧ x < 18446744073709551616 ∧ w' = w.drewN n
def RetB (b : Bool) (w : World) (e : Ending) (w' : World) : Prop := ∃ n, e = .returned (.bool b) ∧ w' = w.drewN n
theorem closeC {v : C} {x y n : Nat} {w : World} (h1 : cn .f64 x = v.1) (h2 : cn .f64 y = v.2) (hx : x < 18446744073709551616) (hy : y < 18446744073709551616) :
    RetC v w (.returned (.complex .f64 x y)) (w.drewN n) := ⟨x, y, n, rfl, by rw [h1, h2], hx, hy, rfl⟩
theorem closeC0 {v : C} {x y : Nat} {w : World} (h1 : cn .f64 x = v.1) (h2 : cn .f64 y = v.2) (hx : x < 18446744073709551616) (hy : y < 18446744073709551616) :
    RetC v w (.returned (.complex .f64 x y)) w := ⟨x, y, 0, rfl, by rw [h1, h2], hx, hy, rfl⟩
theorem closeR {v x n : Nat} {w : World} (h1 : cn .f64 x = v) (hx : x < 18446744073709551616) : RetR v w (.returned (.float .f64 x)) (w.drewN n) := ⟨x, n, rfl, h1, hx, rfl⟩
theorem closeR0 {v x : Nat} {w : World} (h1 : cn .f64 x = v) (hx : x < 18446744073709551616) : RetR v w (.returned (.float .f64 x)) w := ⟨x, 0, rfl, h1, hx, rfl⟩
theorem closeB {b c : Bool} {n : Nat} {w : World} (h : c = b) : RetB b w (.returned (.bool c)) (w.drewN n) := ⟨n, by rw [h], rfl⟩
theorem closeB0 {b c : Bool} {w : World} (h : c = b) : RetB b w (.returned (.bool c)) w := ⟨0, by rw [h], rfl⟩
theorem ret_float {k : FloatKind} {a b : Nat} (h : a = b) : Ending.returned (.float k a) = .returned (.float k b) := by rw [h]
theorem ret_int {k : IntKind} {a b : Int} (h : a = b) : Ending.returned (.int k a) = .returned (.int k b) := by rw [h]
theorem ret_bool {a b : Bool} (h : a = b) : Ending.returned (.bool a) = .returned (.bool b) := by rw [h]
theorem ret_complex {k : FloatKind} {a b c d : Nat} (h : a = c) (h' : b = d) : Ending.returned (.complex k a b) = .returned (.complex k c d) := by rw [h, h']
theorem same_close {k : FloatKind} {a b : Nat} {c : Bool} (h : c = true ↔ ((a : Int) = (b : Int) ∨ (isNaN k.format a = true ∧ isNaN k.format b = true))) {w : World} :
    Ending.returned (.bool c) = .returned (.bool (decide (cn k a = cn k b))) ∧ w = w := by
  have e : c = decide (cn k a = cn k b) := by
    rw [Bool.eq_iff_iff, h, decide_eq_true_eq, cn_eq_iff, Int.ofNat_inj]
  rw [e]; exact ⟨rfl, rfl⟩

theorem mAbs_c (x : Nat) (hx : x < 18446744073709551616) (w : World) :
    Calls Try.prog 102 #[.float .f64 x] w fun e w' => e = .returned (.float .f64 (rung double x)) ∧ w = w' := by
  go_enter Try.func102, Try.ntmps102
  go_wp2
  go_ret; exact ⟨ret_float (by simp), rfl⟩
theorem mCopysign_c (x y : Nat) (hx : x < 18446744073709551616) (hy : y < 18446744073709551616) (w : World) :
    Calls Try.prog 86 #[.float .f64 x, .float .f64 y] w fun e w' => e = .returned (.float .f64 (double.word (sgn double y) (rung double x))) ∧ w = w' := by
  have hr : rung double x < 9223372036854775808 := rung_lt64 x
  go_enter Try.func86, Try.ntmps86
  go_wp2
  all_goals (go_ret; exact ⟨rfl, rfl⟩)
theorem mIsInf_c (x : Nat) (hx : x < 18446744073709551616) (w : World) :
    Calls Try.prog 83 #[.float .f64 x, .int .i64 0] w fun e w' => e = .returned (.bool (isInf double x)) ∧ w = w' := by
  go_enter Try.func83, Try.ntmps83
  go_wp2_with (go_at_call 102; refine (mAbs_c _ (by assumption) _).mono ?_; rintro e w' ⟨rfl, rfl⟩)
  go_ret; exact ⟨ret_bool (flt_max x), rfl⟩
theorem mInf_c (w : World) :
    Calls Try.prog 28 #[.int .i64 1] w fun e w' => e = .returned (.float .f64 9218868437227405312) ∧ w = w' := by
  go_enter Try.func28, Try.ntmps28
  go_wp2
  go_ret; exact ⟨rfl, rfl⟩
theorem mInfNeg_c (w : World) :
    Calls Try.prog 28 #[.int .i64 (-1)] w fun e w' => e = .returned (.float .f64 18442240474082181120) ∧ w = w' := by
  go_enter Try.func28, Try.ntmps28
  go_wp2
  go_ret; exact ⟨rfl, rfl⟩
theorem size_c (x : Nat) (hx : x < 18446744073709551616) (w : World) :
    Calls Try.prog 70 #[.float .f64 x] w fun e w' => e = .returned (.float .f64 (rung double x)) ∧ w = w' := by
  go_enter Try.func70, Try.ntmps70
  go_wp2
  go_ret; exact ⟨ret_float (by simp), rfl⟩
theorem turned_c (x : Nat) (hx : x < 18446744073709551616) (w : World) :
    Calls Try.prog 43 #[.float .f64 x] w fun e w' => e = .returned (.float .f64 (flip double x)) ∧ w = w' := by
  go_enter Try.func43, Try.ntmps43
  go_wp2
  go_ret; exact ⟨ret_float (by simp), rfl⟩
theorem kSameReal_c (a b : Nat) (w : World) :
    Calls Try.prog 66 #[.float .f64 a, .float .f64 b] w fun e w' => e = .returned (.bool (decide (cn .f64 a = cn .f64 b))) ∧ w = w' := by
  go_enter Try.func66, Try.ntmps66
  go_wp2
  all_goals (go_ret; exact same_close (by simp_all))
theorem Add_c (p q c d : Nat) (w : World) :
    Calls Try.prog 82 #[.complex .f64 p q, .complex .f64 c d] w (RetC (pAdd (cn .f64 p, cn .f64 q) (cn .f64 c, cn .f64 d)) w) := by
  go_enter Try.func82, Try.ntmps82
  go_wp2_with fail
  refine upon_add _ _ _ _ ?_
  intro r1 n1 h1
  go_wp2_with fail
  refine upon_add _ _ _ _ ?_
  intro r2 n2 h2
  go_wp2
  go_ret; exact closeC h1.1 h2.1 h1.2 h2.2
theorem Sub_c (p q c d : Nat) (w : World) :
    Calls Try.prog 75 #[.complex .f64 p q, .complex .f64 c d] w (RetC (pSub (cn .f64 p, cn .f64 q) (cn .f64 c, cn .f64 d)) w) := by
  go_enter Try.func75, Try.ntmps75
  go_wp2_with fail
  refine upon_sub _ _ _ _ ?_
  intro r1 n1 h1
  go_wp2_with fail
  refine upon_sub _ _ _ _ ?_
  intro r2 n2 h2
  go_wp2
  go_ret; exact closeC h1.1 h2.1 h1.2 h2.2
theorem rSub_c (p q c d : Nat) (w : World) :
    Calls Try.prog 94 #[.complex .f64 p q, .complex .f64 c d] w (RetC (pSub (cn .f64 p, cn .f64 q) (cn .f64 c, cn .f64 d)) w) := by
  go_enter Try.func94, Try.ntmps94
  go_wp2_with fail
  refine upon_sub _ _ _ _ ?_
  intro r1 n1 h1
  go_wp2_with fail
  refine upon_sub _ _ _ _ ?_
  intro r2 n2 h2
  go_wp2_with go_in
  go_ret; exact closeC h1.1 h2.1 h1.2 h2.2
theorem Mul_c (p q c d : Nat) (w : World) :
    Calls Try.prog 76 #[.complex .f64 p q, .complex .f64 c d] w (RetC (pMul (cn .f64 p, cn .f64 q) (cn .f64 c, cn .f64 d)) w) := by
  go_enter Try.func76, Try.ntmps76
  go_wp2_with fail
  refine upon_mul _ _ _ _ ?_
  intro r1 n1 h1
  go_wp2_with fail
  refine upon_mul _ _ _ _ ?_
  intro r2 n2 h2
  go_wp2_with fail
  refine upon_sub _ _ _ _ ?_
  intro r3 n3 h3
  go_wp2_with fail
  refine upon_mul _ _ _ _ ?_
  intro r4 n4 h4
  go_wp2_with fail
  refine upon_mul _ _ _ _ ?_
  intro r5 n5 h5
  go_wp2_with fail
  refine upon_add _ _ _ _ ?_
  intro r6 n6 h6
  go_wp2
  go_ret; exact closeC (by rw [h3.1, h1.1, h2.1]; rfl) (by rw [h6.1, h4.1, h5.1]; rfl) h3.2 h6.2
theorem rMul_c (p q c d : Nat) (w : World) :
    Calls Try.prog 95 #[.complex .f64 p q, .complex .f64 c d] w (RetC (pMul (cn .f64 p, cn .f64 q) (cn .f64 c, cn .f64 d)) w) := by
  go_enter Try.func95, Try.ntmps95
  go_wp2_with fail
  refine upon_mul _ _ _ _ ?_
  intro r1 n1 h1
  go_wp2_with fail
  refine upon_mul _ _ _ _ ?_
  intro r2 n2 h2
  go_wp2_with fail
  refine upon_mul _ _ _ _ ?_
  intro r4 n4 h4
  go_wp2_with fail
  refine upon_mul _ _ _ _ ?_
  intro r5 n5 h5
  go_wp2_with fail
  refine upon_sub _ _ _ _ ?_
  intro r3 n3 h3
  go_wp2_with fail
  refine upon_add _ _ _ _ ?_
  intro r6 n6 h6
  go_wp2_with go_in
  go_ret; exact closeC (by rw [h3.1, h1.1, h2.1]; rfl) (by rw [h6.1, h4.1, h5.1]; rfl) h3.2 h6.2
theorem Neg_c (p q : Nat) (hp : p < 18446744073709551616) (hq : q < 18446744073709551616) (w : World) :
    Calls Try.prog 21 #[.complex .f64 p q] w fun e w' => e = .returned (.complex .f64 (flip double p) (flip double q)) ∧ w = w' := by
  go_enter Try.func21, Try.ntmps21
  go_wp2_with (go_at_call 43; refine (turned_c _ (by assumption) _).mono ?_; rintro e w' ⟨rfl, rfl⟩)
  go_ret; exact ⟨rfl, rfl⟩
theorem Size1_c (p q : Nat) (hp : p < 18446744073709551616) (hq : q < 18446744073709551616) (w : World) :
    Calls Try.prog 47 #[.complex .f64 p q] w (RetR (pSize1 (cn .f64 p, cn .f64 q)) w) := by
  go_enter Try.func47, Try.ntmps47
  go_wp2_with (go_at_call 70; refine (size_c _ (by assumption) _).mono ?_; rintro e w' ⟨rfl, rfl⟩)
  refine upon_add _ _ _ _ ?_
  intro r1 n1 h1
  go_wp2
  go_ret; exact closeR (by rw [h1.1, cn_rung, cn_rung]; rfl) h1.2
theorem Div_c (p q c d : Nat) (hc : c < 18446744073709551616) (hd : d < 18446744073709551616) (w : World) :
    Calls Try.prog 74 #[.complex .f64 p q, .complex .f64 c d] w (RetC (pDiv (cn .f64 p, cn .f64 q) (cn .f64 c, cn .f64 d)) w) := by
  have hf : fle .f64 (fabs (cn .f64 d)) (fabs (cn .f64 c)) = fle .f64 (rung double d) (rung double c) := by
    rw [← cn_rung, ← cn_rung, fle_cn]
  cases hg : fle .f64 (rung double d) (rung double c)
  · have hv : pDiv (cn .f64 p, cn .f64 q) (cn .f64 c, cn .f64 d) =
        (let r := fdiv (cn .f64 c) (cn .f64 d)
         let t := fadd (fmul (cn .f64 c) r) (cn .f64 d)
         (fdiv (fadd (fmul (cn .f64 p) r) (cn .f64 q)) t, fdiv (fsub (fmul (cn .f64 q) r) (cn .f64 p)) t)) := by
      unfold pDiv; rw [hf, hg]; rfl
    rw [hv]; clear hv hf
    go_enter Try.func74, Try.ntmps74
    go_wp2_with (go_at_call 70; refine (size_c _ (by assumption) _).mono ?_; rintro e w' ⟨rfl, rfl⟩)
    refine upon_quo _ _ _ _ ?_
    intro r1 n1 h1
    go_wp2_with fail
    refine upon_mul _ _ _ _ ?_
    intro r2 n2 h2
    go_wp2_with fail
    refine upon_add _ _ _ _ ?_
    intro r3 n3 h3
    go_wp2_with fail
    refine upon_mul _ _ _ _ ?_
    intro r4 n4 h4
    go_wp2_with fail
    refine upon_add _ _ _ _ ?_
    intro r5 n5 h5
    go_wp2_with fail
    refine upon_quo _ _ _ _ ?_
    intro r8 n8 h8
    go_wp2_with fail
    refine upon_mul _ _ _ _ ?_
    intro r6 n6 h6
    go_wp2_with fail
    refine upon_sub _ _ _ _ ?_
    intro r7 n7 h7
    go_wp2_with fail
    refine upon_quo _ _ _ _ ?_
    intro r9 n9 h9
    go_wp2
    go_ret; exact closeC (by rw [h8.1, h5.1, h4.1, h3.1, h2.1, h1.1]) (by rw [h9.1, h7.1, h6.1, h3.1, h2.1, h1.1]) h8.2 h9.2
  · have hv : pDiv (cn .f64 p, cn .f64 q) (cn .f64 c, cn .f64 d) =
        (let r := fdiv (cn .f64 d) (cn .f64 c)
         let t := fadd (cn .f64 c) (fmul (cn .f64 d) r)
         (fdiv (fadd (cn .f64 p) (fmul (cn .f64 q) r)) t, fdiv (fsub (cn .f64 q) (fmul (cn .f64 p) r)) t)) := by
      unfold pDiv; rw [hf, hg]; rfl
    rw [hv]; clear hv hf
    go_enter Try.func74, Try.ntmps74
    go_wp2_with (go_at_call 70; refine (size_c _ (by assumption) _).mono ?_; rintro e w' ⟨rfl, rfl⟩)
    refine upon_quo _ _ _ _ ?_
    intro r1 n1 h1
    go_wp2_with fail
    refine upon_mul _ _ _ _ ?_
    intro r2 n2 h2
    go_wp2_with fail
    refine upon_add _ _ _ _ ?_
    intro r3 n3 h3
    go_wp2_with fail
    refine upon_mul _ _ _ _ ?_
    intro r4 n4 h4
    go_wp2_with fail
    refine upon_add _ _ _ _ ?_
    intro r5 n5 h5
    go_wp2_with fail
    refine upon_quo _ _ _ _ ?_
    intro r8 n8 h8
    go_wp2_with fail
    refine upon_mul _ _ _ _ ?_
    intro r6 n6 h6
    go_wp2_with fail
    refine upon_sub _ _ _ _ ?_
    intro r7 n7 h7
    go_wp2_with fail
    refine upon_quo _ _ _ _ ?_
    intro r9 n9 h9
    go_wp2
    go_ret; exact closeC (by rw [h8.1, h5.1, h4.1, h3.1, h2.1, h1.1]) (by rw [h9.1, h7.1, h6.1, h3.1, h2.1, h1.1]) h8.2 h9.2
end Go.Proofs.Ytandllekeimpgaa
namespace Go.Proofs.Ytandllekeimpgaa
open Go.RowKit Fl Ieee
set_option maxRecDepth 20000
attribute [local go_sem] x_f64frombits
attribute [local go_sem] x_f64bits
attribute [local go_sem] Fl.order_self Fl.order_self' Fl.order_eq Fl.order_ne Fl.order_lt Fl.order_gt Fl.fle_fold Fl.fge_fold Fl.u64_clear Fl.u64_sign Fl.u64_flip Fl.u64_or_sign Fl.u32_clear Fl.negFloat_flip
def RetNum (a b : Nat) (w : World) (e : Ending) (w' : World) : Prop :=
  ∃ n, e = .returned (.complex .f64 a b) ∧ w' = (w.alloc (.cells #[.int .u64 a, .int .u64 b] 74)).drewN n
theorem Number_c (a b : Nat) (w : World) :
    Calls Try.prog 30 #[.agg #[.int .u64 a, .int .u64 b]] w (RetNum a b w) := by
  go_enter Try.func30, Try.ntmps30
  go_wp2
  go_quiet (fail)
  go_wp2
  go_ret; exact ⟨_, rfl, rfl⟩
theorem Zero_c (a b : Nat) (w : World) :
    Calls Try.prog 97 #[.complex .f64 a b] w fun e w' => e = .returned (.bool (pZero (cn .f64 a, cn .f64 b))) ∧ w = w' := by
  have e : pZero (cn .f64 a, cn .f64 b) = (feq .f64 a 0 && feq .f64 b 0) := by
    unfold pZero
    have h1 := feq_cn .f64 a 0
    have h2 := feq_cn .f64 b 0
    have h0 : cn .f64 0 = 0 := cn_of_not (isNaN_zero .f64)
    rw [h0] at h1 h2
    rw [h1, h2]
  rw [e]; clear e
  cases hd : feq .f64 a 0
  · go_enter Try.func97, Try.ntmps97
    go_wp2
    go_ret; exact ⟨ret_bool (by rfl), rfl⟩
  · go_enter Try.func97, Try.ntmps97
    go_wp2
    go_ret; exact ⟨ret_bool (by rfl), rfl⟩
theorem feq_cn0 (r : Nat) : feq .f64 r 0 = feq .f64 (cn .f64 r) 0 := by
  have h1 := feq_cn .f64 r 0
  have h0 : cn .f64 0 = 0 := cn_of_not (isNaN_zero .f64)
  rw [h0] at h1; exact h1.symm
theorem isNaN_cn64 (x : Nat) : isNaN double (cn .f64 x) = isNaN double x := isNaN_cn .f64 x
theorem pZero_cn (a b : Nat) : pZero (cn .f64 a, cn .f64 b) = (feq .f64 a 0 && feq .f64 b 0) := by
  unfold pZero
  rw [← feq_cn0, ← feq_cn0]
theorem cn0 : cn .f64 0 = 0 := cn_of_not (isNaN_zero .f64)
theorem cn2 : cn .f64 4611686018427387904 = ftwo := by decide
theorem fle_cn0 (r : Nat) : fle .f64 0 (cn .f64 r) = fle .f64 0 r := by
  have h1 := fle_cn .f64 0 r
  rw [cn0] at h1; exact h1
theorem fin_of_sub {a r : Nat} (ha : a < 18446744073709551616) (h : IsOp .sub .f64 a a r) : feq .f64 r 0 = isFin double a := by
  rw [feq_cn0, h.1, fop_cn, sub_self_eq a ha]
theorem Finite_c (a b : Nat) (ha : a < 18446744073709551616) (hb : b < 18446744073709551616) (w : World) :
    Calls Try.prog 49 #[.complex .f64 a b] w (RetB (pFinite (cn .f64 a, cn .f64 b)) w) := by
  have e : pFinite (cn .f64 a, cn .f64 b) = (isFin double a && isFin double b) := by
    unfold pFinite
    have h1 := isFin_cn .f64 a
    have h2 := isFin_cn .f64 b
    exact congr (congrArg and h1) h2
  rw [e]; clear e
  cases hd : isFin double a
  · go_enter Try.func49, Try.ntmps49
    go_wp2_with fail
    refine upon_sub _ _ _ _ ?_
    intro r1 n1 h1
    have f1 : feq .f64 r1 0 = false := (fin_of_sub ha h1).trans hd
    go_wp2
    go_ret; exact closeB rfl
  · go_enter Try.func49, Try.ntmps49
    go_wp2_with fail
    refine upon_sub _ _ _ _ ?_
    intro r1 n1 h1
    have f1 : feq .f64 r1 0 = true := (fin_of_sub ha h1).trans hd
    go_wp2_with fail
    refine upon_sub _ _ _ _ ?_
    intro r2 n2 h2
    have f2 : feq .f64 r2 0 = isFin double b := fin_of_sub hb h2
    go_wp2
    go_ret; exact closeB rfl
end Go.Proofs.Ytandllekeimpgaa
namespace Go.Proofs.Ytandllekeimpgaa
open Go.RowKit Fl Ieee
set_option maxRecDepth 20000
attribute [local go_sem] x_f64frombits
attribute [local go_sem] x_f64bits
attribute [local go_sem] Fl.order_self Fl.order_self' Fl.order_eq Fl.order_ne Fl.order_lt Fl.order_gt Fl.fle_fold Fl.fge_fold Fl.u64_clear Fl.u64_sign Fl.u64_flip Fl.u64_or_sign Fl.u32_clear Fl.negFloat_flip
theorem rsize_c (x : Nat) (hx : x < 18446744073709551616) (w : World) :
    Calls Try.prog 111 #[.float .f64 x] w fun e w' => e = .returned (.float .f64 (rung double x)) ∧ w = w' := by
  go_enter Try.func111, Try.ntmps111
  go_wp2
  go_ret; exact ⟨ret_float (by simp), rfl⟩
theorem rturned_c (x : Nat) (hx : x < 18446744073709551616) (w : World) :
    Calls Try.prog 110 #[.float .f64 x] w fun e w' => e = .returned (.float .f64 (flip double x)) ∧ w = w' := by
  go_enter Try.func110, Try.ntmps110
  go_wp2
  go_ret; exact ⟨ret_float (by simp), rfl⟩
theorem rFiniteReal_c (a : Nat) (ha : a < 18446744073709551616) (w : World) :
    Calls Try.prog 88 #[.float .f64 a] w (RetB (isFin double a) w) := by
  go_enter Try.func88, Try.ntmps88
  go_wp2_with fail
  refine upon_sub _ _ _ _ ?_
  intro r1 n1 h1
  have f1 : feq .f64 r1 0 = isFin double a := fin_of_sub ha h1
  go_wp2
  go_ret; exact closeB rfl
theorem rFinite_c (a b : Nat) (ha : a < 18446744073709551616) (hb : b < 18446744073709551616) (w : World) :
    Calls Try.prog 62 #[.complex .f64 a b] w (RetB (pFinite (cn .f64 a, cn .f64 b)) w) := by
  have e : pFinite (cn .f64 a, cn .f64 b) = (isFin double a && isFin double b) := by
    unfold pFinite
    have h1 := isFin_cn .f64 a
    have h2 := isFin_cn .f64 b
    exact congr (congrArg and h1) h2
  rw [e]; clear e
  cases hd : isFin double a
  · go_enter Try.func62, Try.ntmps62
    go_wp2_with (go_at_call 88; refine (rFiniteReal_c _ (by assumption) _).mono ?_; rintro e w' ⟨n, rfl, rfl⟩)
    go_ret; exact closeB rfl
  · go_enter Try.func62, Try.ntmps62
    go_wp2_with (go_at_call 88; refine (rFiniteReal_c _ (by assumption) _).mono ?_; rintro e w' ⟨n, rfl, rfl⟩)
    go_ret; exact closeB rfl
theorem rNeg_c (p q : Nat) (hp : p < 18446744073709551616) (hq : q < 18446744073709551616) (w : World) :
    Calls Try.prog 90 #[.complex .f64 p q] w fun e w' => e = .returned (.complex .f64 (flip double p) (flip double q)) ∧ w = w' := by
  go_enter Try.func90, Try.ntmps90
  go_wp2_with (first | (go_at_call 110; refine (rturned_c _ (by assumption) _).mono ?_; rintro e w' ⟨rfl, rfl⟩) | go_in)
  go_ret; exact ⟨rfl, rfl⟩
theorem rSize1_c (p q : Nat) (hp : p < 18446744073709551616) (hq : q < 18446744073709551616) (w : World) :
    Calls Try.prog 92 #[.complex .f64 p q] w (RetR (pSize1 (cn .f64 p, cn .f64 q)) w) := by
  go_enter Try.func92, Try.ntmps92
  go_wp2_with (go_at_call 111; refine (rsize_c _ (by assumption) _).mono ?_; rintro e w' ⟨rfl, rfl⟩)
  refine upon_add _ _ _ _ ?_
  intro r1 n1 h1
  go_wp2
  go_ret; exact closeR (by rw [h1.1, cn_rung, cn_rung]; rfl) h1.2
theorem rDiv_c (p q c d : Nat) (hc : c < 18446744073709551616) (hd : d < 18446744073709551616) (w : World) :
    Calls Try.prog 93 #[.complex .f64 p q, .complex .f64 c d] w (RetC (pDiv (cn .f64 p, cn .f64 q) (cn .f64 c, cn .f64 d)) w) := by
  have hf : fle .f64 (fabs (cn .f64 d)) (fabs (cn .f64 c)) = fle .f64 (rung double d) (rung double c) := by
    rw [← cn_rung, ← cn_rung, fle_cn]
  cases hg : fle .f64 (rung double d) (rung double c)
  · have hv : pDiv (cn .f64 p, cn .f64 q) (cn .f64 c, cn .f64 d) =
        (let r := fdiv (cn .f64 c) (cn .f64 d)
         let t := fadd (fmul (cn .f64 c) r) (cn .f64 d)
         (fdiv (fadd (fmul (cn .f64 p) r) (cn .f64 q)) t, fdiv (fsub (fmul (cn .f64 q) r) (cn .f64 p)) t)) := by
      unfold pDiv; rw [hf, hg]; rfl
    rw [hv]; clear hv hf
    go_enter Try.func93, Try.ntmps93
    go_wp2_with (go_at_call 111; refine (rsize_c _ (by assumption) _).mono ?_; rintro e w' ⟨rfl, rfl⟩)
    refine upon_quo _ _ _ _ ?_
    intro r1 n1 h1
    go_wp2_with fail
    refine upon_mul _ _ _ _ ?_
    intro r2 n2 h2
    go_wp2_with fail
    refine upon_add _ _ _ _ ?_
    intro r3 n3 h3
    go_wp2_with fail
    refine upon_mul _ _ _ _ ?_
    intro r4 n4 h4
    go_wp2_with fail
    refine upon_mul _ _ _ _ ?_
    intro r6 n6 h6
    go_wp2_with fail
    refine upon_add _ _ _ _ ?_
    intro r5 n5 h5
    go_wp2_with fail
    refine upon_sub _ _ _ _ ?_
    intro r7 n7 h7
    go_wp2_with fail
    refine upon_quo _ _ _ _ ?_
    intro r8 n8 h8
    go_wp2_with fail
    refine upon_quo _ _ _ _ ?_
    intro r9 n9 h9
    go_wp2_with go_in
    go_ret; exact closeC (by rw [h8.1, h5.1, h4.1, h3.1, h2.1, h1.1]) (by rw [h9.1, h7.1, h6.1, h3.1, h2.1, h1.1]) h8.2 h9.2
  · have hv : pDiv (cn .f64 p, cn .f64 q) (cn .f64 c, cn .f64 d) =
        (let r := fdiv (cn .f64 d) (cn .f64 c)
         let t := fadd (cn .f64 c) (fmul (cn .f64 d) r)
         (fdiv (fadd (cn .f64 p) (fmul (cn .f64 q) r)) t, fdiv (fsub (cn .f64 q) (fmul (cn .f64 p) r)) t)) := by
      unfold pDiv; rw [hf, hg]; rfl
    rw [hv]; clear hv hf
    go_enter Try.func93, Try.ntmps93
    go_wp2_with (go_at_call 111; refine (rsize_c _ (by assumption) _).mono ?_; rintro e w' ⟨rfl, rfl⟩)
    refine upon_quo _ _ _ _ ?_
    intro r1 n1 h1
    go_wp2_with fail
    refine upon_mul _ _ _ _ ?_
    intro r2 n2 h2
    go_wp2_with fail
    refine upon_add _ _ _ _ ?_
    intro r3 n3 h3
    go_wp2_with fail
    refine upon_mul _ _ _ _ ?_
    intro r4 n4 h4
    go_wp2_with fail
    refine upon_mul _ _ _ _ ?_
    intro r6 n6 h6
    go_wp2_with fail
    refine upon_add _ _ _ _ ?_
    intro r5 n5 h5
    go_wp2_with fail
    refine upon_sub _ _ _ _ ?_
    intro r7 n7 h7
    go_wp2_with fail
    refine upon_quo _ _ _ _ ?_
    intro r8 n8 h8
    go_wp2_with fail
    refine upon_quo _ _ _ _ ?_
    intro r9 n9 h9
    go_wp2_with go_in
    go_ret; exact closeC (by rw [h8.1, h5.1, h4.1, h3.1, h2.1, h1.1]) (by rw [h9.1, h7.1, h6.1, h3.1, h2.1, h1.1]) h8.2 h9.2
end Go.Proofs.Ytandllekeimpgaa
namespace Go.Proofs.Ytandllekeimpgaa
open Go.RowKit
theorem wf_nat_u64 {a : Int} (h : (Lit.int .u64 a).wf = true) : ∃ n : Nat, a = (n : Int) ∧ n < 18446744073709551616 := by
  have h1 : 0 ≤ a ∧ a ≤ 18446744073709551615 := by simpa [Lit.wf, IntKind.min, IntKind.max, IntKind.signed, IntKind.bits] using h
  exact ⟨a.toNat, by omega, by omega⟩
theorem wf_nat_u32 {a : Int} (h : (Lit.int .u32 a).wf = true) : ∃ n : Nat, a = (n : Int) ∧ n < 4294967296 := by
  have h1 : 0 ≤ a ∧ a ≤ 4294967295 := by simpa [Lit.wf, IntKind.min, IntKind.max, IntKind.signed, IntKind.bits] using h
  exact ⟨a.toNat, by omega, by omega⟩
theorem wf_int_i64 {a : Int} (h : (Lit.int .i64 a).wf = true) : -9223372036854775808 ≤ a ∧ a ≤ 9223372036854775807 := by
  simpa [Lit.wf, IntKind.min, IntKind.max, IntKind.signed, IntKind.bits] using h
theorem wf_nat_u8 {a : Int} (h : (Lit.int .u8 a).wf = true) : ∃ n : Nat, a = (n : Int) ∧ n < 256 := by
  have h1 : 0 ≤ a ∧ a ≤ 255 := by simpa [Lit.wf, IntKind.min, IntKind.max, IntKind.signed, IntKind.bits] using h
  exact ⟨a.toNat, by omega, by omega⟩
end Go.Proofs.Ytandllekeimpgaa
namespace Go.Proofs.Ytandllekeimpgaa
open Go.RowKit Fl Ieee
theorem quiet_add_left {P : Program} {f : FuncId} {args : Array Value} {w : World} {a n : Nat} {v : Value}
    (h : Calls P f args (w.drewN (a + n)) fun e w' => e = .returned v ∧ w.drewN (a + n) = w') :
    Calls P f args (w.drewN (a + n)) fun e w'' => e = .returned v ∧ ∃ m, w'' = w.drewN (a + m) :=
  h.mono fun _ _ ⟨he, hm⟩ => ⟨he, n, hm.symm⟩
theorem lt_of_some {α : Type} {l : List α} {k : Nat} {x : α} (h : l[k]? = some x) : k < l.length := by
  rcases Nat.lt_or_ge k l.length with h1 | h1
  · exact h1
  · rw [List.getElem?_eq_none h1] at h; cases h
theorem some_of_lt {α : Type} {l : List α} {k : Nat} (h : k < l.length) : ∃ x, l[k]? = some x := ⟨l[k], List.getElem?_eq_getElem h⟩
theorem block_of_add (a : Addr) (n : Nat) : (a.add n).block = a.block := by unfold Addr.add; split <;> rfl
theorem add_of_add (a : Addr) (i j : Nat) : (a.add i).add j = a.add (i + j) := by
  unfold Addr.add
  by_cases hi : i = 0 <;> by_cases hj : j = 0 <;> simp [hi, hj, Nat.add_assoc]
/-- The slice's cells are xs; it lies below block B. -/
def Reads (w : World) (B : Nat) (A : Option Addr) (xs : List Value) : Prop :=
  0 < xs.length → ∃ ad, A = some ad ∧ ad.block < B ∧ ∀ j u, xs[j]? = some u → w.cell? (ad.add j) = some u
section
variable {w w' : World} {B B' : Nat} {A : Option Addr} {xs : List Value}
theorem Reads.at_ {k : Nat} {u : Value} (h : Reads w B A xs) (hk : xs[k]? = some u) : ∃ ad, A = some ad ∧ ad.block < B ∧ w.cell? (ad.add k) = some u := by
  have hl : k < xs.length := by
    rcases Nat.lt_or_ge k xs.length with h1 | h1
    · exact h1
    · rw [List.getElem?_eq_none h1] at hk; cases hk
  obtain ⟨ad, e, hb, hc⟩ := h (by omega)
  exact ⟨ad, e, hb, hc k u hk⟩
theorem Reads.keep (h : Reads w B A xs) (hk : ∀ p : Addr, p.block < B → w'.cell? p = w.cell? p) : Reads w' B A xs := fun hn => by
  obtain ⟨ad, e, hb, hc⟩ := h hn
  exact ⟨ad, e, hb, fun j u hu => (hk _ (by rw [block_of_add]; exact hb)).trans (hc j u hu)⟩
theorem Reads.more (h : Reads w B A xs) (hB : B ≤ B') : Reads w B' A xs := fun hn => by
  obtain ⟨ad, e, hb, hc⟩ := h hn
  exact ⟨ad, e, by omega, hc⟩
theorem Reads.below (h : Reads w B A xs) (hb : Below B w w') : Reads w' B A xs := h.keep fun _ hp => hb.cell hp
theorem Reads.drewN (h : Reads w B A xs) (k : Nat) : Reads (w.drewN k) B A xs := h
theorem Reads.alloc (h : Reads w B A xs) (hB : B ≤ w.heap.size) (o : Obj) : Reads (w.alloc o) B A xs := h.keep fun p hp => World.cell?_alloc_lt w o p (by omega)
theorem Reads.of_own {base n c : Nat} {e : TypeId} (h : w.ownsRow base e 1 (.slice A n c) n xs) : Reads w w.heap.size A xs := by
  intro hn
  have hl := h.1
  obtain ⟨g, cap, hv, _, hlt⟩ := h.form (by omega)
  have hA : A = some ⟨g, 0, none⟩ := by injection hv
  subst hA
  exact ⟨_, rfl, hlt, h.cells (g := g) rfl⟩
theorem Reads.new (w : World) (t : TypeId) (xs : List Value) : Reads (w.alloc (.cells xs.toArray t)) (w.heap.size + 1) (some ⟨w.heap.size, 0, none⟩) xs := by
  intro _
  refine ⟨_, rfl, by simp, fun j u hu => ?_⟩
  have e : (Addr.add ⟨w.heap.size, 0, none⟩ j) = ⟨w.heap.size, j, none⟩ := by
    unfold Addr.add; split <;> simp_all
  rw [e, cell_of_row _ _ _ _ _ _ (heap_alloc_new w _)]
  simpa using hu
theorem Reads.newAt (w : World) (t : TypeId) (xs : List Value) {b : Nat} (hb : b = w.heap.size) : Reads (w.alloc (.cells xs.toArray t)) (w.heap.size + 1) (some ⟨b, 0, none⟩) xs := hb ▸ Reads.new w t xs
end
theorem below_drewN {B : Nat} {a w : World} (h : Below B a w) (n : Nat) : Below B a (w.drewN n) := ⟨h.os, h.tape, h.output, h.size, h.block⟩
theorem size_drewN (w : World) (n : Nat) : (w.drewN n).heap.size = w.heap.size := rfl
/-- A new block behind what has grown. -/
theorem _root_.Go.RowKit.Below.new {B : Nat} {a w : World} (h : Below B a w) (hB : B ≤ a.heap.size) (o : Obj) : Below B a (w.alloc o) := h.alloc (Nat.le_trans hB h.size) o
theorem own_drewN {w : World} {B e size n : Nat} {v : Value} {xs : List Value} (h : w.ownsRow B e size v n xs) (q : Nat) : (w.drewN q).ownsRow B e size v n xs := h
theorem cell_one_at (w : World) (x : Value) (t : TypeId) {b : Nat} (hb : b = w.heap.size) : ∀ j u, [x][j]? = some u → (w.alloc (.cells #[x] t)).cell? ((⟨b, 0, none⟩ : Addr).add j) = some u := hb ▸ cell_one_new w x t
/-- The values of a list of reals. -/
abbrev reals (l : List Nat) : List Value := l.map (Value.float .f64)
def words (l : List Nat) : Prop := ∀ x ∈ l, x < 18446744073709551616
open Go.ChangeShapes Go.WideShapes in
/-- What a row asks behind the call, where below the old heap nothing has turned. -/
theorem post_of_below {H : Type} {enc : TypeId × Value → H} {P : Program} {f : Func} {s : ChangeSpec} {apart fresh handsOn again : Bool} {W W' : World} {args : Array Value} {v : Value} {ds gs : List (DataW H)} {before pa pv : List MemPlace}
    (hW : DataW.Whole enc P f.params.toList s.vars apart W args.toList ds gs before)
    (hres : ∀ (b : Nat) (sp : Nat → Bool) (hd : Bool), DataW.TrodAll enc P W' b sp hd f.resultTypes.toList (v.resultList f.resultTypes.size) (s.fn H (ds ++ gs)).results [])
    (hargs : ∀ sp : Nat → Bool, (∀ p ∈ before, sp p.block = true) → DataW.TrodAll enc P W' 0 sp true f.params.toList args.toList (s.fn H (ds ++ gs)).args pa)
    (hvars : ∀ sp : Nat → Bool, (∀ p ∈ before, sp p.block = true) → DataW.TrodVars enc P W' sp s.vars (s.fn H (ds ++ gs)).vars pv)
    (hps : before = pa ++ pv) (hb : Below W.heap.size W W')
    (hok : ∀ (j : Nat) (t : TypeId) (r : Value), f.resultTypes[j]? = some t → (v.resultList f.resultTypes.size)[j]? = some r → Value.okWide P W' .any 0 t r) :
    s.post enc P f apart fresh handsOn again W args v W' := by
  have hlt := hW.lt
  have hold : ∀ p ∈ before, (fun b => decide (b < W.heap.size)) p.block = true := fun p hp => by simpa using hlt p hp
  refine ⟨ds, gs, before, [], pa, pv, hW, hres _ _ _, hargs _ hold, hvars _ hold, World.keptBut_mono (fun _ f => f.elim) (hb.frame fun _ => False), fun _ => ?_⟩
  obtain ⟨_, _, _, _, _, hz, hn⟩ := hW
  refine ⟨hok, _, _, ([] ++ pa) ++ pv, ⟨[] ++ pa, pv, trodAll_append (hargs _ fun _ _ => rfl) (hres _ _ _), hvars _ fun _ _ => rfl, rfl, ?_, ?_⟩, ?_⟩
  · intro b off hp
    have hm : MemPlace.cell b off ∈ before := by rw [hps]; simpa using hp
    have h1 := hb.frozen (p := ⟨b, off, none⟩) (hlt _ hm)
    exact h1.trans (hz b off hm)
  · intro ha
    have := hn ha
    rw [hps] at this
    simpa using this
  · intro p hp _
    rw [hps]
    simpa using hp
end Go.Proofs.Ytandllekeimpgaa
namespace Go.Proofs.Ytandllekeimpgaa
open Go.RowKit Fl Ieee
set_option maxRecDepth 20000
attribute [local go_sem] x_f64frombits
attribute [local go_sem] x_f64bits
attribute [local go_sem] Fl.order_self Fl.order_self' Fl.order_eq Fl.order_ne Fl.order_lt Fl.order_gt Fl.fle_fold Fl.fge_fold Fl.u64_clear Fl.u64_sign Fl.u64_flip Fl.u64_or_sign Fl.u32_clear Fl.negFloat_flip

theorem ret_ib {a c : Int} {b d : Bool} (h : a = c) (h' : b = d) : Ending.returned (.tuple #[.int .i64 a, .bool b]) = .returned (.tuple #[.int .i64 c, .bool d]) := by rw [h, h']
theorem ret_fb {a c : Nat} {b d : Bool} (h : a = c) (h' : b = d) : Ending.returned (.tuple #[.float .f64 a, .bool b]) = .returned (.tuple #[.float .f64 c, .bool d]) := by rw [h, h']
theorem u64_wrap (z : Int) : IntKind.u64.wrap z = z % 18446744073709551616 := by simp [IntKind.wrap, IntKind.bits, IntKind.signed]
theorem double_word {x : Nat} (hx : x < 18446744073709551616) : x = if sgn double x then 9223372036854775808 + rung double x else rung double x := by
  have h := word_split (f := double) hx
  have e : double.word (sgn double x) (rung double x) = if sgn double x then 9223372036854775808 + rung double x else rung double x := by
    unfold Format.word; rw [sw64]
  rw [← e]; exact h
theorem inf_double : double.infRung = 9218868437227405312 := by decide
/-- A real's kind. -/
def kind (x : Nat) : Nat :=
  if rung double x = 0 then 0 else if rung double x < 4503599627370496 then 1 else if rung double x < 9218868437227405312 then 2
  else if rung double x = 9218868437227405312 then 3 else 4
/-- A real's place. -/
def plc (x : Nat) : Int := if isNaN double x then 0 else key double x
def atOk (p : Int) : Bool := decide (-9218868437227405312 ≤ p) && decide (p ≤ 9218868437227405312)
def atV (p : Int) : Nat := if atOk p then (if p < 0 then 9223372036854775808 + (-p).toNat else p.toNat) else 0
/-- The real beside one. -/
def nx (x : Nat) (up : Bool) : Nat :=
  if isNaN double x then x
  else if up then (if key double x = 9218868437227405312 then x else atV (key double x + 1))
  else (if key double x = -9218868437227405312 then x else atV (key double x - 1))
theorem rung_mod (x : Nat) : rung double x = x % 9223372036854775808 := by unfold rung; rw [sw64]
theorem key_bounds {x : Nat} (hn : isNaN double x = false) : -9218868437227405312 ≤ key double x ∧ key double x ≤ 9218868437227405312 := by
  simp only [isNaN, decide_eq_false_iff_not, inf_double] at hn
  unfold key; split <;> omega
theorem atV_lt (p : Int) : atV p < 18446744073709551616 := by
  unfold atV atOk; split
  · rename_i h; simp at h; split <;> omega
  · decide
theorem nx_lt {x : Nat} (hx : x < 18446744073709551616) (up : Bool) : nx x up < 18446744073709551616 := by
  unfold nx; split
  · exact hx
  · split <;> split <;> first | exact hx | exact atV_lt _

set_option maxRecDepth 100000 in
theorem RKind_c (x : Nat) (hx : x < 18446744073709551616) (w : World) :
    Calls Try.prog 103 #[.float .f64 x] w fun e w' => e = .returned (.int .i64 (kind x : Nat)) ∧ w = w' := by
  have e : kind x = if x % 9223372036854775808 = 0 then 0 else if x % 9223372036854775808 < 4503599627370496 then 1 else if x % 9223372036854775808 < 9218868437227405312 then 2
    else if x % 9223372036854775808 = 9218868437227405312 then 3 else 4 := by unfold kind; rw [rung_mod]
  have E : Hid _ := e
  clear e
  obtain ⟨u, hu⟩ : ∃ u, x % 9223372036854775808 = u := ⟨_, rfl⟩
  have hi : (x : Int) % 9223372036854775808 = (u : Int) := by omega
  have e2 := E.out
  rw [hu] at e2
  have E2 : Hid _ := e2
  clear E e2 hu
  by_cases h1 : u = 0
  · subst h1
    go_enter Try.func103, Try.ntmps103
    go_wp2
    go_ret; exact ⟨ret_int (by rw [E2.out]; rfl), rfl⟩
  · by_cases h2 : u < 4503599627370496
    · have E3 : Hid (kind x = 1) := by have := E2.out; rw [if_neg h1, if_pos h2] at this; exact this
      have b1 : ((u : Int) == 0) = false := beq_eq_false_iff_ne.2 (by omega)
      have b2 : (u : Int) < 4503599627370496 := by omega
      clear h1 h2 E2
      go_enter Try.func103, Try.ntmps103
      go_wp2
      go_ret; exact ⟨ret_int (by rw [E3.out]; rfl), rfl⟩
    · by_cases h3 : u < 9218868437227405312
      · have E3 : Hid (kind x = 2) := by have := E2.out; rw [if_neg h1, if_neg h2, if_pos h3] at this; exact this
        have b1 : ((u : Int) == 0) = false := beq_eq_false_iff_ne.2 (by omega)
        have b2 : decide ((u : Int) < 4503599627370496) = false := by simp; omega
        have b3 : (u : Int) < 9218868437227405312 := by omega
        clear h1 h2 h3 E2
        go_enter Try.func103, Try.ntmps103
        go_wp2
        go_ret; exact ⟨ret_int (by rw [E3.out]; rfl), rfl⟩
      · by_cases h4 : u = 9218868437227405312
        · subst h4
          go_enter Try.func103, Try.ntmps103
          go_wp2
          go_ret; exact ⟨ret_int (by rw [E2.out]; rfl), rfl⟩
        · have E3 : Hid (kind x = 4) := by have := E2.out; rw [if_neg h1, if_neg h2, if_neg h3, if_neg h4] at this; exact this
          have b1 : ((u : Int) == 0) = false := beq_eq_false_iff_ne.2 (by omega)
          have b2 : decide ((u : Int) < 4503599627370496) = false := by simp; omega
          have b3 : decide ((u : Int) < 9218868437227405312) = false := by simp; omega
          have b4 : ((u : Int) == 9218868437227405312) = false := beq_eq_false_iff_ne.2 (by omega)
          clear h1 h2 h3 h4 E2
          go_enter Try.func103, Try.ntmps103
          go_wp2
          go_ret; exact ⟨ret_int (by rw [E3.out]; rfl), rfl⟩
end Go.Proofs.Ytandllekeimpgaa
namespace Go.Proofs.Ytandllekeimpgaa
open Go.RowKit Fl Ieee
set_option maxRecDepth 20000
end Go.Proofs.Ytandllekeimpgaa
namespace Go.Proofs.Ytandllekeimpgaa
open Go.RowKit Fl Ieee
set_option maxRecDepth 20000
/-- A sum and its error, up to NaN. -/
def twoSum (a b : Nat) : Nat × Nat :=
  let s := fadd a b
  let t := fsub s a
  let u := fsub s t
  let v := fsub a u
  let w := fsub b t
  (s, fadd v w)
def sumStep (st : Nat × List Nat) (x : Nat) : Nat × List Nat := ((twoSum st.1 x).1, st.2 ++ [(twoSum st.1 x).2])
def sumErr (l : List Nat) : Nat × List Nat := l.foldl sumStep (0, [])
theorem sumErr_take {l : List Nat} {k x : Nat} (h : l[k]? = some x) :
    sumErr ((l.take (k + 1)).map (cn .f64)) = sumStep (sumErr ((l.take k).map (cn .f64))) (cn .f64 x) := by
  have hk : k < l.length := by
    rcases Nat.lt_or_ge k l.length with h1 | h1
    · exact h1
    · rw [List.getElem?_eq_none h1] at h; cases h
  have e : l[k] = x := by rw [List.getElem?_eq_getElem hk] at h; exact Option.some.inj h
  rw [List.take_succ_eq_append_getElem hk, e, List.map_append]
  unfold sumErr
  rw [List.foldl_append]; rfl
/-- Two reals that are v up to NaN are handed back. -/
def RetRR (v : Nat × Nat) (w : World) (e : Ending) (w' : World) : Prop :=
  ∃ x y n, e = .returned (.tuple #[.float .f64 x, .float .f64 y]) ∧ (cn .f64 x, cn .f64 y) = v ∧ x < 18446744073709551616 ∧ y < 18446744073709551616 ∧ w' = w.drewN n
theorem closeRR {v : Nat × Nat} {x y n : Nat} {w : World} (h1 : cn .f64 x = v.1) (h2 : cn .f64 y = v.2) (hx : x < 18446744073709551616) (hy : y < 18446744073709551616) :
    RetRR v w (.returned (.tuple #[.float .f64 x, .float .f64 y])) (w.drewN n) := ⟨x, y, n, rfl, by rw [h1, h2], hx, hy, rfl⟩
theorem TwoSum_c (a b : Nat) (w : World) :
    Calls Try.prog 87 #[.float .f64 a, .float .f64 b] w (RetRR (twoSum (cn .f64 a) (cn .f64 b)) w) := by
  go_enter Try.func87, Try.ntmps87
  go_wp2_with fail
  refine upon_add _ _ _ _ ?_
  intro r1 n1 h1
  go_wp2_with fail
  refine upon_sub _ _ _ _ ?_
  intro r2 n2 h2
  go_wp2_with fail
  refine upon_sub _ _ _ _ ?_
  intro r3 n3 h3
  go_wp2_with fail
  refine upon_sub _ _ _ _ ?_
  intro r4 n4 h4
  go_wp2_with fail
  refine upon_sub _ _ _ _ ?_
  intro r5 n5 h5
  go_wp2_with fail
  refine upon_add _ _ _ _ ?_
  intro r6 n6 h6
  go_wp2
  go_ret2; exact closeRR h1.1 (by rw [h6.1, h5.1, h4.1, h3.1, h2.1, h1.1]; rfl) h1.2 h6.2
theorem RTwoSum_c (a b : Nat) (w : World) :
    Calls Try.prog 91 #[.float .f64 a, .float .f64 b] w (RetRR (twoSum (cn .f64 a) (cn .f64 b)) w) := by
  go_enter Try.func91, Try.ntmps91
  go_wp2_with fail
  refine upon_add _ _ _ _ ?_
  intro r1 n1 h1
  go_wp2_with fail
  refine upon_sub _ _ _ _ ?_
  intro r2 n2 h2
  go_wp2_with fail
  refine upon_sub _ _ _ _ ?_
  intro r3 n3 h3
  go_wp2_with fail
  refine upon_sub _ _ _ _ ?_
  intro r4 n4 h4
  go_wp2_with fail
  refine upon_sub _ _ _ _ ?_
  intro r5 n5 h5
  go_wp2_with fail
  refine upon_add _ _ _ _ ?_
  intro r6 n6 h6
  go_wp2
  go_ret2; exact closeRR h1.1 (by rw [h6.1, h5.1, h4.1, h3.1, h2.1, h1.1]; rfl) h1.2 h6.2
theorem infoReal : (Try.prog.info? 47).map (fun i => (i.zero, i.size, i.bytes)) = some (some (.float .f64 0), 1, 8) := by kernel_rfl
def SumErrP (l : List Nat) (w : World) (e : Ending) (w' : World) : Prop :=
  ∃ s v errs, e = .returned (.tuple #[.float .f64 s, v]) ∧ (cn .f64 s, errs.map (cn .f64)) = sumErr (l.map (cn .f64)) ∧ s < 18446744073709551616 ∧ words errs ∧ errs.length = l.length ∧
    w'.ownsRow w.heap.size 47 1 v errs.length (reals errs) ∧ Below w.heap.size w w'
/-- What stands at the head of the loop, k numbers having been taken. -/
def SumErrR (l : List Nat) (w : World) (s v i : Value) (wr : World) : Prop :=
  ∃ k t errs, k ≤ l.length ∧ i = .int .i64 (k : Nat) ∧ s = .float .f64 t ∧ (cn .f64 t, errs.map (cn .f64)) = sumErr ((l.take k).map (cn .f64)) ∧ t < 18446744073709551616 ∧ words errs ∧ errs.length = k ∧
    wr.ownsRow w.heap.size 47 1 v k (reals errs) ∧ Below w.heap.size w wr
set_option maxHeartbeats 1000000 in
theorem SumErr_c (A : Option Addr) (l : List Nat) (c : Nat) (w : World) (hw : words l) (hl : l.length * 8 ≤ 140737488355328) (hr : Reads w w.heap.size A (reals l)) :
    Calls Try.prog 60 #[.slice A l.length c] w (SumErrP l w) := by
  obtain ⟨i0, hi, hz0, hz1, hz2⟩ := info_parts infoReal
  have HR := Lib.hid hr
  have HW := Lib.hid hw
  clear hr hw
  go_enter Try.func60, Try.ntmps60
  go_wp2
  go_loopw [4, 5, 11] (fun s v i wr => SumErrR l w s v i wr) (fun _ _ i _ => l.length - (intOf i).toNat)
  case atStart => exact ⟨0, 0, [], Nat.zero_le _, rfl, rfl, rfl, by decide, fun x hx => by simp at hx, rfl, World.ownsRow_nil _ _ _ _, Below.refl _ _⟩
  case round =>
    obtain ⟨k, t, errs, hk, rfl, rfl, hv, ht, hwe, he, hown, hb⟩ := hrel
    have HV := Lib.hid hv
    have HWE := Lib.hid hwe
    have HE := Lib.hid he
    have HB := Lib.hid hb
    clear hv hwe he hb
    by_cases hlt : k < l.length
    · obtain ⟨x, hx⟩ : ∃ x, l[k]? = some x := ⟨l[k], List.getElem?_eq_getElem hlt⟩
      have hx64 : x < 18446744073709551616 := HW.out x (List.mem_of_getElem? hx)
      have hv1 : (reals l)[k]? = some (.float .f64 x) := by simp [reals, hx]
      obtain ⟨ad, rfl, hab, hcell⟩ := (HR.out.below HB.out).at_ hv1
      have HX := Lib.hid hx
      clear hx hv1
      go_wp2_with (fail)
      refine (TwoSum_c _ _ _).mono ?_
      rintro e w' ⟨p, q, n, rfl, g, bp, bq, rfl⟩
      have G := Lib.hid g
      clear g
      have hsz := HB.out.size
      go_wp2_with (at_builtin; refine wpList_append_own _ rfl (.tmp 21) (.tmp 23) 80 rfl w.heap.size 47 i0 (.float .f64 0) 1 8 Try.underlying80 hi hz0 hz1 hz2 rfl (by decide) _ _ _ rfl ((own_drewN hown n).alloc _) ⟨wr.heap.size, 0, none⟩ 1 1 [.float .f64 q] rfl rfl (cell_one_new _ _ _) (by intro u hu; simp at hu; subst hu; rfl) (by unfold maxLen; omega) (by omega) (by simp; omega) ?_; intro v' w1 hown1 hgrow1 hnil1)
      clear hnil1
      have H2 : Hid ((cn .f64 p, (errs ++ [q]).map (cn .f64)) = sumErr ((l.take (k + 1)).map (cn .f64))) := by
        show _ = _
        rw [sumErr_take HX.out, ← HV.out]
        have g := G.out
        unfold sumStep
        rw [← g]; simp
      have H3 : words (errs ++ [q]) := by
        intro y hy
        rcases List.mem_append.1 hy with h | h
        · exact HWE.out y h
        · simp at h; subst h; exact bq
      have H4 : Below w.heap.size w w1 := ((below_drewN HB.out n).alloc (by simpa using hsz) _).grown hgrow1 (by simp; omega) (fun j hj => (hown.lt j hj).1)
      have H5 : w1.ownsRow w.heap.size 47 1 v' (k + 1) (reals (errs ++ [q])) := by
        have e : reals (errs ++ [q]) = reals errs ++ [.float .f64 q] := by simp [reals]
        rw [e]; exact hown1
      clear hown1 hgrow1
      go_wp2
      go_roundw
      case rel => exact ⟨k + 1, p, errs ++ [q], by omega, by go_num, rfl, H2.out, bp, H3, by simp [HE.out], H5, H4⟩
      case measure => simp [intOf]; omega
    · have e : k = l.length := by omega
      go_wp2
      go_ret2
      have h1 := HV.out
      rw [e, List.take_length] at h1
      exact ⟨t, _, errs, rfl, h1, ht, HWE.out, HE.out.trans e, by rw [HE.out]; exact hown, HB.out⟩
end Go.Proofs.Ytandllekeimpgaa
namespace Go.Proofs.Ytandllekeimpgaa
open Go.RowKit Fl Ieee
set_option maxRecDepth 20000
attribute [local go_sem] Fl.order_self Fl.order_self' Fl.order_eq Fl.order_ne Fl.order_lt Fl.order_gt Fl.fle_fold Fl.fge_fold
set_option maxHeartbeats 1000000 in
theorem RSumErr_c (A : Option Addr) (l : List Nat) (c : Nat) (w : World) (hw : words l) (hl : l.length * 8 ≤ 140737488355328) (hr : Reads w w.heap.size A (reals l)) :
    Calls Try.prog 64 #[.slice A l.length c] w (SumErrP l w) := by
  obtain ⟨i0, hi, hz0, hz1, hz2⟩ := info_parts infoReal
  have HR := Lib.hid hr
  have HW := Lib.hid hw
  clear hr hw
  go_enter Try.func64, Try.ntmps64
  go_wp2
  go_loopw [4, 5, 6] (fun s v i wr => SumErrR l w s v i wr) (fun _ _ i _ => l.length - (intOf i).toNat)
  case atStart => exact ⟨0, 0, [], Nat.zero_le _, rfl, rfl, rfl, by decide, fun x hx => by simp at hx, rfl, World.ownsRow_nil _ _ _ _, Below.refl _ _⟩
  case round =>
    obtain ⟨k, t, errs, hk, rfl, rfl, hv, ht, hwe, he, hown, hb⟩ := hrel
    have HV := Lib.hid hv
    have HWE := Lib.hid hwe
    have HE := Lib.hid he
    have HB := Lib.hid hb
    clear hv hwe he hb
    by_cases hlt : k < l.length
    · obtain ⟨x, hx⟩ : ∃ x, l[k]? = some x := ⟨l[k], List.getElem?_eq_getElem hlt⟩
      have hv1 : (reals l)[k]? = some (.float .f64 x) := by simp [reals, hx]
      obtain ⟨ad, rfl, hab, hcell⟩ := (HR.out.below HB.out).at_ hv1
      have HX := Lib.hid hx
      clear hx hv1
      go_wp2_with (fail)
      refine (RTwoSum_c _ _ _).mono ?_
      rintro e w' ⟨p, q, n, rfl, g, bp, bq, rfl⟩
      have G := Lib.hid g
      clear g
      have hsz := HB.out.size
      go_wp2_with (at_builtin; refine wpList_append_own _ rfl (.tmp 25) (.tmp 27) 80 rfl w.heap.size 47 i0 (.float .f64 0) 1 8 Try.underlying80 hi hz0 hz1 hz2 rfl (by decide) _ _ _ rfl ((own_drewN hown n).alloc _) ⟨wr.heap.size, 0, none⟩ 1 1 [.float .f64 q] rfl rfl (cell_one_new _ _ _) (by intro u hu; simp at hu; subst hu; rfl) (by unfold maxLen; omega) (by omega) (by simp; omega) ?_; intro v' w1 hown1 hgrow1 hnil1)
      clear hnil1
      have H2 : Hid ((cn .f64 p, (errs ++ [q]).map (cn .f64)) = sumErr ((l.take (k + 1)).map (cn .f64))) := by
        show _ = _
        rw [sumErr_take HX.out, ← HV.out]
        have g := G.out
        unfold sumStep
        rw [← g]; simp
      have H3 : words (errs ++ [q]) := by
        intro y hy
        rcases List.mem_append.1 hy with h | h
        · exact HWE.out y h
        · simp at h; subst h; exact bq
      have H4 : Below w.heap.size w w1 := ((below_drewN HB.out n).alloc (by simpa using hsz) _).grown hgrow1 (by simp; omega) (fun j hj => (hown.lt j hj).1)
      have H5 : w1.ownsRow w.heap.size 47 1 v' (k + 1) (reals (errs ++ [q])) := by
        have e : reals (errs ++ [q]) = reals errs ++ [.float .f64 q] := by simp [reals]
        rw [e]; exact hown1
      clear hown1 hgrow1
      go_wp2
      go_roundw
      case rel => exact ⟨k + 1, p, errs ++ [q], by omega, by go_num, rfl, H2.out, bp, H3, by simp [HE.out], H5, H4⟩
      case measure => simp [intOf]; omega
    · have e : k = l.length := by omega
      go_wp2
      go_ret2
      have h1 := HV.out
      rw [e, List.take_length] at h1
      exact ⟨t, _, errs, rfl, h1, ht, HWE.out, HE.out.trans e, by rw [HE.out]; exact hown, HB.out⟩
/-- A list's sum from the left, up to NaN. -/
def sumL (l : List Nat) : Nat := l.foldl fadd 0
theorem sumL_take {l : List Nat} {k x : Nat} (h : l[k]? = some x) : sumL ((l.take (k + 1)).map (cn .f64)) = fadd (sumL ((l.take k).map (cn .f64))) (cn .f64 x) := by
  have hk := lt_of_some h
  have e : l[k] = x := by rw [List.getElem?_eq_getElem hk] at h; exact Option.some.inj h
  rw [List.take_succ_eq_append_getElem hk, e, List.map_append]
  unfold sumL
  rw [List.foldl_append]; rfl
def SumR (l : List Nat) (w : World) (s i : Value) (wr : World) : Prop :=
  ∃ k t m, k ≤ l.length ∧ i = .int .i64 (k : Nat) ∧ s = .float .f64 t ∧ cn .f64 t = sumL ((l.take k).map (cn .f64)) ∧ t < 18446744073709551616 ∧ wr = w.drewN m
set_option maxHeartbeats 1000000 in
theorem Sum_c (A : Option Addr) (l : List Nat) (c : Nat) (w : World) (hl : l.length * 8 ≤ 140737488355328) (hr : Reads w w.heap.size A (reals l)) :
    Calls Try.prog 61 #[.slice A l.length c] w (RetR (sumL (l.map (cn .f64))) w) := by
  have HR := Lib.hid hr
  clear hr
  go_enter Try.func61, Try.ntmps61
  go_wp2
  go_loopw [3, 8] (fun s i wr => SumR l w s i wr) (fun _ i _ => l.length - (intOf i).toNat)
  case atStart => exact ⟨0, 0, 0, Nat.zero_le _, rfl, rfl, rfl, by decide, rfl⟩
  case round =>
    obtain ⟨k, t, m, hk, rfl, rfl, hv, ht, rfl⟩ := hrel
    have HV := Lib.hid hv
    clear hv
    by_cases hlt : k < l.length
    · obtain ⟨x, hx⟩ := some_of_lt hlt
      have hv1 : (reals l)[k]? = some (.float .f64 x) := by simp [reals, hx]
      obtain ⟨ad, rfl, hab, hcell⟩ := HR.out.at_ hv1
      have HX := Lib.hid hx
      clear hx hv1
      go_wp2_with fail
      refine upon_add _ _ _ _ ?_
      intro r1 n1 h1
      have H1 := Lib.hid h1.1
      have b1 := h1.2
      clear h1
      have H2 : Hid (cn .f64 r1 = sumL ((l.take (k + 1)).map (cn .f64))) := by
        show _ = _
        rw [sumL_take HX.out, H1.out, HV.out]
      go_wp2
      go_roundw
      case rel => exact ⟨k + 1, r1, _, by omega, by go_num, rfl, H2.out, b1, rfl⟩
      case measure => simp [intOf]; omega
    · have e : k = l.length := by omega
      go_wp2
      go_ret
      have h1 := HV.out
      rw [e, List.take_length] at h1
      exact closeR h1 ht
set_option maxHeartbeats 1000000 in
theorem RSum_c (A : Option Addr) (l : List Nat) (c : Nat) (w : World) (hl : l.length * 8 ≤ 140737488355328) (hr : Reads w w.heap.size A (reals l)) :
    Calls Try.prog 65 #[.slice A l.length c] w (RetR (sumL (l.map (cn .f64))) w) := by
  have HR := Lib.hid hr
  clear hr
  go_enter Try.func65, Try.ntmps65
  go_wp2
  go_loopw [3, 4] (fun s i wr => SumR l w s i wr) (fun _ i _ => l.length - (intOf i).toNat)
  case atStart => exact ⟨0, 0, 0, Nat.zero_le _, rfl, rfl, rfl, by decide, rfl⟩
  case round =>
    obtain ⟨k, t, m, hk, rfl, rfl, hv, ht, rfl⟩ := hrel
    have HV := Lib.hid hv
    clear hv
    by_cases hlt : k < l.length
    · obtain ⟨x, hx⟩ := some_of_lt hlt
      have hv1 : (reals l)[k]? = some (.float .f64 x) := by simp [reals, hx]
      obtain ⟨ad, rfl, hab, hcell⟩ := HR.out.at_ hv1
      have HX := Lib.hid hx
      clear hx hv1
      go_wp2_with fail
      refine upon_add _ _ _ _ ?_
      intro r1 n1 h1
      have H1 := Lib.hid h1.1
      have b1 := h1.2
      clear h1
      have H2 : Hid (cn .f64 r1 = sumL ((l.take (k + 1)).map (cn .f64))) := by
        show _ = _
        rw [sumL_take HX.out, H1.out, HV.out]
      go_wp2
      go_roundw
      case rel => exact ⟨k + 1, r1, _, by omega, by go_num, rfl, H2.out, b1, rfl⟩
      case measure => simp [intOf]; omega
    · have e : k = l.length := by omega
      go_wp2
      go_ret
      have h1 := HV.out
      rw [e, List.take_length] at h1
      exact closeR h1 ht
end Go.Proofs.Ytandllekeimpgaa
namespace Go.Proofs.Ytandllekeimpgaa
open Go.RowKit Fl Ieee
set_option maxRecDepth 20000
attribute [local go_sem] Fl.order_self Fl.order_self' Fl.order_eq Fl.order_ne Fl.order_lt Fl.order_gt Fl.fle_fold Fl.fge_fold
/-- The first of the greatest of the first k numbers: where, and which. -/
def great (l : List Nat) : Nat → Int × Nat
  | 0 => (-1, 0)
  | k + 1 => match l[k]? with
    | some x => if !isNaN double x && (decide ((great l k).1 < 0) || flt .f64 (great l k).2 x) then ((k : Int), x) else great l k
    | none => great l k
theorem great_bounds (l : List Nat) (k : Nat) : -1 ≤ (great l k).1 ∧ (great l k).1 < (k : Int) ∧ (0 ≤ (great l k).1 → l[(great l k).1.toNat]? = some (great l k).2) ∧ ((great l k).1 < 0 → great l k = (-1, 0)) := by
  induction k with
  | zero => exact ⟨by simp [great], by simp [great], fun h => absurd h (by simp [great]), fun _ => rfl⟩
  | succ k ih =>
    unfold great
    split
    · rename_i x hx
      split
      · exact ⟨by show (-1 : Int) ≤ (k : Int); omega, by show (k : Int) < ((k + 1 : Nat) : Int); omega, fun _ => by simpa using hx, fun h => absurd h (by show ¬ ((k : Int) < 0); omega)⟩
      · exact ⟨ih.1, by omega, ih.2.2.1, ih.2.2.2⟩
    · exact ⟨ih.1, by omega, ih.2.2.1, ih.2.2.2⟩
theorem great_hit {l : List Nat} {k x : Nat} (h : l[k]? = some x) (hc : (!isNaN double x && (decide ((great l k).1 < 0) || flt .f64 (great l k).2 x)) = true) : great l (k + 1) = ((k : Int), x) := by
  rw [great]; simp only [h]; rw [if_pos hc]
theorem great_miss {l : List Nat} {k x : Nat} (h : l[k]? = some x) (hc : (!isNaN double x && (decide ((great l k).1 < 0) || flt .f64 (great l k).2 x)) = false) : great l (k + 1) = great l k := by
  rw [great]; simp only [h]; rw [if_neg (by rw [hc]; simp)]
end Go.Proofs.Ytandllekeimpgaa
namespace Go.Proofs.Ytandllekeimpgaa
open Go.RowKit Fl Ieee
set_option maxRecDepth 20000
attribute [local go_sem] x_f64frombits
attribute [local go_sem] x_f64bits
attribute [local go_sem] Fl.order_self Fl.order_self' Fl.order_eq Fl.order_ne Fl.order_lt Fl.order_gt Fl.fle_fold Fl.fge_fold Fl.negFloat_flip
theorem grown_trans {a b c : World} (h : Grown a b) (k : Grown b c) : Grown a c :=
  ⟨World.keptBut_trans h.1 k.1, fun x => (k.2.1 x).trans (h.2.1 x), Nat.le_trans h.2.2 k.2.2⟩
theorem SameNumber_c (a b c d : Nat) (w : World) :
    Calls Try.prog 42 #[.complex .f64 a b, .complex .f64 c d] w fun e w' => e = .returned (.bool (pSame (cn .f64 a, cn .f64 b) (cn .f64 c, cn .f64 d))) ∧ w = w' := by
  unfold pSame
  cases hd : decide (cn .f64 a = cn .f64 c)
  · go_enter Try.func42, Try.ntmps42
    go_wp2_with (go_at_call 66; refine (kSameReal_c _ _ _).mono ?_; rintro e w' ⟨rfl, rfl⟩)
    go_ret; exact ⟨ret_bool (by rfl), rfl⟩
  · go_enter Try.func42, Try.ntmps42
    go_wp2_with (go_at_call 66; refine (kSameReal_c _ _ _).mono ?_; rintro e w' ⟨rfl, rfl⟩)
    go_ret; exact ⟨ret_bool (by rfl), rfl⟩
theorem SameNumber_t {a b c d : Nat} {v : C} (h : Hid ((cn .f64 a, cn .f64 b) = v)) (h' : Hid ((cn .f64 c, cn .f64 d) = v)) (w : World) :
    Calls Try.prog 42 #[.complex .f64 a b, .complex .f64 c d] w fun e w' => e = .returned (.bool true) ∧ w = w' := by
  have := SameNumber_c a b c d w
  rw [h.out, h'.out] at this
  have e : pSame v v = true := by simp [pSame]
  rw [e] at this; exact this
end Go.Proofs.Ytandllekeimpgaa
namespace Go.Proofs.Ytandllekeimpgaa
open Go.RowKit Fl Ieee
set_option maxRecDepth 20000
attribute [local go_sem] Fl.order_self Fl.order_self' Fl.order_eq Fl.order_ne Fl.order_lt Fl.order_gt Fl.fle_fold Fl.fge_fold Fl.negFloat_flip x_f64frombits
/-- A real and an error are handed back. -/
def RetRE (v : Nat) (er : Int) (w : World) (e : Ending) (w' : World) : Prop :=
  ∃ x n, e = .returned (.tuple #[.float .f64 x, .int .i64 er]) ∧ cn .f64 x = v ∧ x < 18446744073709551616 ∧ w' = w.drewN n
theorem closeRE {v x n : Nat} {er : Int} {w : World} (h1 : cn .f64 x = v) (hx : x < 18446744073709551616) : RetRE v er w (.returned (.tuple #[.float .f64 x, .int .i64 er])) (w.drewN n) := ⟨x, n, rfl, h1, hx, rfl⟩
theorem closeRE0 {v x : Nat} {er : Int} {w : World} (h1 : cn .f64 x = v) (hx : x < 18446744073709551616) : RetRE v er w (.returned (.tuple #[.float .f64 x, .int .i64 er])) w := ⟨x, 0, rfl, h1, hx, rfl⟩
/-- The three halvings. -/
def tT (t : Nat) : Nat → Nat
  | 0 => t
  | k + 1 => fdiv (tT t k) (fadd fone (fsqrt (fadd fone (fmul (tT t k) (tT t k)))))
/-- 13, 11, .. 1, -1. -/
def dT (k : Nat) : Nat := [4623507967449235456, 4622382067542392832, 4621256167635550208, 4619567317775286272, 4617315517961601024, 4613937818241073152, 4607182418800017408, 13830554455654793216].getD k 0
/-- The sum of the arc's row. -/
def sT (u : Nat) : Nat → Nat
  | 0 => 4589468260265693457
  | k + 1 => fsub (fdiv fone (dT k)) (fmul u (sT u k))
theorem dT_sub : ∀ k, k < 7 → fop .sub .f64 (dT k) 4611686018427387904 = dT (k + 1) := by decide +kernel
theorem dT_pos : ∀ k, k < 7 → flt .f64 0 (dT k) = true := by decide +kernel
theorem dT_end : flt .f64 0 (dT 7) = false := by decide +kernel
theorem dT_good : ∀ k, k < 8 → isNaN double (dT k) = false ∧ dT k < 18446744073709551616 := by decide +kernel
theorem dT_int : ∀ k : Nat, k < 7 → floatOfInt .f64 (13 - 2 * (k : Int)) = dT k := by decide +kernel
theorem cn_dT {k : Nat} (h : k < 8) : cn .f64 (dT k) = dT k := cn_of_not (k := .f64) (dT_good k h).1
/-- Out of the quotient of the sizes. -/
def arc (t : Nat) : Nat := fmul (fmul (fmul 4620693217682128896 (tT t 3)) (sT (fmul (tT t 3) (tT t 3)) 7)) 4615783660508851396
def turn1 (c : Bool) (v : Nat) : Nat := if c then fsub 4618441417868443648 v else v
def turn2 (c : Bool) (v : Nat) : Nat := if c then fsub 4622945017495814144 v else v
def turn3 (c : Bool) (v : Nat) : Nat := if c then fsub 0 v else v
/-- The angle of a number that is finite and not 0: p, q its parts' bits. -/
def angle (p q : Nat) : Nat :=
  let a := rung double p
  let b := rung double q
  turn3 (flt .f64 q 0) (turn2 (flt .f64 p 0) (turn1 (flt .f64 a b) (arc (if flt .f64 b a then fdiv b a else fdiv a b))))
theorem eq_of_cn {x c : Nat} (h : cn .f64 x = c) (hn : isNaN double c = false) : x = c := by
  have h1 : isNaN double x = false := by rw [← h] at hn; exact (isNaN_cn64 x).symm.trans hn
  rw [cn_of_not (k := .f64) h1] at h; exact h
theorem cnK1 : cn .f64 4607182418800017408 = fone := by decide
theorem cnK8 : cn .f64 4620693217682128896 = 4620693217682128896 := by decide
theorem cnKc : cn .f64 4615783660508851396 = 4615783660508851396 := by decide
theorem cnK6 : cn .f64 4618441417868443648 = 4618441417868443648 := by decide
theorem cnK12 : cn .f64 4622945017495814144 = 4622945017495814144 := by decide
theorem cnK2 : cn .f64 4611686018427387904 = 4611686018427387904 := by decide
theorem cnS0 : cn .f64 4589468260265693457 = 4589468260265693457 := by decide
/-- How far the row has come, by the float that counts. -/
def dN : Value → Nat
  | .float _ b => [4623507967449235456, 4622382067542392832, 4621256167635550208, 4619567317775286272, 4617315517961601024, 4613937818241073152, 4607182418800017408].idxOf b
  | _ => 0
theorem int_eq {k : IntKind} {a b : Int} (h : a = b) : Value.int k a = Value.int k b := by rw [h]
theorem dN_less : ∀ j, j < 7 → 8 - dN (.float .f64 (dT (j + 1))) < 8 - dN (.float .f64 (dT j)) := by decide +kernel
end Go.Proofs.Ytandllekeimpgaa
namespace Go.Proofs.Ytandllekeimpgaa
open Go.RowKit Fl Ieee
set_option maxRecDepth 20000
attribute [local go_sem] Fl.order_self Fl.order_self' Fl.order_eq Fl.order_ne Fl.order_lt Fl.order_gt Fl.fle_fold Fl.fge_fold Fl.negFloat_flip x_f64frombits
theorem feq_of {x c : Nat} (h : cn .f64 x = c) (hn : isNaN double c = false) : feq .f64 x c = true := by
  have h1 := eq_of_cn h hn
  subst h1
  have h2 : isNaN FloatKind.f64.format x = false := hn
  rw [feq_self, h2]; rfl
theorem Pick_c (i n : Int) (hn : 0 < n) (hn2 : n ≤ 4611686018427387904) (w : World) :
    Calls Try.prog 44 #[.int .i64 i, .int .i64 n] w fun e w' => e = .returned (.int .i64 (i % n)) ∧ w = w' := by
  obtain ⟨t, ht⟩ : ∃ t, i.tmod n = t := ⟨_, rfl⟩
  have a1 := Int.tmod_lt_of_pos i hn
  have a2 := Int.tmod_lt_of_pos (-i) hn
  rw [Int.neg_tmod] at a2
  have a3 := emod_of_tmod i n hn
  rw [ht] at a1 a2 a3
  have hz : (n == 0) = false := beq_eq_false_iff_ne.2 (by omega)
  by_cases hneg : t < 0
  · rw [if_pos hneg] at a3
    have A3 : Hid _ := a3
    clear a3
    go_enter Try.func44, Try.ntmps44
    go_wp2
    go_ret; exact ⟨ret_int A3.out.symm, rfl⟩
  · rw [if_neg hneg] at a3
    have A3 : Hid _ := a3
    clear a3
    go_enter Try.func44, Try.ntmps44
    go_wp2
    go_ret; exact ⟨ret_int A3.out.symm, rfl⟩
end Go.Proofs.Ytandllekeimpgaa
