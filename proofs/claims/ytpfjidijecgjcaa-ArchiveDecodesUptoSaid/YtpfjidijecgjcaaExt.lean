/- The library's functions without a body, and comparisons of floats, in the walk's form. -/
import Derived.Test.YtpfjidijecgjcaaFlA
import Derived.Test.YtpfjidijecgjcaaChecked
import Derived.KernelRfl
import Derived.Deep.QuietTactic
import Derived.BigQuiet
import Derived.Deep.RegionHeld3
import Derived.Test.YtpfjidijecgjcaaRows
import Derived.ProofKit
import Derived.OpenShut
import Derived.Lib.SmallJoins
import Derived.WalkKit
import Derived.Maps.AppendAt
import Derived.Below
import Derived.Laws.OwnMore
import Derived.Deep.AppendLies
import Derived.Deep.Draws
import Derived.Lib.Hide
import Derived.ChangeSame
import Derived.ChangeVars
namespace Go.Proofs.Ytpfjidijecgjcaa
open Go.RowKit Fl Ieee
theorem grown_drewN (w : World) (n : Nat) : Grown w (w.drewN n) := by
  induction n with
  | zero => exact Grown.refl w
  | succ n ih =>
    have e : w.drewN (n + 1) = (w.drewN n).drew := rfl
    rw [e]; exact ih.drew
theorem grown_dn {W w : World} (h : Grown W w) (n : Nat) : Grown W (w.drewN n) := by
  induction n with
  | zero => exact h
  | succ n ih =>
    have e : w.drewN (n + 1) = (w.drewN n).drew := rfl
    rw [e]; exact ih.drew
theorem grown_ad (w : World) (cs : Array Value) (t : TypeId) (n : Nat) : Grown w ((w.alloc (.cells cs t)).drewN n) := by
  induction n with
  | zero => apply Grown.alloc; exact Grown.refl w
  | succ n ih =>
    have e : (w.alloc (.cells cs t)).drewN (n + 1) = ((w.alloc (.cells cs t)).drewN n).drew := rfl
    rw [e]; exact ih.drew
section
variable {P : Program} {w : World} {a : Addr} {m : Mode}
theorem run_store_float (k : FloatKind) (b : Nat) : (store a (.float k b) m).run P w = stored P w a (.float k b) m := run_store P w a _ m rfl
theorem run_store_complex (k : FloatKind) (b c : Nat) : (store a (.complex k b c) m).run P w = stored P w a (.complex k b c) m := run_store P w a _ m rfl
end
theorem x_f32frombits (n : Int) (w : World) : (callFunc 75 #[.int .u32 n]).run Try.prog w = .ok (.value (.float .f32 n.toNat)) w := by kernel_rfl
theorem x_f32bits (n : Nat) (w : World) : (callFunc 55 #[.float .f32 n]).run Try.prog w = .ok (.value (.int .u32 n)) w := by kernel_rfl
theorem x_f64frombits (n : Int) (w : World) : (callFunc 38 #[.int .u64 n]).run Try.prog w = .ok (.value (.float .f64 n.toNat)) w := by kernel_rfl
theorem x_f64bits (n : Nat) (w : World) : (callFunc 47 #[.float .f64 n]).run Try.prog w = .ok (.value (.int .u64 n)) w := by kernel_rfl
theorem x_sqrt (x : Nat) (w : World) : (callFunc 95 #[.float .f64 x]).run Try.prog w = ((Extern.MathSqrt.sqrt #[.float .f64 x]).run Try.prog w).andThen fun v w' => .ok (.value v) w' :=
  run_callFunc_extern (e := Extern.MathSqrt.sqrt) (P := Try.prog) (f := 95) Try.func95 (by kernel_rfl) (by kernel_rfl) (by kernel_rfl) (by kernel_rfl) _ w
end Go.Proofs.Ytpfjidijecgjcaa
namespace Go.Proofs.Ytpfjidijecgjcaa
open Go.RowKit Fl Ieee
set_option maxRecDepth 20000
attribute [local go_sem] x_f64frombits
attribute [local go_sem] x_f64bits
attribute [local go_sem] Fl.order_self Fl.order_self' Fl.order_eq Fl.order_ne Fl.order_lt Fl.order_gt Fl.fle_fold Fl.fge_fold Fl.u64_clear Fl.u64_sign Fl.u64_flip Fl.u64_or_sign Fl.u32_clear Fl.negFloat_flip

/-- A complex number that is v up to NaN is handed back; the world is as it was but for draws. -/
def RetC (v : C) (w : World) (e : Ending) (w' : World) : Prop :=
  ∃ x y n, e = .returned (.complex .f64 x y) ∧ (cn .f64 x, cn .f64 y) = v ∧ x < 18446744073709551616 ∧ y < 18446744073709551616 ∧ w' = w.drewN n
def RetR (v : Nat) (w : World) (e : Ending) (w' : World) : Prop :=
  ∃ x n, e = .returned (.float .f64 x) ∧ cn .f64 x = v ∧ x < 18446744073709551616 ∧ w' = w.drewN n
def RetB (b : Bool) (w : World) (e : Ending) (w' : World) : Prop := ∃ n, e = .returned (.bool b) ∧ w' = w.drewN n
theorem closeC {v : C} {x y n : Nat} {w : World} (h1 : cn .f64 x = v.1) (h2 : cn .f64 y = v.2) (hx : x < 18446744073709551616) (hy : y < 18446744073709551616) :
    RetC v w (.returned (.complex .f64 x y)) (w.drewN n) := ⟨x, y, n, rfl, by rw [h1, h2], hx, hy, rfl⟩
theorem closeC0 {v : C} {x y : Nat} {w : World} (h1 : cn .f64 x = v.1) (h2 : cn .f64 y = v.2) (hx : x < 18446744073709551616) (hy : y < 18446744073709551616) :
    RetC v w (.returned (.complex .f64 x y)) w := ⟨x, y, 0, rfl, by rw [h1, h2], hx, hy, rfl⟩
theorem closeR {v x n : Nat} {w : World} (h1 : cn .f64 x = v) (hx : x < 18446744073709551616) : RetR v w (.returned (.float .f64 x)) (w.drewN n) := ⟨x, n, rfl, h1, hx, rfl⟩
theorem closeR0 {v x : Nat} {w : World} (h1 : cn .f64 x = v) (hx : x < 18446744073709551616) : RetR v w (.returned (.float .f64 x)) w := ⟨x, 0, rfl, h1, hx, rfl⟩
theorem closeB {b c : Bool} {n : Nat} {w : World} (h : c = b) : RetB b w (.returned (.bool c)) (w.drewN n) := ⟨n, by rw [h], rfl⟩
theorem closeB0 {b c : Bool} {w : World} (h : c = b) : RetB b w (.returned (.bool c)) w := ⟨0, by rw [h], rfl⟩
theorem ret_float {k : FloatKind} {a b : Nat} (h : a = b) : Ending.returned (.float k a) = .returned (.float k b) := by rw [h]
theorem ret_int {k : IntKind} {a b : Int} (h : a = b) : Ending.returned (.int k a) = .returned (.int k b) := by rw [h]
theorem ret_bool {a b : Bool} (h : a = b) : Ending.returned (.bool a) = .returned (.bool b) := by rw [h]
theorem ret_complex {k : FloatKind} {a b c d : Nat} (h : a = c) (h' : b = d) : Ending.returned (.complex k a b) = .returned (.complex k c d) := by rw [h, h']
theorem same_close {k : FloatKind} {a b : Nat} {c : Bool} (h : c = true ↔ ((a : Int) = (b : Int) ∨ (isNaN k.format a = true ∧ isNaN k.format b = true))) {w : World} :
    Ending.returned (.bool c) = .returned (.bool (decide (cn k a = cn k b))) ∧ w = w := by
  have e : c = decide (cn k a = cn k b) := by
    rw [Bool.eq_iff_iff, h, decide_eq_true_eq, cn_eq_iff, Int.ofNat_inj]
  rw [e]; exact ⟨rfl, rfl⟩

theorem mAbs_c (x : Nat) (hx : x < 18446744073709551616) (w : World) :
    Calls Try.prog 94 #[.float .f64 x] w fun e w' => e = .returned (.float .f64 (rung double x)) ∧ w = w' := by
  go_enter Try.func94, Try.ntmps94
  go_wp2
  go_ret; exact ⟨ret_float (by simp), rfl⟩
theorem mCopysign_c (x y : Nat) (hx : x < 18446744073709551616) (hy : y < 18446744073709551616) (w : World) :
    Calls Try.prog 68 #[.float .f64 x, .float .f64 y] w fun e w' => e = .returned (.float .f64 (double.word (sgn double y) (rung double x))) ∧ w = w' := by
  have hr : rung double x < 9223372036854775808 := rung_lt64 x
  go_enter Try.func68, Try.ntmps68
  go_wp2
  all_goals (go_ret; exact ⟨rfl, rfl⟩)
theorem mIsInf_c (x : Nat) (hx : x < 18446744073709551616) (w : World) :
    Calls Try.prog 85 #[.float .f64 x, .int .i64 0] w fun e w' => e = .returned (.bool (isInf double x)) ∧ w = w' := by
  go_enter Try.func85, Try.ntmps85
  go_wp2_with (go_at_call 94; refine (mAbs_c _ (by assumption) _).mono ?_; rintro e w' ⟨rfl, rfl⟩)
  go_ret; exact ⟨ret_bool (flt_max x), rfl⟩
theorem mInf_c (w : World) :
    Calls Try.prog 35 #[.int .i64 1] w fun e w' => e = .returned (.float .f64 9218868437227405312) ∧ w = w' := by
  go_enter Try.func35, Try.ntmps35
  go_wp2
  go_ret; exact ⟨rfl, rfl⟩
theorem mInfNeg_c (w : World) :
    Calls Try.prog 35 #[.int .i64 (-1)] w fun e w' => e = .returned (.float .f64 18442240474082181120) ∧ w = w' := by
  go_enter Try.func35, Try.ntmps35
  go_wp2
  go_ret; exact ⟨rfl, rfl⟩
theorem mNaN_c (w : World) :
    Calls Try.prog 34 #[] w fun e w' => e = .returned (.float .f64 9221120237041090561) ∧ w = w' := by
  go_enter Try.func34, Try.ntmps34
  go_wp2
  go_ret; exact ⟨rfl, rfl⟩
theorem mSqrt_c (x : Nat) (w : World) :
    Calls Try.prog 86 #[.float .f64 x] w (RetR (fsqrt (cn .f64 x)) w) := by
  go_enter Try.func86, Try.ntmps86
  go_wp2_with fail
  refine upon_sqrt (x_sqrt _) ?_
  intro r n h
  go_wp2
  go_ret; exact closeR h.1 h.2
theorem size_c (x : Nat) (hx : x < 18446744073709551616) (w : World) :
    Calls Try.prog 84 #[.float .f64 x] w fun e w' => e = .returned (.float .f64 (rung double x)) ∧ w = w' := by
  go_enter Try.func84, Try.ntmps84
  go_wp2
  go_ret; exact ⟨ret_float (by simp), rfl⟩
theorem kSameReal_c (a b : Nat) (w : World) :
    Calls Try.prog 27 #[.float .f64 a, .float .f64 b] w fun e w' => e = .returned (.bool (decide (cn .f64 a = cn .f64 b))) ∧ w = w' := by
  go_enter Try.func27, Try.ntmps27
  go_wp2
  all_goals (go_ret; exact same_close (by simp_all))
theorem Sub_c (p q c d : Nat) (w : World) :
    Calls Try.prog 83 #[.complex .f64 p q, .complex .f64 c d] w (RetC (pSub (cn .f64 p, cn .f64 q) (cn .f64 c, cn .f64 d)) w) := by
  go_enter Try.func83, Try.ntmps83
  go_wp2_with fail
  refine upon_sub _ _ _ _ ?_
  intro r1 n1 h1
  go_wp2_with fail
  refine upon_sub _ _ _ _ ?_
  intro r2 n2 h2
  go_wp2
  go_ret; exact closeC h1.1 h2.1 h1.2 h2.2
theorem rSub_c (p q c d : Nat) (w : World) :
    Calls Try.prog 64 #[.complex .f64 p q, .complex .f64 c d] w (RetC (pSub (cn .f64 p, cn .f64 q) (cn .f64 c, cn .f64 d)) w) := by
  go_enter Try.func64, Try.ntmps64
  go_wp2_with fail
  refine upon_sub _ _ _ _ ?_
  intro r1 n1 h1
  go_wp2_with fail
  refine upon_sub _ _ _ _ ?_
  intro r2 n2 h2
  go_wp2_with go_in
  go_ret; exact closeC h1.1 h2.1 h1.2 h2.2
end Go.Proofs.Ytpfjidijecgjcaa
namespace Go.Proofs.Ytpfjidijecgjcaa
open Go.RowKit Fl Ieee
set_option maxRecDepth 20000
attribute [local go_sem] x_f64frombits
attribute [local go_sem] x_f64bits
attribute [local go_sem] Fl.order_self Fl.order_self' Fl.order_eq Fl.order_ne Fl.order_lt Fl.order_gt Fl.fle_fold Fl.fge_fold Fl.u64_clear Fl.u64_sign Fl.u64_flip Fl.u64_or_sign Fl.u32_clear Fl.negFloat_flip
def RetNum (a b : Nat) (w : World) (e : Ending) (w' : World) : Prop :=
  ∃ n, e = .returned (.complex .f64 a b) ∧ w' = (w.alloc (.cells #[.int .u64 a, .int .u64 b] 117)).drewN n
theorem Number_c (a b : Nat) (w : World) :
    Calls Try.prog 91 #[.agg #[.int .u64 a, .int .u64 b]] w (RetNum a b w) := by
  go_enter Try.func91, Try.ntmps91
  go_wp2
  go_quiet (fail)
  go_wp2
  go_ret; exact ⟨_, rfl, rfl⟩
theorem feq_cn0 (r : Nat) : feq .f64 r 0 = feq .f64 (cn .f64 r) 0 := by
  have h1 := feq_cn .f64 r 0
  have h0 : cn .f64 0 = 0 := cn_of_not (isNaN_zero .f64)
  rw [h0] at h1; exact h1.symm
theorem isNaN_cn64 (x : Nat) : isNaN double (cn .f64 x) = isNaN double x := isNaN_cn .f64 x
theorem pZero_cn (a b : Nat) : pZero (cn .f64 a, cn .f64 b) = (feq .f64 a 0 && feq .f64 b 0) := by
  unfold pZero
  rw [← feq_cn0, ← feq_cn0]
theorem cn0 : cn .f64 0 = 0 := cn_of_not (isNaN_zero .f64)
theorem cn2 : cn .f64 4611686018427387904 = ftwo := by decide
theorem fle_cn0 (r : Nat) : fle .f64 0 (cn .f64 r) = fle .f64 0 r := by
  have h1 := fle_cn .f64 0 r
  rw [cn0] at h1; exact h1
theorem fin_of_sub {a r : Nat} (ha : a < 18446744073709551616) (h : IsOp .sub .f64 a a r) : feq .f64 r 0 = isFin double a := by
  rw [feq_cn0, h.1, fop_cn, sub_self_eq a ha]
theorem Finite_c (a b : Nat) (ha : a < 18446744073709551616) (hb : b < 18446744073709551616) (w : World) :
    Calls Try.prog 74 #[.complex .f64 a b] w (RetB (pFinite (cn .f64 a, cn .f64 b)) w) := by
  have e : pFinite (cn .f64 a, cn .f64 b) = (isFin double a && isFin double b) := by
    unfold pFinite
    have h1 := isFin_cn .f64 a
    have h2 := isFin_cn .f64 b
    exact congr (congrArg and h1) h2
  rw [e]; clear e
  cases hd : isFin double a
  · go_enter Try.func74, Try.ntmps74
    go_wp2_with fail
    refine upon_sub _ _ _ _ ?_
    intro r1 n1 h1
    have f1 : feq .f64 r1 0 = false := (fin_of_sub ha h1).trans hd
    go_wp2
    go_ret; exact closeB rfl
  · go_enter Try.func74, Try.ntmps74
    go_wp2_with fail
    refine upon_sub _ _ _ _ ?_
    intro r1 n1 h1
    have f1 : feq .f64 r1 0 = true := (fin_of_sub ha h1).trans hd
    go_wp2_with fail
    refine upon_sub _ _ _ _ ?_
    intro r2 n2 h2
    have f2 : feq .f64 r2 0 = isFin double b := fin_of_sub hb h2
    go_wp2
    go_ret; exact closeB rfl
theorem abs_core (z : C) (a b : Nat) (h : z = (cn .f64 a, cn .f64 b)) : pAbs z =
    if isInf double a || isInf double b then finf
    else if isNaN double a || isNaN double b then qn .f64
    else if rung double a = 0 ∧ rung double b = 0 then 0
    else if flt .f64 (rung double a) (rung double b) then absOf (rung double b) (rung double a) else absOf (rung double a) (rung double b) := by
  subst h
  have i1 : isInf double (cn .f64 a) = isInf double a := isInf_cn .f64 a
  have i2 : isInf double (cn .f64 b) = isInf double b := isInf_cn .f64 b
  have n1 : isNaN double (cn .f64 a) = isNaN double a := isNaN_cn .f64 a
  have n2 : isNaN double (cn .f64 b) = isNaN double b := isNaN_cn .f64 b
  unfold pAbs
  simp only [i1, i2, n1, n2]
  split
  · rfl
  · split
    · rfl
    · rename_i hn
      have h1 : isNaN double a = false := by
        cases h : isNaN double a
        · rfl
        · exact absurd (by simp [h]) hn
      have h2 : isNaN double b = false := by
        cases h : isNaN double b
        · rfl
        · exact absurd (by simp [h]) hn
      have e1 : fabs (cn .f64 a) = rung double a := by
        rw [fabs_cn]; exact cn_of_not (k := .f64) ((isNaN_rung double a).trans h1)
      have e2 : fabs (cn .f64 b) = rung double b := by
        rw [fabs_cn]; exact cn_of_not (k := .f64) ((isNaN_rung double b).trans h2)
      rw [e1, e2]
theorem feq_rung0 (a : Nat) : feq .f64 (rung double a) 0 = (!isNaN double a && decide (rung double a = 0)) := by
  have h := feq_zero .f64 (rung double a)
  have e1 : isNaN FloatKind.f64.format (rung double a) = isNaN double a := isNaN_rung double a
  have e2 : rung FloatKind.f64.format (rung double a) = rung double a := rung_rung double a
  rw [e1, e2] at h; exact h
/-- What the walk of a size comes to behind the exchange. -/
theorem absOf_cn (g l r1 r2 r3 r4 r5 : Nat) (h1 : IsOp .quo .f64 l g r1) (h2 : IsOp .mul .f64 r1 r1 r2) (h3 : IsOp .add .f64 4607182418800017408 r2 r3) (h4 : cn .f64 r4 = fsqrt (cn .f64 r3)) (h5 : IsOp .mul .f64 g r4 r5) :
    cn .f64 r5 = absOf (cn .f64 g) (cn .f64 l) := by
  have ho : cn .f64 4607182418800017408 = fone := by decide
  rw [h5.1, h4, h3.1, h2.1, h1.1, ho]; rfl
theorem Abs_c (p q : Nat) (hp : p < 18446744073709551616) (hq : q < 18446744073709551616) (w : World) :
    Calls Try.prog 60 #[.complex .f64 p q] w (RetR (pAbs (cn .f64 p, cn .f64 q)) w) := by
  have hv := abs_core _ p q rfl
  have r1 := rung_lt64' p
  have r2 := rung_lt64' q
  obtain ⟨v, ev⟩ : ∃ v, v = pAbs (cn .f64 p, cn .f64 q) := ⟨_, rfl⟩
  rw [← ev] at hv ⊢
  have HV : Hid _ := hv
  clear hv ev
  have k1 := feq_rung0 p
  have k2 := feq_rung0 q
  have tail : ∀ (g l : Nat) (W : World) (v : Nat), v = absOf (cn .f64 g) (cn .f64 l) → True := fun _ _ _ _ _ => trivial
  by_cases hi : (isInf double p || isInf double q) = true
  · -- an infinity
    have e : v = finf := by rw [HV.out, if_pos hi]
    have ei : cn .f64 9218868437227405312 = v := by rw [e]; decide
    clear HV e k1 k2 tail
    have EI : Hid _ := ei
    clear ei
    cases h1 : isInf double p
    · have h2 : isInf double q = true := by rw [h1] at hi; simpa using hi
      clear hi
      cases hs : flt .f64 (rung double p) (rung double q)
      all_goals
        go_enter Try.func60, Try.ntmps60
        go_wp2_with (first
          | (go_at_call 84; refine (size_c _ (by assumption) _).mono ?_; rintro e w' ⟨rfl, rfl⟩)
          | (go_at_call 85; refine (mIsInf_c _ (by assumption) _).mono ?_; rintro e w' ⟨rfl, rfl⟩)
          | (go_at_call 35; refine (mInf_c _).mono ?_; rintro e w' ⟨rfl, rfl⟩))
        go_ret; exact closeR0 EI.out (by omega)
    · clear hi
      cases hs : flt .f64 (rung double p) (rung double q)
      all_goals
        go_enter Try.func60, Try.ntmps60
        go_wp2_with (first
          | (go_at_call 84; refine (size_c _ (by assumption) _).mono ?_; rintro e w' ⟨rfl, rfl⟩)
          | (go_at_call 85; refine (mIsInf_c _ (by assumption) _).mono ?_; rintro e w' ⟨rfl, rfl⟩)
          | (go_at_call 35; refine (mInf_c _).mono ?_; rintro e w' ⟨rfl, rfl⟩))
        go_ret; exact closeR0 EI.out (by omega)
  · have h1 : isInf double p = false := by
      cases h : isInf double p
      · rfl
      · exact absurd (by simp [h]) hi
    have h2 : isInf double q = false := by
      cases h : isInf double q
      · rfl
      · exact absurd (by simp [h]) hi
    have HV1 : Hid (v = if isNaN double p || isNaN double q then qn .f64
      else if rung double p = 0 ∧ rung double q = 0 then 0
      else if flt .f64 (rung double p) (rung double q) then absOf (rung double q) (rung double p) else absOf (rung double p) (rung double q)) := by
      have := HV.out; rw [if_neg hi] at this; exact this
    clear HV hi tail
    by_cases hz : (feq .f64 (rung double p) 0 && feq .f64 (rung double q) 0) = true
    · -- both are noughts
      have ⟨z1, z2⟩ : feq .f64 (rung double p) 0 = true ∧ feq .f64 (rung double q) 0 = true := by simpa using hz
      have ev : cn .f64 0 = v := by
        rw [HV1.out]
        rw [k1] at z1; rw [k2] at z2
        simp only [Bool.and_eq_true, Bool.not_eq_true', decide_eq_true_eq] at z1 z2
        rw [if_neg (by simp [z1.1, z2.1]), if_pos ⟨z1.2, z2.2⟩]
        decide
      have s0 : flt .f64 (rung double p) (rung double q) = false := by
        have h := flt_def .f64 (rung double p) (rung double q)
        rw [k1] at z1; rw [k2] at z2
        simp only [Bool.and_eq_true, Bool.not_eq_true', decide_eq_true_eq] at z1 z2
        rw [z1.2, z2.2]; decide
      clear HV1 k1 k2 hz
      have EV : Hid _ := ev
      clear ev
      go_enter Try.func60, Try.ntmps60
      go_wp2_with (first
        | (go_at_call 84; refine (size_c _ (by assumption) _).mono ?_; rintro e w' ⟨rfl, rfl⟩)
        | (go_at_call 85; refine (mIsInf_c _ (by assumption) _).mono ?_; rintro e w' ⟨rfl, rfl⟩))
      go_ret; exact closeR0 EV.out (by omega)
    · have hz0 : (feq .f64 (rung double p) 0 && feq .f64 (rung double q) 0) = false := Bool.eq_false_iff.2 hz
      have key : v = if flt .f64 (rung double p) (rung double q) then absOf (cn .f64 (rung double q)) (cn .f64 (rung double p)) else absOf (cn .f64 (rung double p)) (cn .f64 (rung double q)) := by
        rw [HV1.out]
        by_cases hn : (isNaN double p || isNaN double q) = true
        · rw [if_pos hn]
          have hn' : isNaN double (cn .f64 (rung double p)) = true ∨ isNaN double (cn .f64 (rung double q)) = true := by
            have a1 : isNaN double (cn .f64 (rung double p)) = isNaN double p := (isNaN_cn .f64 _).trans (isNaN_rung double p)
            have a2 : isNaN double (cn .f64 (rung double q)) = isNaN double q := (isNaN_cn .f64 _).trans (isNaN_rung double q)
            rw [a1, a2]
            cases h : isNaN double p
            · right; rw [h] at hn; simpa using hn
            · left; rfl
          split
          · rw [absOf_nan hn'.symm]
          · rw [absOf_nan hn']
        · rw [if_neg hn]
          have ⟨n1, n2⟩ : isNaN double p = false ∧ isNaN double q = false := by simpa using hn
          have c1 : cn .f64 (rung double p) = rung double p := cn_of_not (k := .f64) ((isNaN_rung double p).trans n1)
          have c2 : cn .f64 (rung double q) = rung double q := cn_of_not (k := .f64) ((isNaN_rung double q).trans n2)
          rw [c1, c2]
          rw [if_neg]
          intro h
          rw [k1, k2, n1, n2, h.1, h.2] at hz0
          simp at hz0
      clear HV1 k1 k2 hz
      have zz : (feq .f64 (rung double p) 0 = false) ∨ (feq .f64 (rung double p) 0 = true ∧ feq .f64 (rung double q) 0 = false) := by
        cases h : feq .f64 (rung double p) 0
        · exact .inl rfl
        · refine .inr ⟨rfl, ?_⟩; rw [h] at hz0; simpa using hz0
      clear hz0
      have zz' : (feq .f64 (rung double q) 0 = false) ∨ (feq .f64 (rung double q) 0 = true ∧ feq .f64 (rung double p) 0 = false) := by
        rcases zz with h | ⟨h, h'⟩
        · cases h2 : feq .f64 (rung double q) 0
          · exact .inl rfl
          · exact .inr ⟨rfl, h⟩
        · exact .inl h'
      cases hs : flt .f64 (rung double p) (rung double q)
      · rw [hs] at key
        have KEY : Hid _ := key
        clear key zz'
        rcases zz with z1 | ⟨z1, z2⟩
        all_goals
          go_enter Try.func60, Try.ntmps60
          go_wp2_with (first
            | (go_at_call 84; refine (size_c _ (by assumption) _).mono ?_; rintro e w' ⟨rfl, rfl⟩)
            | (go_at_call 85; refine (mIsInf_c _ (by assumption) _).mono ?_; rintro e w' ⟨rfl, rfl⟩))
          refine upon_quo _ _ _ _ ?_
          intro x1 n1 g1
          go_wp2_with fail
          refine upon_mul _ _ _ _ ?_
          intro x2 n2 g2
          go_wp2_with fail
          refine upon_add _ _ _ _ ?_
          intro x3 n3 g3
          go_wp2_with fail
          refine (mSqrt_c _ _).mono ?_
          rintro e w' ⟨x4, n4, rfl, g4, l4, rfl⟩
          have G4 : Hid _ := g4
          clear g4
          go_wp2_with fail
          refine upon_mul _ _ _ _ ?_
          intro x5 n5 g5
          go_wp2
          go_ret; exact closeR ((absOf_cn _ _ _ _ _ _ _ g1 g2 g3 G4.out g5).trans KEY.out.symm) g5.2
      · rw [hs] at key
        have KEY : Hid _ := key
        clear key zz
        rcases zz' with z1 | ⟨z1, z2⟩
        all_goals
          go_enter Try.func60, Try.ntmps60
          go_wp2_with (first
            | (go_at_call 84; refine (size_c _ (by assumption) _).mono ?_; rintro e w' ⟨rfl, rfl⟩)
            | (go_at_call 85; refine (mIsInf_c _ (by assumption) _).mono ?_; rintro e w' ⟨rfl, rfl⟩))
          refine upon_quo _ _ _ _ ?_
          intro x1 n1 g1
          go_wp2_with fail
          refine upon_mul _ _ _ _ ?_
          intro x2 n2 g2
          go_wp2_with fail
          refine upon_add _ _ _ _ ?_
          intro x3 n3 g3
          go_wp2_with fail
          refine (mSqrt_c _ _).mono ?_
          rintro e w' ⟨x4, n4, rfl, g4, l4, rfl⟩
          have G4 : Hid _ := g4
          clear g4
          go_wp2_with fail
          refine upon_mul _ _ _ _ ?_
          intro x5 n5 g5
          go_wp2
          go_ret; exact closeR ((absOf_cn _ _ _ _ _ _ _ g1 g2 g3 G4.out g5).trans KEY.out.symm) g5.2
end Go.Proofs.Ytpfjidijecgjcaa
namespace Go.Proofs.Ytpfjidijecgjcaa
open Go.RowKit Fl Ieee
set_option maxRecDepth 20000
attribute [local go_sem] x_f64frombits
attribute [local go_sem] x_f64bits
attribute [local go_sem] Fl.order_self Fl.order_self' Fl.order_eq Fl.order_ne Fl.order_lt Fl.order_gt Fl.fle_fold Fl.fge_fold Fl.u64_clear Fl.u64_sign Fl.u64_flip Fl.u64_or_sign Fl.u32_clear Fl.negFloat_flip
theorem rsize_c (x : Nat) (hx : x < 18446744073709551616) (w : World) :
    Calls Try.prog 87 #[.float .f64 x] w fun e w' => e = .returned (.float .f64 (rung double x)) ∧ w = w' := by
  go_enter Try.func87, Try.ntmps87
  go_wp2
  go_ret; exact ⟨ret_float (by simp), rfl⟩
theorem rFiniteReal_c (a : Nat) (ha : a < 18446744073709551616) (w : World) :
    Calls Try.prog 92 #[.float .f64 a] w (RetB (isFin double a) w) := by
  go_enter Try.func92, Try.ntmps92
  go_wp2_with fail
  refine upon_sub _ _ _ _ ?_
  intro r1 n1 h1
  have f1 : feq .f64 r1 0 = isFin double a := fin_of_sub ha h1
  go_wp2
  go_ret; exact closeB rfl
theorem rFinite_c (a b : Nat) (ha : a < 18446744073709551616) (hb : b < 18446744073709551616) (w : World) :
    Calls Try.prog 80 #[.complex .f64 a b] w (RetB (pFinite (cn .f64 a, cn .f64 b)) w) := by
  have e : pFinite (cn .f64 a, cn .f64 b) = (isFin double a && isFin double b) := by
    unfold pFinite
    have h1 := isFin_cn .f64 a
    have h2 := isFin_cn .f64 b
    exact congr (congrArg and h1) h2
  rw [e]; clear e
  cases hd : isFin double a
  · go_enter Try.func80, Try.ntmps80
    go_wp2_with (go_at_call 92; refine (rFiniteReal_c _ (by assumption) _).mono ?_; rintro e w' ⟨n, rfl, rfl⟩)
    go_ret; exact closeB rfl
  · go_enter Try.func80, Try.ntmps80
    go_wp2_with (go_at_call 92; refine (rFiniteReal_c _ (by assumption) _).mono ?_; rintro e w' ⟨n, rfl, rfl⟩)
    go_ret; exact closeB rfl
theorem feq_inf (x : Nat) : feq .f64 (rung double x) 9218868437227405312 = isInf double x := by
  have h1 : isNaN double 9218868437227405312 = false := by decide
  have h2 : key double 9218868437227405312 = 9218868437227405312 := by decide
  have h3 : double.infRung = 9218868437227405312 := by decide
  have e := feq_def .f64 (rung double x) 9218868437227405312
  rw [e]
  show (!isNaN double (rung double x) && !isNaN double 9218868437227405312 && decide (key double (rung double x) = key double 9218868437227405312)) = isInf double x
  rw [h1, h2, key_rung]
  unfold isNaN isInf
  rw [rung_rung, h3, Bool.eq_iff_iff]
  simp; omega
theorem rinfinite_c (x : Nat) (hx : x < 18446744073709551616) (w : World) :
    Calls Try.prog 88 #[.float .f64 x] w fun e w' => e = .returned (.bool (isInf double x)) ∧ w = w' := by
  have hi := feq_inf x
  go_enter Try.func88, Try.ntmps88
  go_wp2_with (first
    | (go_at_call 87; refine (rsize_c _ (by assumption) _).mono ?_; rintro e w' ⟨rfl, rfl⟩)
    | (go_at_call 35; refine (mInf_c _).mono ?_; rintro e w' ⟨rfl, rfl⟩))
  go_ret; exact ⟨rfl, rfl⟩
theorem isInf_rung64 (x : Nat) : isInf double (rung double x) = isInf double x := isInf_rung double x
theorem isNaN_rung64 (x : Nat) : isNaN FloatKind.f64.format (rung double x) = isNaN double x := isNaN_rung double x
theorem rAbs_c (p q : Nat) (hp : p < 18446744073709551616) (hq : q < 18446744073709551616) (w : World) :
    Calls Try.prog 63 #[.complex .f64 p q] w (RetR (pAbs (cn .f64 p, cn .f64 q)) w) := by
  have hv := abs_core _ p q rfl
  have r1 := rung_lt64' p
  have r2 := rung_lt64' q
  have s1 := isInf_rung64 p
  have s2 := isInf_rung64 q
  have t1 := isNaN_rung64 p
  have t2 := isNaN_rung64 q
  obtain ⟨v, ev⟩ : ∃ v, v = pAbs (cn .f64 p, cn .f64 q) := ⟨_, rfl⟩
  rw [← ev] at hv ⊢
  have HV : Hid _ := hv
  clear hv ev
  have k1 := feq_rung0 p
  have k2 := feq_rung0 q
  by_cases hi : (isInf double p || isInf double q) = true
  · have e : v = finf := by rw [HV.out, if_pos hi]
    have ei : cn .f64 9218868437227405312 = v := by rw [e]; decide
    clear HV e k1 k2
    have EI : Hid _ := ei
    clear ei
    have hi' : (isInf double p = true) ∨ (isInf double p = false ∧ isInf double q = true) := by
      cases h : isInf double p
      · rw [h] at hi; exact .inr ⟨rfl, by simpa using hi⟩
      · exact .inl rfl
    clear hi
    rcases hi' with h1 | ⟨h1, h2⟩
    all_goals
      go_enter Try.func63, Try.ntmps63
      go_wp2_with (first
        | (go_at_call 87; refine (rsize_c _ (by assumption) _).mono ?_; rintro e w' ⟨rfl, rfl⟩)
        | (go_at_call 88; refine (rinfinite_c _ (by assumption) _).mono ?_; rintro e w' ⟨rfl, rfl⟩)
        | (go_at_call 35; refine (mInf_c _).mono ?_; rintro e w' ⟨rfl, rfl⟩))
      go_ret; exact closeR0 EI.out (by omega)
  · have ⟨h1, h2⟩ : isInf double p = false ∧ isInf double q = false := by simpa using hi
    have HV1 : Hid (v = if isNaN double p || isNaN double q then qn .f64
      else if rung double p = 0 ∧ rung double q = 0 then 0
      else if flt .f64 (rung double p) (rung double q) then absOf (rung double q) (rung double p) else absOf (rung double p) (rung double q)) := by
      have := HV.out; rw [if_neg hi] at this; exact this
    clear HV hi
    by_cases hz : (feq .f64 (rung double p) 0 && feq .f64 (rung double q) 0) = true
    · have ⟨z1, z2⟩ : feq .f64 (rung double p) 0 = true ∧ feq .f64 (rung double q) 0 = true := by simpa using hz
      have ev : cn .f64 0 = v := by
        rw [HV1.out]
        rw [k1] at z1; rw [k2] at z2
        simp only [Bool.and_eq_true, Bool.not_eq_true', decide_eq_true_eq] at z1 z2
        rw [if_neg (by simp [z1.1, z2.1]), if_pos ⟨z1.2, z2.2⟩]
        decide
      clear HV1 k1 k2 hz
      have EV : Hid _ := ev
      clear ev
      go_enter Try.func63, Try.ntmps63
      go_wp2_with (first
        | (go_at_call 87; refine (rsize_c _ (by assumption) _).mono ?_; rintro e w' ⟨rfl, rfl⟩)
        | (go_at_call 88; refine (rinfinite_c _ (by assumption) _).mono ?_; rintro e w' ⟨rfl, rfl⟩))
      go_ret; exact closeR0 EV.out (by omega)
    · have hz0 : (feq .f64 (rung double p) 0 && feq .f64 (rung double q) 0) = false := Bool.eq_false_iff.2 hz
      have zz : (feq .f64 (rung double p) 0 = false) ∨ (feq .f64 (rung double p) 0 = true ∧ feq .f64 (rung double q) 0 = false) := by
        cases h : feq .f64 (rung double p) 0
        · exact .inl rfl
        · refine .inr ⟨rfl, ?_⟩; rw [h] at hz0; simpa using hz0
      by_cases hn : (isNaN double p || isNaN double q) = true
      · have e1 : v = qn .f64 := by rw [HV1.out, if_pos hn]
        have E1 : Hid _ := e1
        clear e1 HV1 k1 k2 hz hz0
        have hn' : (isNaN double p = true) ∨ (isNaN double p = false ∧ isNaN double q = true) := by
          cases h : isNaN double p
          · rw [h] at hn; exact .inr ⟨rfl, by simpa using hn⟩
          · exact .inl rfl
        have hfin : ∀ r, IsOp .add .f64 (rung double p) (rung double q) r → cn .f64 r = qn .f64 := by
          intro r hr
          rw [hr.1, fop_cn]
          rcases hn' with h | ⟨_, h⟩
          · exact fop_nan_l (k := .f64) ((isNaN_rung double p).trans h)
          · exact fop_nan_r (k := .f64) ((isNaN_rung double q).trans h)
        have HF : Hid _ := hfin
        clear hn hfin
        rcases zz with z1 | ⟨z1, z2⟩
        all_goals
          rcases hn' with n1 | ⟨n1, n2⟩
          all_goals
            go_enter Try.func63, Try.ntmps63
            go_wp2_with (first
              | (go_at_call 87; refine (rsize_c _ (by assumption) _).mono ?_; rintro e w' ⟨rfl, rfl⟩)
              | (go_at_call 88; refine (rinfinite_c _ (by assumption) _).mono ?_; rintro e w' ⟨rfl, rfl⟩))
            refine upon_add _ _ _ _ ?_
            intro x1 m1 g1
            go_wp2
            go_ret; exact closeR ((HF.out _ g1).trans E1.out.symm) g1.2
      · have ⟨n1, n2⟩ : isNaN double p = false ∧ isNaN double q = false := by simpa using hn
        have c1 : cn .f64 (rung double p) = rung double p := cn_of_not (k := .f64) ((isNaN_rung double p).trans n1)
        have c2 : cn .f64 (rung double q) = rung double q := cn_of_not (k := .f64) ((isNaN_rung double q).trans n2)
        have key : v = if flt .f64 (rung double p) (rung double q) then absOf (cn .f64 (rung double q)) (cn .f64 (rung double p)) else absOf (cn .f64 (rung double p)) (cn .f64 (rung double q)) := by
          rw [HV1.out, if_neg hn, c1, c2, if_neg]
          intro h
          rw [k1, k2, n1, n2, h.1, h.2] at hz0
          simp at hz0
        clear HV1 k1 k2 hz hz0 hn c1 c2
        cases hs : flt .f64 (rung double p) (rung double q)
        all_goals
          rw [hs] at key
          have KEY : Hid _ := key
          clear key
          rcases zz with z1 | ⟨z1, z2⟩
          all_goals
            go_enter Try.func63, Try.ntmps63
            go_wp2_with (first
              | (go_at_call 87; refine (rsize_c _ (by assumption) _).mono ?_; rintro e w' ⟨rfl, rfl⟩)
              | (go_at_call 88; refine (rinfinite_c _ (by assumption) _).mono ?_; rintro e w' ⟨rfl, rfl⟩))
            refine upon_quo _ _ _ _ ?_
            intro x1 n1 g1
            go_wp2_with fail
            refine upon_mul _ _ _ _ ?_
            intro x2 n2 g2
            go_wp2_with fail
            refine upon_add _ _ _ _ ?_
            intro x3 n3 g3
            go_wp2_with fail
            refine (mSqrt_c _ _).mono ?_
            rintro e w' ⟨x4, n4, rfl, g4, l4, rfl⟩
            have G4 : Hid _ := g4
            clear g4
            go_wp2_with fail
            refine upon_mul _ _ _ _ ?_
            intro x5 n5 g5
            go_wp2
            go_ret; exact closeR ((absOf_cn _ _ _ _ _ _ _ g1 g2 g3 G4.out g5).trans KEY.out.symm) g5.2
end Go.Proofs.Ytpfjidijecgjcaa
namespace Go.Proofs.Ytpfjidijecgjcaa
open Go.RowKit
theorem wf_nat_u64 {a : Int} (h : (Lit.int .u64 a).wf = true) : ∃ n : Nat, a = (n : Int) ∧ n < 18446744073709551616 := by
  have h1 : 0 ≤ a ∧ a ≤ 18446744073709551615 := by simpa [Lit.wf, IntKind.min, IntKind.max, IntKind.signed, IntKind.bits] using h
  exact ⟨a.toNat, by omega, by omega⟩
theorem wf_nat_u32 {a : Int} (h : (Lit.int .u32 a).wf = true) : ∃ n : Nat, a = (n : Int) ∧ n < 4294967296 := by
  have h1 : 0 ≤ a ∧ a ≤ 4294967295 := by simpa [Lit.wf, IntKind.min, IntKind.max, IntKind.signed, IntKind.bits] using h
  exact ⟨a.toNat, by omega, by omega⟩
theorem wf_int_i64 {a : Int} (h : (Lit.int .i64 a).wf = true) : -9223372036854775808 ≤ a ∧ a ≤ 9223372036854775807 := by
  simpa [Lit.wf, IntKind.min, IntKind.max, IntKind.signed, IntKind.bits] using h
theorem wf_nat_u8 {a : Int} (h : (Lit.int .u8 a).wf = true) : ∃ n : Nat, a = (n : Int) ∧ n < 256 := by
  have h1 : 0 ≤ a ∧ a ≤ 255 := by simpa [Lit.wf, IntKind.min, IntKind.max, IntKind.signed, IntKind.bits] using h
  exact ⟨a.toNat, by omega, by omega⟩
end Go.Proofs.Ytpfjidijecgjcaa
namespace Go.Proofs.Ytpfjidijecgjcaa
open Go.RowKit Fl Ieee
theorem quiet_add_left {P : Program} {f : FuncId} {args : Array Value} {w : World} {a n : Nat} {v : Value}
    (h : Calls P f args (w.drewN (a + n)) fun e w' => e = .returned v ∧ w.drewN (a + n) = w') :
    Calls P f args (w.drewN (a + n)) fun e w'' => e = .returned v ∧ ∃ m, w'' = w.drewN (a + m) :=
  h.mono fun _ _ ⟨he, hm⟩ => ⟨he, n, hm.symm⟩
theorem lt_of_some {α : Type} {l : List α} {k : Nat} {x : α} (h : l[k]? = some x) : k < l.length := by
  rcases Nat.lt_or_ge k l.length with h1 | h1
  · exact h1
  · rw [List.getElem?_eq_none h1] at h; cases h
theorem some_of_lt {α : Type} {l : List α} {k : Nat} (h : k < l.length) : ∃ x, l[k]? = some x := ⟨l[k], List.getElem?_eq_getElem h⟩
theorem block_of_add (a : Addr) (n : Nat) : (a.add n).block = a.block := by unfold Addr.add; split <;> rfl
theorem add_of_add (a : Addr) (i j : Nat) : (a.add i).add j = a.add (i + j) := by
  unfold Addr.add
  by_cases hi : i = 0 <;> by_cases hj : j = 0 <;> simp [hi, hj, Nat.add_assoc]
/-- The slice's cells are xs; it lies below block B. -/
def Reads (w : World) (B : Nat) (A : Option Addr) (xs : List Value) : Prop :=
  0 < xs.length → ∃ ad, A = some ad ∧ ad.block < B ∧ ∀ j u, xs[j]? = some u → w.cell? (ad.add j) = some u
section
variable {w w' : World} {B B' : Nat} {A : Option Addr} {xs : List Value}
theorem Reads.at_ {k : Nat} {u : Value} (h : Reads w B A xs) (hk : xs[k]? = some u) : ∃ ad, A = some ad ∧ ad.block < B ∧ w.cell? (ad.add k) = some u := by
  have hl : k < xs.length := by
    rcases Nat.lt_or_ge k xs.length with h1 | h1
    · exact h1
    · rw [List.getElem?_eq_none h1] at hk; cases hk
  obtain ⟨ad, e, hb, hc⟩ := h (by omega)
  exact ⟨ad, e, hb, hc k u hk⟩
theorem Reads.keep (h : Reads w B A xs) (hk : ∀ p : Addr, p.block < B → w'.cell? p = w.cell? p) : Reads w' B A xs := fun hn => by
  obtain ⟨ad, e, hb, hc⟩ := h hn
  exact ⟨ad, e, hb, fun j u hu => (hk _ (by rw [block_of_add]; exact hb)).trans (hc j u hu)⟩
theorem Reads.more (h : Reads w B A xs) (hB : B ≤ B') : Reads w B' A xs := fun hn => by
  obtain ⟨ad, e, hb, hc⟩ := h hn
  exact ⟨ad, e, by omega, hc⟩
theorem Reads.below (h : Reads w B A xs) (hb : Below B w w') : Reads w' B A xs := h.keep fun _ hp => hb.cell hp
theorem Reads.drewN (h : Reads w B A xs) (k : Nat) : Reads (w.drewN k) B A xs := h
theorem Reads.alloc (h : Reads w B A xs) (hB : B ≤ w.heap.size) (o : Obj) : Reads (w.alloc o) B A xs := h.keep fun p hp => World.cell?_alloc_lt w o p (by omega)
theorem Reads.of_own {base n c : Nat} {e : TypeId} (h : w.ownsRow base e 1 (.slice A n c) n xs) : Reads w w.heap.size A xs := by
  intro hn
  have hl := h.1
  obtain ⟨g, cap, hv, _, hlt⟩ := h.form (by omega)
  have hA : A = some ⟨g, 0, none⟩ := by injection hv
  subst hA
  exact ⟨_, rfl, hlt, h.cells (g := g) rfl⟩
theorem Reads.new (w : World) (t : TypeId) (xs : List Value) : Reads (w.alloc (.cells xs.toArray t)) (w.heap.size + 1) (some ⟨w.heap.size, 0, none⟩) xs := by
  intro _
  refine ⟨_, rfl, by simp, fun j u hu => ?_⟩
  have e : (Addr.add ⟨w.heap.size, 0, none⟩ j) = ⟨w.heap.size, j, none⟩ := by
    unfold Addr.add; split <;> simp_all
  rw [e, cell_of_row _ _ _ _ _ _ (heap_alloc_new w _)]
  simpa using hu
theorem Reads.newAt (w : World) (t : TypeId) (xs : List Value) {b : Nat} (hb : b = w.heap.size) : Reads (w.alloc (.cells xs.toArray t)) (w.heap.size + 1) (some ⟨b, 0, none⟩) xs := hb ▸ Reads.new w t xs
end
theorem below_drewN {B : Nat} {a w : World} (h : Below B a w) (n : Nat) : Below B a (w.drewN n) := ⟨h.os, h.tape, h.output, h.size, h.block⟩
theorem size_drewN (w : World) (n : Nat) : (w.drewN n).heap.size = w.heap.size := rfl
/-- A new block behind what has grown. -/
theorem _root_.Go.RowKit.Below.new {B : Nat} {a w : World} (h : Below B a w) (hB : B ≤ a.heap.size) (o : Obj) : Below B a (w.alloc o) := h.alloc (Nat.le_trans hB h.size) o
theorem own_drewN {w : World} {B e size n : Nat} {v : Value} {xs : List Value} (h : w.ownsRow B e size v n xs) (q : Nat) : (w.drewN q).ownsRow B e size v n xs := h
theorem cell_one_at (w : World) (x : Value) (t : TypeId) {b : Nat} (hb : b = w.heap.size) : ∀ j u, [x][j]? = some u → (w.alloc (.cells #[x] t)).cell? ((⟨b, 0, none⟩ : Addr).add j) = some u := hb ▸ cell_one_new w x t
/-- The values of a list of reals. -/
abbrev reals (l : List Nat) : List Value := l.map (Value.float .f64)
def words (l : List Nat) : Prop := ∀ x ∈ l, x < 18446744073709551616
open Go.ChangeShapes Go.WideShapes in
/-- What a row asks behind the call, where below the old heap nothing has turned. -/
theorem post_of_below {H : Type} {enc : TypeId × Value → H} {P : Program} {f : Func} {s : ChangeSpec} {apart fresh handsOn again : Bool} {W W' : World} {args : Array Value} {v : Value} {ds gs : List (DataW H)} {before pa pv : List MemPlace}
    (hW : DataW.Whole enc P f.params.toList s.vars apart W args.toList ds gs before)
    (hres : ∀ (b : Nat) (sp : Nat → Bool) (hd : Bool), DataW.TrodAll enc P W' b sp hd f.resultTypes.toList (v.resultList f.resultTypes.size) (s.fn H (ds ++ gs)).results [])
    (hargs : ∀ sp : Nat → Bool, (∀ p ∈ before, sp p.block = true) → DataW.TrodAll enc P W' 0 sp true f.params.toList args.toList (s.fn H (ds ++ gs)).args pa)
    (hvars : ∀ sp : Nat → Bool, (∀ p ∈ before, sp p.block = true) → DataW.TrodVars enc P W' sp s.vars (s.fn H (ds ++ gs)).vars pv)
    (hps : before = pa ++ pv) (hb : Below W.heap.size W W')
    (hok : ∀ (j : Nat) (t : TypeId) (r : Value), f.resultTypes[j]? = some t → (v.resultList f.resultTypes.size)[j]? = some r → Value.okWide P W' .any 0 t r) :
    s.post enc P f apart fresh handsOn again W args v W' := by
  have hlt := hW.lt
  have hold : ∀ p ∈ before, (fun b => decide (b < W.heap.size)) p.block = true := fun p hp => by simpa using hlt p hp
  refine ⟨ds, gs, before, [], pa, pv, hW, hres _ _ _, hargs _ hold, hvars _ hold, World.keptBut_mono (fun _ f => f.elim) (hb.frame fun _ => False), fun _ => ?_⟩
  obtain ⟨_, _, _, _, _, hz, hn⟩ := hW
  refine ⟨hok, _, _, ([] ++ pa) ++ pv, ⟨[] ++ pa, pv, trodAll_append (hargs _ fun _ _ => rfl) (hres _ _ _), hvars _ fun _ _ => rfl, rfl, ?_, ?_⟩, ?_⟩
  · intro b off hp
    have hm : MemPlace.cell b off ∈ before := by rw [hps]; simpa using hp
    have h1 := hb.frozen (p := ⟨b, off, none⟩) (hlt _ hm)
    exact h1.trans (hz b off hm)
  · intro ha
    have := hn ha
    rw [hps] at this
    simpa using this
  · intro p hp _
    rw [hps]
    simpa using hp
end Go.Proofs.Ytpfjidijecgjcaa
namespace Go.Proofs.Ytpfjidijecgjcaa
open Go.RowKit Fl Ieee
set_option maxRecDepth 20000
attribute [local go_sem] x_f64frombits
attribute [local go_sem] x_f64bits
attribute [local go_sem] Fl.order_self Fl.order_self' Fl.order_eq Fl.order_ne Fl.order_lt Fl.order_gt Fl.fle_fold Fl.fge_fold Fl.u64_clear Fl.u64_sign Fl.u64_flip Fl.u64_or_sign Fl.u32_clear Fl.negFloat_flip

theorem ret_ib {a c : Int} {b d : Bool} (h : a = c) (h' : b = d) : Ending.returned (.tuple #[.int .i64 a, .bool b]) = .returned (.tuple #[.int .i64 c, .bool d]) := by rw [h, h']
theorem ret_fb {a c : Nat} {b d : Bool} (h : a = c) (h' : b = d) : Ending.returned (.tuple #[.float .f64 a, .bool b]) = .returned (.tuple #[.float .f64 c, .bool d]) := by rw [h, h']
theorem u64_wrap (z : Int) : IntKind.u64.wrap z = z % 18446744073709551616 := by simp [IntKind.wrap, IntKind.bits, IntKind.signed]
theorem double_word {x : Nat} (hx : x < 18446744073709551616) : x = if sgn double x then 9223372036854775808 + rung double x else rung double x := by
  have h := word_split (f := double) hx
  have e : double.word (sgn double x) (rung double x) = if sgn double x then 9223372036854775808 + rung double x else rung double x := by
    unfold Format.word; rw [sw64]
  rw [← e]; exact h
theorem inf_double : double.infRung = 9218868437227405312 := by decide
/-- A real's kind. -/
def kind (x : Nat) : Nat :=
  if rung double x = 0 then 0 else if rung double x < 4503599627370496 then 1 else if rung double x < 9218868437227405312 then 2
  else if rung double x = 9218868437227405312 then 3 else 4
/-- A real's place. -/
def plc (x : Nat) : Int := if isNaN double x then 0 else key double x
def atOk (p : Int) : Bool := decide (-9218868437227405312 ≤ p) && decide (p ≤ 9218868437227405312)
def atV (p : Int) : Nat := if atOk p then (if p < 0 then 9223372036854775808 + (-p).toNat else p.toNat) else 0
/-- The real beside one. -/
def nx (x : Nat) (up : Bool) : Nat :=
  if isNaN double x then x
  else if up then (if key double x = 9218868437227405312 then x else atV (key double x + 1))
  else (if key double x = -9218868437227405312 then x else atV (key double x - 1))
theorem rung_mod (x : Nat) : rung double x = x % 9223372036854775808 := by unfold rung; rw [sw64]
theorem key_bounds {x : Nat} (hn : isNaN double x = false) : -9218868437227405312 ≤ key double x ∧ key double x ≤ 9218868437227405312 := by
  simp only [isNaN, decide_eq_false_iff_not, inf_double] at hn
  unfold key; split <;> omega
theorem atV_lt (p : Int) : atV p < 18446744073709551616 := by
  unfold atV atOk; split
  · rename_i h; simp at h; split <;> omega
  · decide
theorem nx_lt {x : Nat} (hx : x < 18446744073709551616) (up : Bool) : nx x up < 18446744073709551616 := by
  unfold nx; split
  · exact hx
  · split <;> split <;> first | exact hx | exact atV_lt _

theorem u64_and_2047 (n : Nat) (hn : n < 18446744073709551616) : bits .and .u64 ((n : Int) / 4503599627370496) 2047 = ((n % 9223372036854775808 / 4503599627370496 : Nat) : Int) := by
  have h := u64_and_nat (n / 4503599627370496) 2047 (by omega) (by omega)
  have e : n / 4503599627370496 &&& 2047 = n / 4503599627370496 % 2048 := Nat.and_two_pow_sub_one_eq_mod (n / 4503599627370496) 11
  rw [e] at h
  have h2 : bits .and .u64 ((n : Int) / 4503599627370496) 2047 = ((n / 4503599627370496 % 2048 : Nat) : Int) := by rw [← h]; congr 1
  have e3 : n % 9223372036854775808 / 4503599627370496 = n / 4503599627370496 % 2048 := Nat.mod_mul_right_div_self n 4503599627370496 2048
  rw [h2, e3]
set_option maxRecDepth 100000 in
theorem RKind_c (x : Nat) (hx : x < 18446744073709551616) (w : World) :
    Calls Try.prog 79 #[.float .f64 x] w fun e w' => e = .returned (.int .i64 (kind x : Nat)) ∧ w = w' := by
  have e : kind x = if x % 9223372036854775808 = 0 then 0 else if x % 9223372036854775808 < 4503599627370496 then 1 else if x % 9223372036854775808 < 9218868437227405312 then 2
    else if x % 9223372036854775808 = 9218868437227405312 then 3 else 4 := by unfold kind; rw [rung_mod]
  have E : Hid _ := e
  clear e
  obtain ⟨u, hu⟩ : ∃ u, x % 9223372036854775808 = u := ⟨_, rfl⟩
  have hi : (x : Int) % 9223372036854775808 = (u : Int) := by omega
  have e2 := E.out
  rw [hu] at e2
  have E2 : Hid _ := e2
  clear E e2 hu
  by_cases h1 : u = 0
  · subst h1
    go_enter Try.func79, Try.ntmps79
    go_wp2
    go_ret; exact ⟨ret_int (by rw [E2.out]; rfl), rfl⟩
  · by_cases h2 : u < 4503599627370496
    · have E3 : Hid (kind x = 1) := by have := E2.out; rw [if_neg h1, if_pos h2] at this; exact this
      have b1 : ((u : Int) == 0) = false := beq_eq_false_iff_ne.2 (by omega)
      have b2 : (u : Int) < 4503599627370496 := by omega
      clear h1 h2 E2
      go_enter Try.func79, Try.ntmps79
      go_wp2
      go_ret; exact ⟨ret_int (by rw [E3.out]; rfl), rfl⟩
    · by_cases h3 : u < 9218868437227405312
      · have E3 : Hid (kind x = 2) := by have := E2.out; rw [if_neg h1, if_neg h2, if_pos h3] at this; exact this
        have b1 : ((u : Int) == 0) = false := beq_eq_false_iff_ne.2 (by omega)
        have b2 : decide ((u : Int) < 4503599627370496) = false := by simp; omega
        have b3 : (u : Int) < 9218868437227405312 := by omega
        clear h1 h2 h3 E2
        go_enter Try.func79, Try.ntmps79
        go_wp2
        go_ret; exact ⟨ret_int (by rw [E3.out]; rfl), rfl⟩
      · by_cases h4 : u = 9218868437227405312
        · subst h4
          go_enter Try.func79, Try.ntmps79
          go_wp2
          go_ret; exact ⟨ret_int (by rw [E2.out]; rfl), rfl⟩
        · have E3 : Hid (kind x = 4) := by have := E2.out; rw [if_neg h1, if_neg h2, if_neg h3, if_neg h4] at this; exact this
          have b1 : ((u : Int) == 0) = false := beq_eq_false_iff_ne.2 (by omega)
          have b2 : decide ((u : Int) < 4503599627370496) = false := by simp; omega
          have b3 : decide ((u : Int) < 9218868437227405312) = false := by simp; omega
          have b4 : ((u : Int) == 9218868437227405312) = false := beq_eq_false_iff_ne.2 (by omega)
          clear h1 h2 h3 h4 E2
          go_enter Try.func79, Try.ntmps79
          go_wp2
          go_ret; exact ⟨ret_int (by rw [E3.out]; rfl), rfl⟩
theorem Kind_c (x : Nat) (hx : x < 18446744073709551616) (w : World) :
    Calls Try.prog 90 #[.float .f64 x] w fun e w' => e = .returned (.int .i64 (kind x : Nat)) ∧ w = w' := by
  have e : kind x = if x % 9223372036854775808 = 0 then 0 else if x % 9223372036854775808 < 4503599627370496 then 1 else if x % 9223372036854775808 < 9218868437227405312 then 2
    else if x % 9223372036854775808 = 9218868437227405312 then 3 else 4 := by unfold kind; rw [rung_mod]
  have E : Hid _ := e
  clear e
  have ha := u64_and_2047 x hx
  go_enter Try.func90, Try.ntmps90
  go_wp2
  all_goals (simp only [u64_wrap, beq_iff_eq, beq_eq_false_iff_ne, ne_eq] at *; go_ret; exact ⟨ret_int (by rw [E.out]; split <;> (try split) <;> (try split) <;> (try split) <;> omega), rfl⟩)
end Go.Proofs.Ytpfjidijecgjcaa
namespace Go.Proofs.Ytpfjidijecgjcaa
open Go.RowKit Fl Ieee
set_option maxRecDepth 20000
end Go.Proofs.Ytpfjidijecgjcaa
namespace Go.Proofs.Ytpfjidijecgjcaa
open Go.RowKit Fl Ieee
set_option maxRecDepth 20000
/-- A sum and its error, up to NaN. -/
def twoSum (a b : Nat) : Nat × Nat :=
  let s := fadd a b
  let t := fsub s a
  let u := fsub s t
  let v := fsub a u
  let w := fsub b t
  (s, fadd v w)
def sumStep (st : Nat × List Nat) (x : Nat) : Nat × List Nat := ((twoSum st.1 x).1, st.2 ++ [(twoSum st.1 x).2])
def sumErr (l : List Nat) : Nat × List Nat := l.foldl sumStep (0, [])
theorem sumErr_take {l : List Nat} {k x : Nat} (h : l[k]? = some x) :
    sumErr ((l.take (k + 1)).map (cn .f64)) = sumStep (sumErr ((l.take k).map (cn .f64))) (cn .f64 x) := by
  have hk : k < l.length := by
    rcases Nat.lt_or_ge k l.length with h1 | h1
    · exact h1
    · rw [List.getElem?_eq_none h1] at h; cases h
  have e : l[k] = x := by rw [List.getElem?_eq_getElem hk] at h; exact Option.some.inj h
  rw [List.take_succ_eq_append_getElem hk, e, List.map_append]
  unfold sumErr
  rw [List.foldl_append]; rfl
/-- Two reals that are v up to NaN are handed back. -/
def RetRR (v : Nat × Nat) (w : World) (e : Ending) (w' : World) : Prop :=
  ∃ x y n, e = .returned (.tuple #[.float .f64 x, .float .f64 y]) ∧ (cn .f64 x, cn .f64 y) = v ∧ x < 18446744073709551616 ∧ y < 18446744073709551616 ∧ w' = w.drewN n
theorem closeRR {v : Nat × Nat} {x y n : Nat} {w : World} (h1 : cn .f64 x = v.1) (h2 : cn .f64 y = v.2) (hx : x < 18446744073709551616) (hy : y < 18446744073709551616) :
    RetRR v w (.returned (.tuple #[.float .f64 x, .float .f64 y])) (w.drewN n) := ⟨x, y, n, rfl, by rw [h1, h2], hx, hy, rfl⟩
end Go.Proofs.Ytpfjidijecgjcaa
namespace Go.Proofs.Ytpfjidijecgjcaa
open Go.RowKit Fl Ieee
set_option maxRecDepth 20000
attribute [local go_sem] Fl.order_self Fl.order_self' Fl.order_eq Fl.order_ne Fl.order_lt Fl.order_gt Fl.fle_fold Fl.fge_fold
end Go.Proofs.Ytpfjidijecgjcaa
namespace Go.Proofs.Ytpfjidijecgjcaa
open Go.RowKit Fl Ieee
set_option maxRecDepth 20000
attribute [local go_sem] Fl.order_self Fl.order_self' Fl.order_eq Fl.order_ne Fl.order_lt Fl.order_gt Fl.fle_fold Fl.fge_fold
/-- The first of the greatest of the first k numbers: where, and which. -/
def great (l : List Nat) : Nat → Int × Nat
  | 0 => (-1, 0)
  | k + 1 => match l[k]? with
    | some x => if !isNaN double x && (decide ((great l k).1 < 0) || flt .f64 (great l k).2 x) then ((k : Int), x) else great l k
    | none => great l k
theorem great_bounds (l : List Nat) (k : Nat) : -1 ≤ (great l k).1 ∧ (great l k).1 < (k : Int) ∧ (0 ≤ (great l k).1 → l[(great l k).1.toNat]? = some (great l k).2) ∧ ((great l k).1 < 0 → great l k = (-1, 0)) := by
  induction k with
  | zero => exact ⟨by simp [great], by simp [great], fun h => absurd h (by simp [great]), fun _ => rfl⟩
  | succ k ih =>
    unfold great
    split
    · rename_i x hx
      split
      · exact ⟨by show (-1 : Int) ≤ (k : Int); omega, by show (k : Int) < ((k + 1 : Nat) : Int); omega, fun _ => by simpa using hx, fun h => absurd h (by show ¬ ((k : Int) < 0); omega)⟩
      · exact ⟨ih.1, by omega, ih.2.2.1, ih.2.2.2⟩
    · exact ⟨ih.1, by omega, ih.2.2.1, ih.2.2.2⟩
theorem great_hit {l : List Nat} {k x : Nat} (h : l[k]? = some x) (hc : (!isNaN double x && (decide ((great l k).1 < 0) || flt .f64 (great l k).2 x)) = true) : great l (k + 1) = ((k : Int), x) := by
  rw [great]; simp only [h]; rw [if_pos hc]
theorem great_miss {l : List Nat} {k x : Nat} (h : l[k]? = some x) (hc : (!isNaN double x && (decide ((great l k).1 < 0) || flt .f64 (great l k).2 x)) = false) : great l (k + 1) = great l k := by
  rw [great]; simp only [h]; rw [if_neg (by rw [hc]; simp)]
def GreatR (l : List Nat) (a m i : Value) : Prop := ∃ k : Nat, k ≤ l.length ∧ i = .int .i64 (k : Nat) ∧ a = .int .i64 (great l k).1 ∧ m = .float .f64 (great l k).2
set_option maxHeartbeats 1000000 in
theorem Greatest_c (A : Option Addr) (l : List Nat) (c : Nat) (w : World) (hl : l.length * 8 ≤ 140737488355328) (hr : Reads w w.heap.size A (reals l)) :
    Calls Try.prog 61 #[.slice A l.length c] w fun e w' => e = .returned (.tuple #[.int .i64 (great l l.length).1, .float .f64 (great l l.length).2]) ∧ w = w' := by
  have HR := Lib.hid hr
  clear hr
  go_enter Try.func61, Try.ntmps61
  go_wp2
  go_loop [4, 5, 10] (fun a m i => GreatR l a m i) (fun _ _ i => l.length - (intOf i).toNat)
  case atStart => exact ⟨0, Nat.zero_le _, rfl, rfl, rfl⟩
  case round =>
    obtain ⟨k, hk, rfl, rfl, rfl⟩ := hrel
    obtain ⟨at_, hat⟩ : ∃ t, (great l k).1 = t := ⟨_, rfl⟩
    obtain ⟨mo, hmo⟩ : ∃ t, (great l k).2 = t := ⟨_, rfl⟩
    have hbo := great_bounds l k
    rw [hat, hmo] at hbo
    have hb1 := hbo.1
    have hb2 := hbo.2.1
    clear hbo
    by_cases hlt : k < l.length
    · obtain ⟨x, hx⟩ := some_of_lt hlt
      have hv1 : (reals l)[k]? = some (.float .f64 x) := by simp [reals, hx]
      obtain ⟨ad, rfl, hab, hcell⟩ := HR.out.at_ hv1
      have hit := great_hit hx
      have miss := great_miss hx
      rw [hat, hmo] at hit miss ⊢
      have HX := Lib.hid hx
      have HAT := Lib.hid hat
      have HMO := Lib.hid hmo
      have HIT := Lib.hid hit
      have MISS := Lib.hid miss
      clear hx hv1 hat hmo hit miss
      cases h1 : isNaN double x
      · have h1' : isNaN FloatKind.f64.format x = false := h1
        cases h2 : decide (at_ < 0)
        · cases h3 : flt .f64 mo x
          · have E : Hid (great l (k + 1) = great l k) := MISS.out (by rw [h1, h2, h3]; rfl)
            clear h1
            go_wp2
            go_round
            case rel => exact ⟨k + 1, by omega, by go_num, by rw [E.out, HAT.out], by rw [E.out, HMO.out]⟩
            case measure => simp [intOf]; omega
          · have E : Hid (great l (k + 1) = ((k : Int), x)) := HIT.out (by rw [h1, h2, h3]; rfl)
            clear h1
            go_wp2
            go_round
            case rel => exact ⟨k + 1, by omega, by go_num, by rw [E.out], by rw [E.out]⟩
            case measure => simp [intOf]; omega
        · have E : Hid (great l (k + 1) = ((k : Int), x)) := HIT.out (by rw [h1, h2]; rfl)
          clear h1
          go_wp2
          go_round
          case rel => exact ⟨k + 1, by omega, by go_num, by rw [E.out], by rw [E.out]⟩
          case measure => simp [intOf]; omega
      · have h1' : isNaN FloatKind.f64.format x = true := h1
        have E : Hid (great l (k + 1) = great l k) := MISS.out (by rw [h1]; rfl)
        clear h1
        go_wp2
        go_round
        case rel => exact ⟨k + 1, by omega, by go_num, by rw [E.out, HAT.out], by rw [E.out, HMO.out]⟩
        case measure => simp [intOf]; omega
    · have e : k = l.length := by omega
      go_wp2
      go_ret2
      exact ⟨rfl, rfl⟩
def RGreatR (l : List Nat) (w : World) (a i : Value) (wr : World) : Prop := ∃ k m : Nat, k ≤ l.length ∧ i = .int .i64 (k : Nat) ∧ a = .int .i64 (great l k).1 ∧ wr = w.drewN m
def RetIF (a : Int) (m : Nat) (w : World) (e : Ending) (w' : World) : Prop := ∃ n, e = .returned (.tuple #[.int .i64 a, .float .f64 m]) ∧ w' = w.drewN n
theorem retIF {a b : Int} {m p n : Nat} {w : World} (h : b = a) (h' : p = m) : RetIF a m w (.returned (.tuple #[.int .i64 b, .float .f64 p])) (w.drewN n) := ⟨n, by rw [h, h'], rfl⟩
theorem retIF2 {a b : Int} {m p k n : Nat} {w : World} (h : b = a) (h' : p = m) : RetIF a m w (.returned (.tuple #[.int .i64 b, .float .f64 p])) ((w.drewN k).drewN n) := ⟨k + n, by rw [h, h'], World.drewN_drewN ..⟩
set_option maxHeartbeats 2000000 in
theorem RGreatest_c (A : Option Addr) (l : List Nat) (c : Nat) (w : World) (hl : l.length * 8 ≤ 140737488355328) (hr : Reads w w.heap.size A (reals l)) :
    Calls Try.prog 65 #[.slice A l.length c] w (RetIF (great l l.length).1 (great l l.length).2 w) := by
  have HR := Lib.hid hr
  clear hr
  go_enter Try.func65, Try.ntmps65
  go_wp2
  go_loopw [4, 5] (fun a i wr => RGreatR l w a i wr) (fun _ i _ => l.length - (intOf i).toNat)
  case atStart => exact ⟨0, 0, Nat.zero_le _, rfl, rfl, rfl⟩
  case round =>
    obtain ⟨k, dn, hk, rfl, rfl, rfl⟩ := hrel
    obtain ⟨at_, hat⟩ : ∃ t, (great l k).1 = t := ⟨_, rfl⟩
    obtain ⟨mo, hmo⟩ : ∃ t, (great l k).2 = t := ⟨_, rfl⟩
    have hbo := great_bounds l k
    rw [hat, hmo] at hbo
    have hb1 := hbo.1
    have hb2 := hbo.2.1
    have hb3 := hbo.2.2.1
    have hb4 := hbo.2.2.2
    have HB3 := Lib.hid hb3
    have HB4 := Lib.hid hb4
    clear hbo hb3 hb4
    by_cases hlt : k < l.length
    · obtain ⟨x, hx⟩ := some_of_lt hlt
      have hv1 : (reals l)[k]? = some (.float .f64 x) := by simp [reals, hx]
      obtain ⟨ad, rfl, hab, hcell⟩ := HR.out.at_ hv1
      have hit := great_hit hx
      have miss := great_miss hx
      rw [hat, hmo] at hit miss
      rw [hat]
      have HX := Lib.hid hx
      have HAT := Lib.hid hat
      have HMO := Lib.hid hmo
      have HIT := Lib.hid hit
      have MISS := Lib.hid miss
      clear hx hv1 hat hmo hit miss
      cases h1 : isNaN double x
      · have h1' : isNaN FloatKind.f64.format x = false := h1
        cases h2 : decide (at_ < 0)
        · obtain ⟨p, rfl⟩ : ∃ p : Nat, at_ = (p : Int) := ⟨at_.toNat, by have := of_decide_eq_false h2; omega⟩
          have hpm : l[p]? = some mo := by have := HB3.out (by omega); simpa using this
          have hpv : (reals l)[p]? = some (.float .f64 mo) := by simp [reals, hpm]
          obtain ⟨bd, hbd, _, hcell2⟩ := HR.out.at_ hpv
          obtain rfl : ad = bd := by injection hbd
          clear hpm hpv hbd
          cases h3 : flt .f64 mo x
          · have E : Hid (great l (k + 1) = great l k) := MISS.out (by rw [h1, h2, h3]; rfl)
            clear h1
            go_wp2
            go_quiet (fail)
            go_wp2
            go_roundw
            case rel => exact ⟨k + 1, _, by omega, by go_num, by rw [E.out, HAT.out], rfl⟩
            case measure => simp [intOf]; omega
          · have E : Hid (great l (k + 1) = ((k : Int), x)) := HIT.out (by rw [h1, h2, h3]; rfl)
            clear h1
            go_wp2
            go_quiet (fail)
            go_wp2
            go_roundw
            case rel => exact ⟨k + 1, _, by omega, by go_num, by rw [E.out], rfl⟩
            case measure => simp [intOf]; omega
        · have E : Hid (great l (k + 1) = ((k : Int), x)) := HIT.out (by rw [h1, h2]; rfl)
          clear h1
          go_wp2
          go_quiet (fail)
          go_wp2
          go_roundw
          case rel => exact ⟨k + 1, _, by omega, by go_num, by rw [E.out], rfl⟩
          case measure => simp [intOf]; omega
      · have h1' : isNaN FloatKind.f64.format x = true := h1
        have E : Hid (great l (k + 1) = great l k) := MISS.out (by rw [h1]; rfl)
        clear h1
        go_wp2
        go_quiet (fail)
        go_wp2
        go_roundw
        case rel => exact ⟨k + 1, _, by omega, by go_num, by rw [E.out, HAT.out], rfl⟩
        case measure => simp [intOf]; omega
    · have e : k = l.length := by omega
      rw [hat]
      cases h2 : decide (at_ < 0)
      · obtain ⟨p, rfl⟩ : ∃ p : Nat, at_ = (p : Int) := ⟨at_.toNat, by have := of_decide_eq_false h2; omega⟩
        have hpm : l[p]? = some mo := by have := HB3.out (by omega); simpa using this
        have hpv : (reals l)[p]? = some (.float .f64 mo) := by simp [reals, hpm]
        obtain ⟨bd, rfl, _, hcell2⟩ := HR.out.at_ hpv
        have hpl := lt_of_some hpm
        have HAT := Lib.hid hat
        have HMO := Lib.hid hmo
        clear hpm hpv hat hmo
        have E := Lib.hid e
        clear e
        go_wp2
        go_quiet (fail)
        go_wp2
        go_ret2
        refine retIF2 ?_ ?_
        · rw [← E.out, HAT.out]
        · rw [← E.out, HMO.out]
      · have h4 := HB4.out (of_decide_eq_true h2)
        have HH4 := Lib.hid h4
        have E := Lib.hid e
        clear e hat hmo h4
        go_wp2
        go_ret2
        refine retIF ?_ ?_
        · rw [← E.out, HH4.out]
        · rw [← E.out, HH4.out]
end Go.Proofs.Ytpfjidijecgjcaa
namespace Go.Proofs.Ytpfjidijecgjcaa
open Go.RowKit Fl Ieee
set_option maxRecDepth 20000
attribute [local go_sem] x_f64frombits
attribute [local go_sem] x_f64bits
attribute [local go_sem] Fl.order_self Fl.order_self' Fl.order_eq Fl.order_ne Fl.order_lt Fl.order_gt Fl.fle_fold Fl.fge_fold Fl.negFloat_flip
theorem grown_trans {a b c : World} (h : Grown a b) (k : Grown b c) : Grown a c :=
  ⟨World.keptBut_trans h.1 k.1, fun x => (k.2.1 x).trans (h.2.1 x), Nat.le_trans h.2.2 k.2.2⟩
theorem SameNumber_c (a b c d : Nat) (w : World) :
    Calls Try.prog 76 #[.complex .f64 a b, .complex .f64 c d] w fun e w' => e = .returned (.bool (pSame (cn .f64 a, cn .f64 b) (cn .f64 c, cn .f64 d))) ∧ w = w' := by
  unfold pSame
  cases hd : decide (cn .f64 a = cn .f64 c)
  · go_enter Try.func76, Try.ntmps76
    go_wp2_with (go_at_call 27; refine (kSameReal_c _ _ _).mono ?_; rintro e w' ⟨rfl, rfl⟩)
    go_ret; exact ⟨ret_bool (by rfl), rfl⟩
  · go_enter Try.func76, Try.ntmps76
    go_wp2_with (go_at_call 27; refine (kSameReal_c _ _ _).mono ?_; rintro e w' ⟨rfl, rfl⟩)
    go_ret; exact ⟨ret_bool (by rfl), rfl⟩
theorem SameNumber_t {a b c d : Nat} {v : C} (h : Hid ((cn .f64 a, cn .f64 b) = v)) (h' : Hid ((cn .f64 c, cn .f64 d) = v)) (w : World) :
    Calls Try.prog 76 #[.complex .f64 a b, .complex .f64 c d] w fun e w' => e = .returned (.bool true) ∧ w = w' := by
  have := SameNumber_c a b c d w
  rw [h.out, h'.out] at this
  have e : pSame v v = true := by simp [pSame]
  rw [e] at this; exact this
end Go.Proofs.Ytpfjidijecgjcaa
namespace Go.Proofs.Ytpfjidijecgjcaa
open Go.RowKit Fl Ieee
set_option maxRecDepth 20000
attribute [local go_sem] Fl.order_self Fl.order_self' Fl.order_eq Fl.order_ne Fl.order_lt Fl.order_gt Fl.fle_fold Fl.fge_fold Fl.negFloat_flip x_f64frombits
/-- A real and an error are handed back. -/
def RetRE (v : Nat) (er : Int) (w : World) (e : Ending) (w' : World) : Prop :=
  ∃ x n, e = .returned (.tuple #[.float .f64 x, .int .i64 er]) ∧ cn .f64 x = v ∧ x < 18446744073709551616 ∧ w' = w.drewN n
theorem closeRE {v x n : Nat} {er : Int} {w : World} (h1 : cn .f64 x = v) (hx : x < 18446744073709551616) : RetRE v er w (.returned (.tuple #[.float .f64 x, .int .i64 er])) (w.drewN n) := ⟨x, n, rfl, h1, hx, rfl⟩
theorem closeRE0 {v x : Nat} {er : Int} {w : World} (h1 : cn .f64 x = v) (hx : x < 18446744073709551616) : RetRE v er w (.returned (.tuple #[.float .f64 x, .int .i64 er])) w := ⟨x, 0, rfl, h1, hx, rfl⟩
/-- The three halvings. -/
def tT (t : Nat) : Nat → Nat
  | 0 => t
  | k + 1 => fdiv (tT t k) (fadd fone (fsqrt (fadd fone (fmul (tT t k) (tT t k)))))
/-- 13, 11, .. 1, -1. -/
def dT (k : Nat) : Nat := [4623507967449235456, 4622382067542392832, 4621256167635550208, 4619567317775286272, 4617315517961601024, 4613937818241073152, 4607182418800017408, 13830554455654793216].getD k 0
/-- The sum of the arc's row. -/
def sT (u : Nat) : Nat → Nat
  | 0 => 4589468260265693457
  | k + 1 => fsub (fdiv fone (dT k)) (fmul u (sT u k))
theorem dT_sub : ∀ k, k < 7 → fop .sub .f64 (dT k) 4611686018427387904 = dT (k + 1) := by decide +kernel
theorem dT_pos : ∀ k, k < 7 → flt .f64 0 (dT k) = true := by decide +kernel
theorem dT_end : flt .f64 0 (dT 7) = false := by decide +kernel
theorem dT_good : ∀ k, k < 8 → isNaN double (dT k) = false ∧ dT k < 18446744073709551616 := by decide +kernel
theorem dT_int : ∀ k : Nat, k < 7 → floatOfInt .f64 (13 - 2 * (k : Int)) = dT k := by decide +kernel
theorem cn_dT {k : Nat} (h : k < 8) : cn .f64 (dT k) = dT k := cn_of_not (k := .f64) (dT_good k h).1
/-- Out of the quotient of the sizes. -/
def arc (t : Nat) : Nat := fmul (fmul (fmul 4620693217682128896 (tT t 3)) (sT (fmul (tT t 3) (tT t 3)) 7)) 4615783660508851396
def turn1 (c : Bool) (v : Nat) : Nat := if c then fsub 4618441417868443648 v else v
def turn2 (c : Bool) (v : Nat) : Nat := if c then fsub 4622945017495814144 v else v
def turn3 (c : Bool) (v : Nat) : Nat := if c then fsub 0 v else v
/-- The angle of a number that is finite and not 0: p, q its parts' bits. -/
def angle (p q : Nat) : Nat :=
  let a := rung double p
  let b := rung double q
  turn3 (flt .f64 q 0) (turn2 (flt .f64 p 0) (turn1 (flt .f64 a b) (arc (if flt .f64 b a then fdiv b a else fdiv a b))))
theorem eq_of_cn {x c : Nat} (h : cn .f64 x = c) (hn : isNaN double c = false) : x = c := by
  have h1 : isNaN double x = false := by rw [← h] at hn; exact (isNaN_cn64 x).symm.trans hn
  rw [cn_of_not (k := .f64) h1] at h; exact h
theorem cnK1 : cn .f64 4607182418800017408 = fone := by decide
theorem cnK8 : cn .f64 4620693217682128896 = 4620693217682128896 := by decide
theorem cnKc : cn .f64 4615783660508851396 = 4615783660508851396 := by decide
theorem cnK6 : cn .f64 4618441417868443648 = 4618441417868443648 := by decide
theorem cnK12 : cn .f64 4622945017495814144 = 4622945017495814144 := by decide
theorem cnK2 : cn .f64 4611686018427387904 = 4611686018427387904 := by decide
theorem cnS0 : cn .f64 4589468260265693457 = 4589468260265693457 := by decide
/-- How far the row has come, by the float that counts. -/
def dN : Value → Nat
  | .float _ b => [4623507967449235456, 4622382067542392832, 4621256167635550208, 4619567317775286272, 4617315517961601024, 4613937818241073152, 4607182418800017408].idxOf b
  | _ => 0
theorem int_eq {k : IntKind} {a b : Int} (h : a = b) : Value.int k a = Value.int k b := by rw [h]
theorem dN_less : ∀ j, j < 7 → 8 - dN (.float .f64 (dT (j + 1))) < 8 - dN (.float .f64 (dT j)) := by decide +kernel
end Go.Proofs.Ytpfjidijecgjcaa
namespace Go.Proofs.Ytpfjidijecgjcaa
open Go.RowKit Fl Ieee
set_option maxRecDepth 20000
attribute [local go_sem] Fl.order_self Fl.order_self' Fl.order_eq Fl.order_ne Fl.order_lt Fl.order_gt Fl.fle_fold Fl.fge_fold Fl.negFloat_flip x_f64frombits
theorem feq_of {x c : Nat} (h : cn .f64 x = c) (hn : isNaN double c = false) : feq .f64 x c = true := by
  have h1 := eq_of_cn h hn
  subst h1
  have h2 : isNaN FloatKind.f64.format x = false := hn
  rw [feq_self, h2]; rfl
end Go.Proofs.Ytpfjidijecgjcaa
