/- Contracts of layer 2: parts, and the reference's: each call gives, up to NaN, what the plain function gives. -/
import Derived.Test.YtbajeonhiaaclaaExt
namespace Go.Proofs.Ytbajeonhiaaclaa
open Go.RowKit Fl Ieee
set_option maxRecDepth 20000
attribute [local go_sem] x_f64frombits
attribute [local go_sem] x_f64bits
attribute [local go_sem] Fl.order_self Fl.order_self' Fl.order_eq Fl.order_ne Fl.order_lt Fl.order_gt Fl.fle_fold Fl.fge_fold Fl.u64_clear Fl.u64_sign Fl.u64_flip Fl.u64_or_sign Fl.u32_clear Fl.negFloat_flip

/-- A complex number that is v up to NaN is handed back; the world is as it was but for draws. -/
def RetC (v : C) (w : World) (e : Ending) (w' : World) : Prop :=
  ∃ x y n, e = .returned (.complex .f64 x y) ∧ (cn .f64 x, cn .f64 y) = v ∧ x < 18446744073709551616 ∧ y < 18446744073709551616 ∧ w' = w.drewN n
def RetR (v : Nat) (w : World) (e : Ending) (w' : World) : Prop :=
  ∃ x n, e = .returned (.float .f64 x) ∧ cn .f64 x = v ∧ x < 18446744073709551616 ∧ w' = w.drewN n
def RetB (b : Bool) (w : World) (e : Ending) (w' : World) : Prop := ∃ n, e = .returned (.bool b) ∧ w' = w.drewN n
theorem closeC {v : C} {x y n : Nat} {w : World} (h1 : cn .f64 x = v.1) (h2 : cn .f64 y = v.2) (hx : x < 18446744073709551616) (hy : y < 18446744073709551616) :
    RetC v w (.returned (.complex .f64 x y)) (w.drewN n) := ⟨x, y, n, rfl, by rw [h1, h2], hx, hy, rfl⟩
theorem closeC0 {v : C} {x y : Nat} {w : World} (h1 : cn .f64 x = v.1) (h2 : cn .f64 y = v.2) (hx : x < 18446744073709551616) (hy : y < 18446744073709551616) :
    RetC v w (.returned (.complex .f64 x y)) w := ⟨x, y, 0, rfl, by rw [h1, h2], hx, hy, rfl⟩
theorem closeR {v x n : Nat} {w : World} (h1 : cn .f64 x = v) (hx : x < 18446744073709551616) : RetR v w (.returned (.float .f64 x)) (w.drewN n) := ⟨x, n, rfl, h1, hx, rfl⟩
theorem closeR0 {v x : Nat} {w : World} (h1 : cn .f64 x = v) (hx : x < 18446744073709551616) : RetR v w (.returned (.float .f64 x)) w := ⟨x, 0, rfl, h1, hx, rfl⟩
theorem closeB {b c : Bool} {n : Nat} {w : World} (h : c = b) : RetB b w (.returned (.bool c)) (w.drewN n) := ⟨n, by rw [h], rfl⟩
theorem closeB0 {b c : Bool} {w : World} (h : c = b) : RetB b w (.returned (.bool c)) w := ⟨0, by rw [h], rfl⟩
theorem ret_float {k : FloatKind} {a b : Nat} (h : a = b) : Ending.returned (.float k a) = .returned (.float k b) := by rw [h]
theorem ret_int {k : IntKind} {a b : Int} (h : a = b) : Ending.returned (.int k a) = .returned (.int k b) := by rw [h]
theorem ret_bool {a b : Bool} (h : a = b) : Ending.returned (.bool a) = .returned (.bool b) := by rw [h]
theorem ret_complex {k : FloatKind} {a b c d : Nat} (h : a = c) (h' : b = d) : Ending.returned (.complex k a b) = .returned (.complex k c d) := by rw [h, h']
theorem same_close {k : FloatKind} {a b : Nat} {c : Bool} (h : c = true ↔ ((a : Int) = (b : Int) ∨ (isNaN k.format a = true ∧ isNaN k.format b = true))) {w : World} :
    Ending.returned (.bool c) = .returned (.bool (decide (cn k a = cn k b))) ∧ w = w := by
  have e : c = decide (cn k a = cn k b) := by
    rw [Bool.eq_iff_iff, h, decide_eq_true_eq, cn_eq_iff, Int.ofNat_inj]
  rw [e]; exact ⟨rfl, rfl⟩

theorem mAbs_c (x : Nat) (hx : x < 18446744073709551616) (w : World) :
    Calls Try.prog 35 #[.float .f64 x] w fun e w' => e = .returned (.float .f64 (rung double x)) ∧ w = w' := by
  go_enter Try.func35, Try.ntmps35
  go_wp2
  go_ret; exact ⟨ret_float (by simp), rfl⟩
theorem mCopysign_c (x y : Nat) (hx : x < 18446744073709551616) (hy : y < 18446744073709551616) (w : World) :
    Calls Try.prog 46 #[.float .f64 x, .float .f64 y] w fun e w' => e = .returned (.float .f64 (double.word (sgn double y) (rung double x))) ∧ w = w' := by
  have hr : rung double x < 9223372036854775808 := rung_lt64 x
  go_enter Try.func46, Try.ntmps46
  go_wp2
  all_goals (go_ret; exact ⟨rfl, rfl⟩)
theorem mIsInf_c (x : Nat) (hx : x < 18446744073709551616) (w : World) :
    Calls Try.prog 32 #[.float .f64 x, .int .i64 0] w fun e w' => e = .returned (.bool (isInf double x)) ∧ w = w' := by
  go_enter Try.func32, Try.ntmps32
  go_wp2_with (go_at_call 35; refine (mAbs_c _ (by assumption) _).mono ?_; rintro e w' ⟨rfl, rfl⟩)
  go_ret; exact ⟨ret_bool (flt_max x), rfl⟩
theorem mInf_c (w : World) :
    Calls Try.prog 45 #[.int .i64 1] w fun e w' => e = .returned (.float .f64 9218868437227405312) ∧ w = w' := by
  go_enter Try.func45, Try.ntmps45
  go_wp2
  go_ret; exact ⟨rfl, rfl⟩
theorem mInfNeg_c (w : World) :
    Calls Try.prog 45 #[.int .i64 (-1)] w fun e w' => e = .returned (.float .f64 18442240474082181120) ∧ w = w' := by
  go_enter Try.func45, Try.ntmps45
  go_wp2
  go_ret; exact ⟨rfl, rfl⟩
theorem mNaN_c (w : World) :
    Calls Try.prog 47 #[] w fun e w' => e = .returned (.float .f64 9221120237041090561) ∧ w = w' := by
  go_enter Try.func47, Try.ntmps47
  go_wp2
  go_ret; exact ⟨rfl, rfl⟩
theorem kSameReal_c (a b : Nat) (w : World) :
    Calls Try.prog 52 #[.float .f64 a, .float .f64 b] w fun e w' => e = .returned (.bool (decide (cn .f64 a = cn .f64 b))) ∧ w = w' := by
  go_enter Try.func52, Try.ntmps52
  go_wp2
  all_goals (go_ret; exact same_close (by simp_all))
end Go.Proofs.Ytbajeonhiaaclaa
