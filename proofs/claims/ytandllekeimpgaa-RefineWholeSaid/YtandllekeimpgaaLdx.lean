/- math.Ldexp of one: the powers of two. -/
import Derived.Test.YtandllekeimpgaaL02a
import Derived.Test.YtandllekeimpgaaFlA
import Derived.Test.YtandllekeimpgaaExt
namespace Go.Proofs.Ytandllekeimpgaa
open Go.RowKit Fl Ieee
set_option maxRecDepth 20000
attribute [local go_sem] Fl.order_self Fl.order_self' Fl.order_eq Fl.order_ne Fl.order_lt Fl.order_gt Fl.fle_fold Fl.fge_fold Fl.u64_clear Fl.u64_sign Fl.u64_flip Fl.u64_or_sign
theorem u64_or_zero (a : Nat) (ha : a < 2048) : bits .or .u64 0 ((a : Int) * 4503599627370496) = (a : Int) * 4503599627370496 := by
  have h := u64_or_nat 0 (a * 4503599627370496) (by omega) (by omega)
  rw [Nat.zero_or] at h
  simpa using h
theorem norm1_c (w : World) : Calls Try.prog 85 #[.float .f64 4607182418800017408] w fun e w' => e = .returned (.tuple #[.float .f64 4607182418800017408, .int .i64 0]) ∧ w = w' := by
  have h1 : flt .f64 (rung double 4607182418800017408) 4503599627370496 = false := by decide +kernel
  go_enter Try.func85, Try.ntmps85
  go_wp2_with (go_at_call 102; refine (mAbs_c _ (by omega) _).mono ?_; rintro e w' ⟨rfl, rfl⟩)
  go_ret2
  exact ⟨rfl, rfl⟩
theorem ldexp1_c (m : Nat) (j : Int) (hj : j + 1023 = m) (h0 : 1 ≤ m) (h1 : m ≤ 2046) (w : World) :
    Calls Try.prog 56 #[.float .f64 4607182418800017408, .int .i64 j] w (RetR (4503599627370496 * m) w) := by
  have f0 : feq .f64 4607182418800017408 0 = false := by decide +kernel
  have f1 : isInf double 4607182418800017408 = false := by decide +kernel
  have f2 : isNaN FloatKind.f64.format 4607182418800017408 = false := by decide +kernel
  have hx := x_f64frombits
  have hb := x_f64bits
  have ej : j = (m : Int) - 1023 := by omega
  subst ej
  clear hj
  have b1 : bits .and .i64 1023 2047 = 1023 := by decide
  have b2 : bits .andNot .u64 4607182418800017408 9218868437227405312 = 0 := by decide
  have b3 := u64_or_zero m (by omega)
  go_enter Try.func56, Try.ntmps56
  go_wp2_with (first
    | (go_at_call 83; refine (mIsInf_c _ (by omega) _).mono ?_; rintro e w' ⟨rfl, rfl⟩)
    | (go_at_call 85; refine (norm1_c _).mono ?_; rintro e w' ⟨rfl, rfl⟩)
    | go_in)
  refine upon_mul _ _ _ _ ?_
  intro r n hr
  go_wp2
  go_ret
  have hX := ex_two (n := m - 1) (by omega)
  have em : m - 1 + 1 = m := by omega
  rw [em, binade64] at hX
  refine closeR ?_ hr.2
  have e1 : cn .f64 4607182418800017408 = fone := by decide
  have e2 : m * 4503599627370496 = 4503599627370496 * m := Nat.mul_comm _ _
  rw [hr.1, e1, e2, hX.cn]
  show fmul fone _ = _
  rw [fmul_comm, fmul_one hX.1 hX.2.1]
theorem Ldexp1_c (m : Nat) (j : Int) (hj : j + 1023 = m) (h0 : 1 ≤ m) (h1 : m ≤ 2046) (w : World) :
    Calls Try.prog 29 #[.float .f64 4607182418800017408, .int .i64 j] w (RetR (4503599627370496 * m) w) := by
  go_enter Try.func29, Try.ntmps29
  go_wp2_with (go_at_call 56; refine (ldexp1_c m j hj h0 h1 _).mono ?_; rintro e w' ⟨x, n, rfl, g, b, rfl⟩)
  go_ret
  exact closeR g b
end Go.Proofs.Ytandllekeimpgaa
