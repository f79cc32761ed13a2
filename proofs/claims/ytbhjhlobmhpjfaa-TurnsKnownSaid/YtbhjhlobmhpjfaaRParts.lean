/- Contracts of the reference of layer 2. -/
import Derived.Test.YtbhjhlobmhpjfaaParts2
namespace Go.Proofs.Ytbhjhlobmhpjfaa
open Go.RowKit Fl Ieee
set_option maxRecDepth 20000
attribute [local go_sem] x_f64frombits
attribute [local go_sem] x_f64bits
attribute [local go_sem] Fl.order_self Fl.order_self' Fl.order_eq Fl.order_ne Fl.order_lt Fl.order_gt Fl.fle_fold Fl.fge_fold Fl.u64_clear Fl.u64_sign Fl.u64_flip Fl.u64_or_sign Fl.u32_clear Fl.negFloat_flip
theorem rFiniteReal_c (a : Nat) (ha : a < 18446744073709551616) (w : World) :
    Calls Try.prog 45 #[.float .f64 a] w (RetB (isFin double a) w) := by
  go_enter Try.func45, Try.ntmps45
  go_wp2_with fail
  refine upon_sub _ _ _ _ ?_
  intro r1 n1 h1
  have f1 : feq .f64 r1 0 = isFin double a := fin_of_sub ha h1
  go_wp2
  go_ret; exact closeB rfl
theorem rFinite_c (a b : Nat) (ha : a < 18446744073709551616) (hb : b < 18446744073709551616) (w : World) :
    Calls Try.prog 37 #[.complex .f64 a b] w (RetB (pFinite (cn .f64 a, cn .f64 b)) w) := by
  have e : pFinite (cn .f64 a, cn .f64 b) = (isFin double a && isFin double b) := by
    unfold pFinite
    have h1 := isFin_cn .f64 a
    have h2 := isFin_cn .f64 b
    exact congr (congrArg and h1) h2
  rw [e]; clear e
  cases hd : isFin double a
  · go_enter Try.func37, Try.ntmps37
    go_wp2_with (go_at_call 45; refine (rFiniteReal_c _ (by assumption) _).mono ?_; rintro e w' ⟨n, rfl, rfl⟩)
    go_ret; exact closeB rfl
  · go_enter Try.func37, Try.ntmps37
    go_wp2_with (go_at_call 45; refine (rFiniteReal_c _ (by assumption) _).mono ?_; rintro e w' ⟨n, rfl, rfl⟩)
    go_ret; exact closeB rfl
end Go.Proofs.Ytbhjhlobmhpjfaa
