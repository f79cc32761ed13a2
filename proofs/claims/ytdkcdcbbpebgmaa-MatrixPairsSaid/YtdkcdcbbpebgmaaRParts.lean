/- Contracts of the reference of layer 2. -/
import Derived.Test.YtdkcdcbbpebgmaaParts2
namespace Go.Proofs.Ytdkcdcbbpebgmaa
open Go.RowKit Fl Ieee
set_option maxRecDepth 20000
attribute [local go_sem] x_f64frombits
attribute [local go_sem] x_f64bits
attribute [local go_sem] Fl.order_self Fl.order_self' Fl.order_eq Fl.order_ne Fl.order_lt Fl.order_gt Fl.fle_fold Fl.fge_fold Fl.u64_clear Fl.u64_sign Fl.u64_flip Fl.u64_or_sign Fl.u32_clear Fl.negFloat_flip
theorem rsize_c (x : Nat) (hx : x < 18446744073709551616) (w : World) :
    Calls Try.prog 96 #[.float .f64 x] w fun e w' => e = .returned (.float .f64 (rung double x)) ∧ w = w' := by
  go_enter Try.func96, Try.ntmps96
  go_wp2
  go_ret; exact ⟨ret_float (by simp), rfl⟩
theorem rturned_c (x : Nat) (hx : x < 18446744073709551616) (w : World) :
    Calls Try.prog 100 #[.float .f64 x] w fun e w' => e = .returned (.float .f64 (flip double x)) ∧ w = w' := by
  go_enter Try.func100, Try.ntmps100
  go_wp2
  go_ret; exact ⟨ret_float (by simp), rfl⟩
theorem rSame_c (a b c d : Nat) (w : World) :
    Calls Try.prog 88 #[.complex .f64 a b, .complex .f64 c d] w fun e w' => e = .returned (.bool (pSame (cn .f64 a, cn .f64 b) (cn .f64 c, cn .f64 d))) ∧ w = w' := by
  unfold pSame
  cases hd : decide (cn .f64 a = cn .f64 c)
  · go_enter Try.func88, Try.ntmps88
    go_wp2_with (go_at_call 101; refine (r2SameReal_c _ _ _).mono ?_; rintro e w' ⟨rfl, rfl⟩)
    go_ret; exact ⟨ret_bool (by rfl), rfl⟩
  · go_enter Try.func88, Try.ntmps88
    go_wp2_with (go_at_call 101; refine (r2SameReal_c _ _ _).mono ?_; rintro e w' ⟨rfl, rfl⟩)
    go_ret; exact ⟨ret_bool (by rfl), rfl⟩
theorem rSame_t {a b c d : Nat} {v : C} (h : (cn .f64 a, cn .f64 b) = v) (h' : (cn .f64 c, cn .f64 d) = v) (w : World) :
    Calls Try.prog 88 #[.complex .f64 a b, .complex .f64 c d] w fun e w' => e = .returned (.bool true) ∧ w = w' := by
  have := rSame_c a b c d w
  rw [h, h'] at this
  have e : pSame v v = true := by simp [pSame]
  rw [e] at this; exact this
theorem rConj_c (p q : Nat) (hq : q < 18446744073709551616) (w : World) :
    Calls Try.prog 86 #[.complex .f64 p q] w fun e w' => e = .returned (.complex .f64 p (flip double q)) ∧ w = w' := by
  go_enter Try.func86, Try.ntmps86
  go_wp2_with (first | (go_at_call 100; refine (rturned_c _ (by assumption) _).mono ?_; rintro e w' ⟨rfl, rfl⟩) | go_in)
  go_ret; exact ⟨rfl, rfl⟩
theorem rSize1_c (p q : Nat) (hp : p < 18446744073709551616) (hq : q < 18446744073709551616) (w : World) :
    Calls Try.prog 73 #[.complex .f64 p q] w (RetR (pSize1 (cn .f64 p, cn .f64 q)) w) := by
  go_enter Try.func73, Try.ntmps73
  go_wp2_with (go_at_call 96; refine (rsize_c _ (by assumption) _).mono ?_; rintro e w' ⟨rfl, rfl⟩)
  refine upon_add _ _ _ _ ?_
  intro r1 n1 h1
  go_wp2
  go_ret; exact closeR (by rw [h1.1, cn_rung, cn_rung]; rfl) h1.2
end Go.Proofs.Ytdkcdcbbpebgmaa
