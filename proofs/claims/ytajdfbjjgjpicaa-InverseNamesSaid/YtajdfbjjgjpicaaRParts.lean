/- Contracts of the reference of layer 2. -/
import Derived.Test.YtajdfbjjgjpicaaParts2
namespace Go.Proofs.Ytajdfbjjgjpicaa
open Go.RowKit Fl Ieee
set_option maxRecDepth 20000
attribute [local go_sem] x_f64frombits
attribute [local go_sem] x_f64bits
attribute [local go_sem] Fl.order_self Fl.order_self' Fl.order_eq Fl.order_ne Fl.order_lt Fl.order_gt Fl.fle_fold Fl.fge_fold Fl.u64_clear Fl.u64_sign Fl.u64_flip Fl.u64_or_sign Fl.u32_clear Fl.negFloat_flip
theorem rsize_c (x : Nat) (hx : x < 18446744073709551616) (w : World) :
    Calls Try.prog 115 #[.float .f64 x] w fun e w' => e = .returned (.float .f64 (rung double x)) ∧ w = w' := by
  go_enter Try.func115, Try.ntmps115
  go_wp2
  go_ret; exact ⟨ret_float (by simp), rfl⟩
theorem rFiniteReal_c (a : Nat) (ha : a < 18446744073709551616) (w : World) :
    Calls Try.prog 108 #[.float .f64 a] w (RetB (isFin double a) w) := by
  go_enter Try.func108, Try.ntmps108
  go_wp2_with fail
  refine upon_sub _ _ _ _ ?_
  intro r1 n1 h1
  have f1 : feq .f64 r1 0 = isFin double a := fin_of_sub ha h1
  go_wp2
  go_ret; exact closeB rfl
theorem rFinite_c (a b : Nat) (ha : a < 18446744073709551616) (hb : b < 18446744073709551616) (w : World) :
    Calls Try.prog 79 #[.complex .f64 a b] w (RetB (pFinite (cn .f64 a, cn .f64 b)) w) := by
  have e : pFinite (cn .f64 a, cn .f64 b) = (isFin double a && isFin double b) := by
    unfold pFinite
    have h1 := isFin_cn .f64 a
    have h2 := isFin_cn .f64 b
    exact congr (congrArg and h1) h2
  rw [e]; clear e
  cases hd : isFin double a
  · go_enter Try.func79, Try.ntmps79
    go_wp2_with (go_at_call 108; refine (rFiniteReal_c _ (by assumption) _).mono ?_; rintro e w' ⟨n, rfl, rfl⟩)
    go_ret; exact closeB rfl
  · go_enter Try.func79, Try.ntmps79
    go_wp2_with (go_at_call 108; refine (rFiniteReal_c _ (by assumption) _).mono ?_; rintro e w' ⟨n, rfl, rfl⟩)
    go_ret; exact closeB rfl
theorem rSize1_c (p q : Nat) (hp : p < 18446744073709551616) (hq : q < 18446744073709551616) (w : World) :
    Calls Try.prog 97 #[.complex .f64 p q] w (RetR (pSize1 (cn .f64 p, cn .f64 q)) w) := by
  go_enter Try.func97, Try.ntmps97
  go_wp2_with (go_at_call 115; refine (rsize_c _ (by assumption) _).mono ?_; rintro e w' ⟨rfl, rfl⟩)
  refine upon_add _ _ _ _ ?_
  intro r1 n1 h1
  go_wp2
  go_ret; exact closeR (by rw [h1.1, cn_rung, cn_rung]; rfl) h1.2
theorem rDiv_c (p q c d : Nat) (hc : c < 18446744073709551616) (hd : d < 18446744073709551616) (w : World) :
    Calls Try.prog 116 #[.complex .f64 p q, .complex .f64 c d] w (RetC (pDiv (cn .f64 p, cn .f64 q) (cn .f64 c, cn .f64 d)) w) := by
  have hf : fle .f64 (fabs (cn .f64 d)) (fabs (cn .f64 c)) = fle .f64 (rung double d) (rung double c) := by
    rw [← cn_rung, ← cn_rung, fle_cn]
  cases hg : fle .f64 (rung double d) (rung double c)
  · have hv : pDiv (cn .f64 p, cn .f64 q) (cn .f64 c, cn .f64 d) =
        (let r := fdiv (cn .f64 c) (cn .f64 d)
         let t := fadd (fmul (cn .f64 c) r) (cn .f64 d)
         (fdiv (fadd (fmul (cn .f64 p) r) (cn .f64 q)) t, fdiv (fsub (fmul (cn .f64 q) r) (cn .f64 p)) t)) := by
      unfold pDiv; rw [hf, hg]; rfl
    rw [hv]; clear hv hf
    go_enter Try.func116, Try.ntmps116
    go_wp2_with (go_at_call 115; refine (rsize_c _ (by assumption) _).mono ?_; rintro e w' ⟨rfl, rfl⟩)
    refine upon_quo _ _ _ _ ?_
    intro r1 n1 h1
    go_wp2_with fail
    refine upon_mul _ _ _ _ ?_
    intro r2 n2 h2
    go_wp2_with fail
    refine upon_add _ _ _ _ ?_
    intro r3 n3 h3
    go_wp2_with fail
    refine upon_mul _ _ _ _ ?_
    intro r4 n4 h4
    go_wp2_with fail
    refine upon_mul _ _ _ _ ?_
    intro r6 n6 h6
    go_wp2_with fail
    refine upon_add _ _ _ _ ?_
    intro r5 n5 h5
    go_wp2_with fail
    refine upon_sub _ _ _ _ ?_
    intro r7 n7 h7
    go_wp2_with fail
    refine upon_quo _ _ _ _ ?_
    intro r8 n8 h8
    go_wp2_with fail
    refine upon_quo _ _ _ _ ?_
    intro r9 n9 h9
    go_wp2_with go_in
    go_ret; exact closeC (by rw [h8.1, h5.1, h4.1, h3.1, h2.1, h1.1]) (by rw [h9.1, h7.1, h6.1, h3.1, h2.1, h1.1]) h8.2 h9.2
  · have hv : pDiv (cn .f64 p, cn .f64 q) (cn .f64 c, cn .f64 d) =
        (let r := fdiv (cn .f64 d) (cn .f64 c)
         let t := fadd (cn .f64 c) (fmul (cn .f64 d) r)
         (fdiv (fadd (cn .f64 p) (fmul (cn .f64 q) r)) t, fdiv (fsub (cn .f64 q) (fmul (cn .f64 p) r)) t)) := by
      unfold pDiv; rw [hf, hg]; rfl
    rw [hv]; clear hv hf
    go_enter Try.func116, Try.ntmps116
    go_wp2_with (go_at_call 115; refine (rsize_c _ (by assumption) _).mono ?_; rintro e w' ⟨rfl, rfl⟩)
    refine upon_quo _ _ _ _ ?_
    intro r1 n1 h1
    go_wp2_with fail
    refine upon_mul _ _ _ _ ?_
    intro r2 n2 h2
    go_wp2_with fail
    refine upon_add _ _ _ _ ?_
    intro r3 n3 h3
    go_wp2_with fail
    refine upon_mul _ _ _ _ ?_
    intro r4 n4 h4
    go_wp2_with fail
    refine upon_mul _ _ _ _ ?_
    intro r6 n6 h6
    go_wp2_with fail
    refine upon_add _ _ _ _ ?_
    intro r5 n5 h5
    go_wp2_with fail
    refine upon_sub _ _ _ _ ?_
    intro r7 n7 h7
    go_wp2_with fail
    refine upon_quo _ _ _ _ ?_
    intro r8 n8 h8
    go_wp2_with fail
    refine upon_quo _ _ _ _ ?_
    intro r9 n9 h9
    go_wp2_with go_in
    go_ret; exact closeC (by rw [h8.1, h5.1, h4.1, h3.1, h2.1, h1.1]) (by rw [h9.1, h7.1, h6.1, h3.1, h2.1, h1.1]) h8.2 h9.2
end Go.Proofs.Ytajdfbjjgjpicaa
