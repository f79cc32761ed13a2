/- Contracts of layer 2: parts, and the reference's: each call gives, up to NaN, what the plain function gives. -/
import Derived.Test.YtajdfbjjgjpicaaExt
namespace Go.Proofs.Ytajdfbjjgjpicaa
open Go.RowKit Fl Ieee
set_option maxRecDepth 20000
attribute [local go_sem] x_f64frombits
attribute [local go_sem] x_f64bits
attribute [local go_sem] Fl.order_self Fl.order_self' Fl.order_eq Fl.order_ne Fl.order_lt Fl.order_gt Fl.fle_fold Fl.fge_fold Fl.u64_clear Fl.u64_sign Fl.u64_flip Fl.u64_or_sign Fl.u32_clear Fl.negFloat_flip

/-- A complex number that is v up to NaN is handed back; the world is as it was but for draws. -/
def RetC (v : C) (w : World) (e : Ending) (w' : World) : Prop :=
  ∃ x y n, e = .returned (.complex .f64 x y) ∧ (cn .f64 x, cn .f64 y) = v ∧ x < 18446744073709551616 ∧ y < 18446744073709551616 ∧ w' = w.drewN n
def RetR (v : Nat) (w : World) (e : Ending) (w' : World) : Prop :=
  ∃ x n, e = .returned (.float .f64 x) ∧ cn .f64 x = v ∧ x < 18446744073709551616 ∧ w' = w.drewN n
def RetB (b : Bool) (w : World) (e : Ending) (w' : World) : Prop := ∃ n, e = .returned (.bool b) ∧ w' = w.drewN n
theorem closeC {v : C} {x y n : Nat} {w : World} (h1 : cn .f64 x = v.1) (h2 : cn .f64 y = v.2) (hx : x < 18446744073709551616) (hy : y < 18446744073709551616) :
    RetC v w (.returned (.complex .f64 x y)) (w.drewN n) := ⟨x, y, n, rfl, by rw [h1, h2], hx, hy, rfl⟩
theorem closeC0 {v : C} {x y : Nat} {w : World} (h1 : cn .f64 x = v.1) (h2 : cn .f64 y = v.2) (hx : x < 18446744073709551616) (hy : y < 18446744073709551616) :
    RetC v w (.returned (.complex .f64 x y)) w := ⟨x, y, 0, rfl, by rw [h1, h2], hx, hy, rfl⟩
theorem closeR {v x n : Nat} {w : World} (h1 : cn .f64 x = v) (hx : x < 18446744073709551616) : RetR v w (.returned (.float .f64 x)) (w.drewN n) := ⟨x, n, rfl, h1, hx, rfl⟩
theorem closeR0 {v x : Nat} {w : World} (h1 : cn .f64 x = v) (hx : x < 18446744073709551616) : RetR v w (.returned (.float .f64 x)) w := ⟨x, 0, rfl, h1, hx, rfl⟩
theorem closeB {b c : Bool} {n : Nat} {w : World} (h : c = b) : RetB b w (.returned (.bool c)) (w.drewN n) := ⟨n, by rw [h], rfl⟩
theorem closeB0 {b c : Bool} {w : World} (h : c = b) : RetB b w (.returned (.bool c)) w := ⟨0, by rw [h], rfl⟩
theorem ret_float {k : FloatKind} {a b : Nat} (h : a = b) : Ending.returned (.float k a) = .returned (.float k b) := by rw [h]
theorem ret_int {k : IntKind} {a b : Int} (h : a = b) : Ending.returned (.int k a) = .returned (.int k b) := by rw [h]
theorem ret_bool {a b : Bool} (h : a = b) : Ending.returned (.bool a) = .returned (.bool b) := by rw [h]
theorem ret_complex {k : FloatKind} {a b c d : Nat} (h : a = c) (h' : b = d) : Ending.returned (.complex k a b) = .returned (.complex k c d) := by rw [h, h']
theorem same_close {k : FloatKind} {a b : Nat} {c : Bool} (h : c = true ↔ ((a : Int) = (b : Int) ∨ (isNaN k.format a = true ∧ isNaN k.format b = true))) {w : World} :
    Ending.returned (.bool c) = .returned (.bool (decide (cn k a = cn k b))) ∧ w = w := by
  have e : c = decide (cn k a = cn k b) := by
    rw [Bool.eq_iff_iff, h, decide_eq_true_eq, cn_eq_iff, Int.ofNat_inj]
  rw [e]; exact ⟨rfl, rfl⟩

theorem mAbs_c (x : Nat) (hx : x < 18446744073709551616) (w : World) :
    Calls Try.prog 88 #[.float .f64 x] w fun e w' => e = .returned (.float .f64 (rung double x)) ∧ w = w' := by
  go_enter Try.func88, Try.ntmps88
  go_wp2
  go_ret; exact ⟨ret_float (by simp), rfl⟩
theorem mCopysign_c (x y : Nat) (hx : x < 18446744073709551616) (hy : y < 18446744073709551616) (w : World) :
    Calls Try.prog 91 #[.float .f64 x, .float .f64 y] w fun e w' => e = .returned (.float .f64 (double.word (sgn double y) (rung double x))) ∧ w = w' := by
  have hr : rung double x < 9223372036854775808 := rung_lt64 x
  go_enter Try.func91, Try.ntmps91
  go_wp2
  all_goals (go_ret; exact ⟨rfl, rfl⟩)
theorem mIsInf_c (x : Nat) (hx : x < 18446744073709551616) (w : World) :
    Calls Try.prog 52 #[.float .f64 x, .int .i64 0] w fun e w' => e = .returned (.bool (isInf double x)) ∧ w = w' := by
  go_enter Try.func52, Try.ntmps52
  go_wp2_with (go_at_call 88; refine (mAbs_c _ (by assumption) _).mono ?_; rintro e w' ⟨rfl, rfl⟩)
  go_ret; exact ⟨ret_bool (flt_max x), rfl⟩
theorem mInf_c (w : World) :
    Calls Try.prog 92 #[.int .i64 1] w fun e w' => e = .returned (.float .f64 9218868437227405312) ∧ w = w' := by
  go_enter Try.func92, Try.ntmps92
  go_wp2
  go_ret; exact ⟨rfl, rfl⟩
theorem mInfNeg_c (w : World) :
    Calls Try.prog 92 #[.int .i64 (-1)] w fun e w' => e = .returned (.float .f64 18442240474082181120) ∧ w = w' := by
  go_enter Try.func92, Try.ntmps92
  go_wp2
  go_ret; exact ⟨rfl, rfl⟩
theorem size_c (x : Nat) (hx : x < 18446744073709551616) (w : World) :
    Calls Try.prog 94 #[.float .f64 x] w fun e w' => e = .returned (.float .f64 (rung double x)) ∧ w = w' := by
  go_enter Try.func94, Try.ntmps94
  go_wp2
  go_ret; exact ⟨ret_float (by simp), rfl⟩
theorem kSameReal_c (a b : Nat) (w : World) :
    Calls Try.prog 14 #[.float .f64 a, .float .f64 b] w fun e w' => e = .returned (.bool (decide (cn .f64 a = cn .f64 b))) ∧ w = w' := by
  go_enter Try.func14, Try.ntmps14
  go_wp2
  all_goals (go_ret; exact same_close (by simp_all))
theorem Add_c (p q c d : Nat) (w : World) :
    Calls Try.prog 61 #[.complex .f64 p q, .complex .f64 c d] w (RetC (pAdd (cn .f64 p, cn .f64 q) (cn .f64 c, cn .f64 d)) w) := by
  go_enter Try.func61, Try.ntmps61
  go_wp2_with fail
  refine upon_add _ _ _ _ ?_
  intro r1 n1 h1
  go_wp2_with fail
  refine upon_add _ _ _ _ ?_
  intro r2 n2 h2
  go_wp2
  go_ret; exact closeC h1.1 h2.1 h1.2 h2.2
theorem rAdd_c (p q c d : Nat) (w : World) :
    Calls Try.prog 71 #[.complex .f64 p q, .complex .f64 c d] w (RetC (pAdd (cn .f64 p, cn .f64 q) (cn .f64 c, cn .f64 d)) w) := by
  go_enter Try.func71, Try.ntmps71
  go_wp2_with fail
  refine upon_add _ _ _ _ ?_
  intro r1 n1 h1
  go_wp2_with fail
  refine upon_add _ _ _ _ ?_
  intro r2 n2 h2
  go_wp2_with go_in
  go_ret; exact closeC h1.1 h2.1 h1.2 h2.2
theorem Sub_c (p q c d : Nat) (w : World) :
    Calls Try.prog 66 #[.complex .f64 p q, .complex .f64 c d] w (RetC (pSub (cn .f64 p, cn .f64 q) (cn .f64 c, cn .f64 d)) w) := by
  go_enter Try.func66, Try.ntmps66
  go_wp2_with fail
  refine upon_sub _ _ _ _ ?_
  intro r1 n1 h1
  go_wp2_with fail
  refine upon_sub _ _ _ _ ?_
  intro r2 n2 h2
  go_wp2
  go_ret; exact closeC h1.1 h2.1 h1.2 h2.2
theorem rSub_c (p q c d : Nat) (w : World) :
    Calls Try.prog 96 #[.complex .f64 p q, .complex .f64 c d] w (RetC (pSub (cn .f64 p, cn .f64 q) (cn .f64 c, cn .f64 d)) w) := by
  go_enter Try.func96, Try.ntmps96
  go_wp2_with fail
  refine upon_sub _ _ _ _ ?_
  intro r1 n1 h1
  go_wp2_with fail
  refine upon_sub _ _ _ _ ?_
  intro r2 n2 h2
  go_wp2_with go_in
  go_ret; exact closeC h1.1 h2.1 h1.2 h2.2
theorem Mul_c (p q c d : Nat) (w : World) :
    Calls Try.prog 62 #[.complex .f64 p q, .complex .f64 c d] w (RetC (pMul (cn .f64 p, cn .f64 q) (cn .f64 c, cn .f64 d)) w) := by
  go_enter Try.func62, Try.ntmps62
  go_wp2_with fail
  refine upon_mul _ _ _ _ ?_
  intro r1 n1 h1
  go_wp2_with fail
  refine upon_mul _ _ _ _ ?_
  intro r2 n2 h2
  go_wp2_with fail
  refine upon_sub _ _ _ _ ?_
  intro r3 n3 h3
  go_wp2_with fail
  refine upon_mul _ _ _ _ ?_
  intro r4 n4 h4
  go_wp2_with fail
  refine upon_mul _ _ _ _ ?_
  intro r5 n5 h5
  go_wp2_with fail
  refine upon_add _ _ _ _ ?_
  intro r6 n6 h6
  go_wp2
  go_ret; exact closeC (by rw [h3.1, h1.1, h2.1]; rfl) (by rw [h6.1, h4.1, h5.1]; rfl) h3.2 h6.2
theorem rMul_c (p q c d : Nat) (w : World) :
    Calls Try.prog 72 #[.complex .f64 p q, .complex .f64 c d] w (RetC (pMul (cn .f64 p, cn .f64 q) (cn .f64 c, cn .f64 d)) w) := by
  go_enter Try.func72, Try.ntmps72
  go_wp2_with fail
  refine upon_mul _ _ _ _ ?_
  intro r1 n1 h1
  go_wp2_with fail
  refine upon_mul _ _ _ _ ?_
  intro r2 n2 h2
  go_wp2_with fail
  refine upon_mul _ _ _ _ ?_
  intro r4 n4 h4
  go_wp2_with fail
  refine upon_mul _ _ _ _ ?_
  intro r5 n5 h5
  go_wp2_with fail
  refine upon_sub _ _ _ _ ?_
  intro r3 n3 h3
  go_wp2_with fail
  refine upon_add _ _ _ _ ?_
  intro r6 n6 h6
  go_wp2_with go_in
  go_ret; exact closeC (by rw [h3.1, h1.1, h2.1]; rfl) (by rw [h6.1, h4.1, h5.1]; rfl) h3.2 h6.2
theorem Size1_c (p q : Nat) (hp : p < 18446744073709551616) (hq : q < 18446744073709551616) (w : World) :
    Calls Try.prog 67 #[.complex .f64 p q] w (RetR (pSize1 (cn .f64 p, cn .f64 q)) w) := by
  go_enter Try.func67, Try.ntmps67
  go_wp2_with (go_at_call 94; refine (size_c _ (by assumption) _).mono ?_; rintro e w' ⟨rfl, rfl⟩)
  refine upon_add _ _ _ _ ?_
  intro r1 n1 h1
  go_wp2
  go_ret; exact closeR (by rw [h1.1, cn_rung, cn_rung]; rfl) h1.2
theorem Div_c (p q c d : Nat) (hc : c < 18446744073709551616) (hd : d < 18446744073709551616) (w : World) :
    Calls Try.prog 110 #[.complex .f64 p q, .complex .f64 c d] w (RetC (pDiv (cn .f64 p, cn .f64 q) (cn .f64 c, cn .f64 d)) w) := by
  have hf : fle .f64 (fabs (cn .f64 d)) (fabs (cn .f64 c)) = fle .f64 (rung double d) (rung double c) := by
    rw [← cn_rung, ← cn_rung, fle_cn]
  cases hg : fle .f64 (rung double d) (rung double c)
  · have hv : pDiv (cn .f64 p, cn .f64 q) (cn .f64 c, cn .f64 d) =
        (let r := fdiv (cn .f64 c) (cn .f64 d)
         let t := fadd (fmul (cn .f64 c) r) (cn .f64 d)
         (fdiv (fadd (fmul (cn .f64 p) r) (cn .f64 q)) t, fdiv (fsub (fmul (cn .f64 q) r) (cn .f64 p)) t)) := by
      unfold pDiv; rw [hf, hg]; rfl
    rw [hv]; clear hv hf
    go_enter Try.func110, Try.ntmps110
    go_wp2_with (go_at_call 94; refine (size_c _ (by assumption) _).mono ?_; rintro e w' ⟨rfl, rfl⟩)
    refine upon_quo _ _ _ _ ?_
    intro r1 n1 h1
    go_wp2_with fail
    refine upon_mul _ _ _ _ ?_
    intro r2 n2 h2
    go_wp2_with fail
    refine upon_add _ _ _ _ ?_
    intro r3 n3 h3
    go_wp2_with fail
    refine upon_mul _ _ _ _ ?_
    intro r4 n4 h4
    go_wp2_with fail
    refine upon_add _ _ _ _ ?_
    intro r5 n5 h5
    go_wp2_with fail
    refine upon_quo _ _ _ _ ?_
    intro r8 n8 h8
    go_wp2_with fail
    refine upon_mul _ _ _ _ ?_
    intro r6 n6 h6
    go_wp2_with fail
    refine upon_sub _ _ _ _ ?_
    intro r7 n7 h7
    go_wp2_with fail
    refine upon_quo _ _ _ _ ?_
    intro r9 n9 h9
    go_wp2
    go_ret; exact closeC (by rw [h8.1, h5.1, h4.1, h3.1, h2.1, h1.1]) (by rw [h9.1, h7.1, h6.1, h3.1, h2.1, h1.1]) h8.2 h9.2
  · have hv : pDiv (cn .f64 p, cn .f64 q) (cn .f64 c, cn .f64 d) =
        (let r := fdiv (cn .f64 d) (cn .f64 c)
         let t := fadd (cn .f64 c) (fmul (cn .f64 d) r)
         (fdiv (fadd (cn .f64 p) (fmul (cn .f64 q) r)) t, fdiv (fsub (cn .f64 q) (fmul (cn .f64 p) r)) t)) := by
      unfold pDiv; rw [hf, hg]; rfl
    rw [hv]; clear hv hf
    go_enter Try.func110, Try.ntmps110
    go_wp2_with (go_at_call 94; refine (size_c _ (by assumption) _).mono ?_; rintro e w' ⟨rfl, rfl⟩)
    refine upon_quo _ _ _ _ ?_
    intro r1 n1 h1
    go_wp2_with fail
    refine upon_mul _ _ _ _ ?_
    intro r2 n2 h2
    go_wp2_with fail
    refine upon_add _ _ _ _ ?_
    intro r3 n3 h3
    go_wp2_with fail
    refine upon_mul _ _ _ _ ?_
    intro r4 n4 h4
    go_wp2_with fail
    refine upon_add _ _ _ _ ?_
    intro r5 n5 h5
    go_wp2_with fail
    refine upon_quo _ _ _ _ ?_
    intro r8 n8 h8
    go_wp2_with fail
    refine upon_mul _ _ _ _ ?_
    intro r6 n6 h6
    go_wp2_with fail
    refine upon_sub _ _ _ _ ?_
    intro r7 n7 h7
    go_wp2_with fail
    refine upon_quo _ _ _ _ ?_
    intro r9 n9 h9
    go_wp2
    go_ret; exact closeC (by rw [h8.1, h5.1, h4.1, h3.1, h2.1, h1.1]) (by rw [h9.1, h7.1, h6.1, h3.1, h2.1, h1.1]) h8.2 h9.2
end Go.Proofs.Ytajdfbjjgjpicaa
