/- Layer 2's small closed call, and what the laws need. -/
import Derived.Test.YtpibokkcmhfdbaaRParts
import Derived.Test.YtpibokkcmhfdbaaFr
namespace Go.Proofs.Ytpibokkcmhfdbaa
open Go.RowKit Fl Ieee
set_option maxRecDepth 20000
attribute [local go_sem] Fl.order_self Fl.order_self' Fl.order_eq Fl.order_ne Fl.order_lt Fl.order_gt Fl.fle_fold Fl.fge_fold
theorem feq_of {x c : Nat} (h : cn .f64 x = c) (hn : isNaN double c = false) : feq .f64 x c = true := by
  have h1 : isNaN double x = false := by rw [← h] at hn; exact (isNaN_cn64 x).symm.trans hn
  rw [cn_of_not (k := .f64) h1] at h
  rw [← h, feq_self]
  have h2 : isNaN FloatKind.f64.format x = false := h1
  rw [h2]; rfl
theorem lives_c (w : World) : Calls Try.prog 17 #[] w (RetB true w) := by
  have v1 : pMul (cn .f64 4607182418800017408, cn .f64 4611686018427387904) (cn .f64 4613937818241073152, cn .f64 13839561654909534208) = (4622382067542392832, 4611686018427387904) := by decide +kernel
  have v2 : pAbs (cn .f64 4613937818241073152, cn .f64 13839561654909534208) = 4617315517961601024 := by decide +kernel
  have v3 : pSqrt (cn .f64 4613937818241073152, cn .f64 4616189618054758400) = (4611686018427387904, 4607182418800017408) := by decide +kernel
  have v4 : pSize1 (cn .f64 4613937818241073152, cn .f64 13839561654909534208) = 4619567317775286272 := by decide +kernel
  have V1 : Hid _ := v1
  have V2 : Hid _ := v2
  have V3 : Hid _ := v3
  have V4 : Hid _ := v4
  clear v1 v2 v3 v4
  go_enter Try.func17, Try.ntmps17
  go_wp2_with fail
  refine (Mul_c _ _ _ _ _).mono ?_
  rintro e w' ⟨x1, y1, n1, rfl, g1, bx1, by1, rfl⟩
  have H1 : Hid _ := g1
  clear g1
  have f1 : feq .f64 x1 4622382067542392832 = true := feq_of (congrArg Prod.fst (H1.out.trans V1.out)) (by decide)
  have f1' : feq .f64 y1 4611686018427387904 = true := feq_of (congrArg Prod.snd (H1.out.trans V1.out)) (by decide)
  go_wp2_with fail
  refine (Abs_c _ _ (by omega) (by omega) _).mono ?_
  rintro e w' ⟨x2, n2, rfl, g2, bx2, rfl⟩
  have H2 : Hid _ := g2
  clear g2
  have f2 : feq .f64 x2 4617315517961601024 = true := feq_of (H2.out.trans V2.out) (by decide)
  go_wp2_with fail
  refine (Sqrt_c _ _ (by omega) (by omega) _).mono ?_
  rintro e w' ⟨x3, y3, n3, rfl, g3, bx3, by3, rfl⟩
  have H3 : Hid _ := g3
  clear g3
  have f3 : feq .f64 x3 4611686018427387904 = true := feq_of (congrArg Prod.fst (H3.out.trans V3.out)) (by decide)
  have f3' : feq .f64 y3 4607182418800017408 = true := feq_of (congrArg Prod.snd (H3.out.trans V3.out)) (by decide)
  go_wp2_with fail
  refine (Size1_c _ _ (by omega) (by omega) _).mono ?_
  rintro e w' ⟨x4, n4, rfl, g4, bx4, rfl⟩
  have H4 : Hid _ := g4
  clear g4
  have f4 : feq .f64 x4 4619567317775286272 = true := feq_of (H4.out.trans V4.out) (by decide)
  go_wp2
  go_ret; exact closeB rfl
theorem same_t {a b c d : Nat} {v : C} (h : Hid ((cn .f64 a, cn .f64 b) = v)) (h' : Hid ((cn .f64 c, cn .f64 d) = v)) (w : World) :
    Calls Try.prog 27 #[.complex .f64 a b, .complex .f64 c d] w fun e w' => e = .returned (.bool true) ∧ w = w' := by
  go_enter Try.func27, Try.ntmps27
  go_wp2_with (go_at_call 21; refine (rSame_t h.out h'.out _).mono ?_; rintro e w' ⟨rfl, rfl⟩)
  go_ret; exact ⟨rfl, rfl⟩
theorem sameReal_t {a b v : Nat} (h : Hid (cn .f64 a = v)) (h' : Hid (cn .f64 b = v)) (w : World) :
    Calls Try.prog 13 #[.float .f64 a, .float .f64 b] w fun e w' => e = .returned (.bool true) ∧ w = w' := by
  have := r2SameReal_c a b w
  rw [h.out, h'.out, decide_eq_true rfl] at this; exact this
theorem pSame_self (v : C) : pSame v v = true := by simp [pSame]
theorem pSame_comm (u v : C) : pSame u v = pSame v u := by
  unfold pSame
  rw [Bool.eq_iff_iff]; simp only [Bool.and_eq_true, decide_eq_true_eq]
  exact ⟨fun h => ⟨h.1.symm, h.2.symm⟩, fun h => ⟨h.1.symm, h.2.symm⟩⟩
end Go.Proofs.Ytpibokkcmhfdbaa
