/- Layer 2 as plain functions on words up to NaN. -/
import Derived.Test.YtajdfbjjgjpicaaFlBits
import Derived.Test.YtajdfbjjgjpicaaFlConv
namespace Fl
open Ieee Go

abbrev fadd (x y : Nat) : Nat := fop .add .f64 x y
abbrev fsub (x y : Nat) : Nat := fop .sub .f64 x y
abbrev fmul (x y : Nat) : Nat := fop .mul .f64 x y
abbrev fdiv (x y : Nat) : Nat := fop .quo .f64 x y
/-- The size and the opposite of a word up to NaN. -/
def fabs (x : Nat) : Nat := if isNaN double x then qn .f64 else rung double x
def fneg (x : Nat) : Nat := if isNaN double x then qn .f64 else flip double x

theorem isNaN_rung (f : Format) (x : Nat) : isNaN f (rung f x) = isNaN f x := by unfold isNaN; rw [rung_rung]
theorem cn_rung (x : Nat) : cn .f64 (rung double x) = fabs (cn .f64 x) := by
  by_cases h : isNaN double x = true
  · have h1 : isNaN double (rung double x) = true := by rw [isNaN_rung, h]
    have h2 : isNaN double (cn .f64 x) = true := (isNaN_cn .f64 x).trans h
    rw [cn_of_nan (k := .f64) h1, fabs, if_pos h2]
  · have h0 := Bool.eq_false_iff.2 h
    have h1 : isNaN double (rung double x) = false := by rw [isNaN_rung, h0]
    rw [cn_of_not (k := .f64) h1, cn_of_not (k := .f64) h0, fabs, if_neg h]
theorem isNaN_flip {x : Nat} (hx : x < 18446744073709551616) : isNaN double (flip double x) = isNaN double x := by
  unfold isNaN; rw [rung_flip (f := double) hx]
theorem cn_flip {x : Nat} (hx : x < 18446744073709551616) : cn .f64 (flip double x) = fneg (cn .f64 x) := by
  by_cases h : isNaN double x = true
  · have h1 : isNaN double (flip double x) = true := by rw [isNaN_flip hx, h]
    have h2 : isNaN double (cn .f64 x) = true := (isNaN_cn .f64 x).trans h
    rw [cn_of_nan (k := .f64) h1, fneg, if_pos h2]
  · have h0 := Bool.eq_false_iff.2 h
    have h1 : isNaN double (flip double x) = false := by rw [isNaN_flip hx, h0]
    rw [cn_of_not (k := .f64) h1, cn_of_not (k := .f64) h0, fneg, if_neg h]
theorem rung_lt64 (x : Nat) : rung double x < 9223372036854775808 := by have := rung_lt double x; rwa [sw64] at this
theorem rung_lt64' (x : Nat) : rung double x < 18446744073709551616 := by have := rung_lt64 x; omega
theorem flip_lt64 {x : Nat} (h : x < 18446744073709551616) : flip double x < 18446744073709551616 := flip_lt (f := double) h

abbrev C := Nat × Nat
def pAdd (a b : C) : C := (fadd a.1 b.1, fadd a.2 b.2)
def pSub (a b : C) : C := (fsub a.1 b.1, fsub a.2 b.2)
def pMul (a b : C) : C := (fsub (fmul a.1 b.1) (fmul a.2 b.2), fadd (fmul a.1 b.2) (fmul a.2 b.1))
def pDiv (a b : C) : C :=
  if fle .f64 (fabs b.2) (fabs b.1) then
    let r := fdiv b.2 b.1
    let t := fadd b.1 (fmul b.2 r)
    (fdiv (fadd a.1 (fmul a.2 r)) t, fdiv (fsub a.2 (fmul a.1 r)) t)
  else
    let r := fdiv b.1 b.2
    let t := fadd (fmul b.1 r) b.2
    (fdiv (fadd (fmul a.1 r) a.2) t, fdiv (fsub (fmul a.2 r) a.1) t)
def fone : Nat := 4607182418800017408
def ftwo : Nat := 4611686018427387904
def pInv (z : C) : C := pDiv (fone, 0) z
def pNeg (z : C) : C := (fneg z.1, fneg z.2)
def pConj (z : C) : C := (z.1, fneg z.2)
def pScale (x : Nat) (z : C) : C := (fmul x z.1, fmul x z.2)
def pSize1 (z : C) : Nat := fadd (fabs z.1) (fabs z.2)
def pSize2 (z : C) : Nat := fadd (fmul z.1 z.1) (fmul z.2 z.2)
def finf : Nat := 9218868437227405312
/-- The greater and the less of two sizes go in. -/
def absOf (g l : Nat) : Nat := fmul g (fsqrt (fadd fone (fmul (fdiv l g) (fdiv l g))))
def pAbs (z : C) : Nat :=
  let a := fabs z.1
  let b := fabs z.2
  if isInf double z.1 || isInf double z.2 then finf
  else if isNaN double z.1 || isNaN double z.2 then qn .f64
  else if a = 0 ∧ b = 0 then 0
  else if flt .f64 a b then absOf b a else absOf a b
def pZero (z : C) : Bool := feq .f64 z.1 0 && feq .f64 z.2 0
def pSqrt (z : C) : C :=
  if isNaN double z.1 || isNaN double z.2 then (qn .f64, qn .f64)
  else if pZero z then (0, z.2)
  else if fle .f64 0 z.1 then
    let u := fsqrt (fadd (fdiv (pAbs z) ftwo) (fdiv z.1 ftwo))
    (u, fdiv z.2 (fmul ftwo u))
  else
    let v := fsqrt (fsub (fdiv (pAbs z) ftwo) (fdiv z.1 ftwo))
    (fabs (fdiv z.2 (fmul ftwo v)), if isNaN double v then qn .f64 else double.word (sgn double z.2) (rung double v))
def pFinite1 (x : Nat) : Bool := feq .f64 (fsub x x) 0
def pFinite (z : C) : Bool := isFin double z.1 && isFin double z.2
def pEqual (a b : C) : Bool := feq .f64 a.1 b.1 && feq .f64 a.2 b.2
def pSame (a b : C) : Bool := decide (a.1 = b.1) && decide (a.2 = b.2)

theorem isFin_cn (k : FloatKind) (x : Nat) : isFin k.format (cn k x) = isFin k.format x := by
  by_cases h : isNaN k.format x = true
  · have h1 := isNaN_qn k
    rw [cn_of_nan h]
    simp only [isNaN, isFin, decide_eq_true_eq] at *
    rw [decide_eq_false (by omega), decide_eq_false (by omega)]
  · rw [cn_of_not (Bool.eq_false_iff.2 h)]
theorem isInf_cn (k : FloatKind) (x : Nat) : isInf k.format (cn k x) = isInf k.format x := by
  by_cases h : isNaN k.format x = true
  · have h1 := isNaN_qn k
    rw [cn_of_nan h]
    simp only [isNaN, isInf, decide_eq_true_eq] at *
    rw [decide_eq_false (by omega), decide_eq_false (by omega)]
  · rw [cn_of_not (Bool.eq_false_iff.2 h)]

/-- x - x == 0 just if x is finite. -/
theorem sub_self_eq (x : Nat) (hx : x < 18446744073709551616) : feq .f64 (fop .sub .f64 x x) 0 = isFin double x := by
  have e : floatBits .sub .f64 x x = double.add x (flip double x) := sub_eq (f := double) hx
  rcases kinds double x with h | h | h
  · obtain ⟨b, h1, h2⟩ := add_fin ok_double h (show fin double (flip double x) by unfold fin; rw [rung_flip (f := double) hx]; exact h)
    rw [sval_flip (f := double) hx, show sval double x + -sval double x = 0 by omega] at h2
    have hb : fop .sub .f64 x x = b := by unfold fop; rw [e, h1]; rfl
    obtain ⟨r, hr, hr2⟩ := h2.rung
    have hr0 : r = 0 := hr.eq_of_exact (s := 0) (by omega) (by rw [val_zero]; rfl)
    subst hr0
    have hz : rung double b = 0 := by rw [hr2]; omega
    have hfin : isFin double x = true := by simp [isFin]; exact h
    have hi : 0 < double.infRung := by decide
    rw [hb, hfin]
    have := feq_zero .f64 b
    rw [this]
    show (!isNaN double b && decide (rung double b = 0)) = true
    unfold isNaN; rw [hz]; simp
  · have hs := sgn_flip (f := double) hx
    have hr1 := read_inf ok_double h
    have hr2 := read_inf ok_double (x := flip double x) (by rw [rung_flip (f := double) hx]; exact h)
    have hb : fop .sub .f64 x x = qn .f64 := by
      unfold fop; rw [e, Format.add, hr1, hr2, hs]; cases sgn double x <;> rfl
    have hfin : isFin double x = false := by simp [isFin]; omega
    rw [hb, hfin]; decide
  · have hn : isNaN double x = true := by simp [isNaN, h]
    have hr1 := read_nan ok_double h
    have hb : fop .sub .f64 x x = qn .f64 := by
      unfold fop; rw [e, Format.add, hr1, sum_nan_l]; rfl
    have hfin : isFin double x = false := by simp [isFin]; omega
    rw [hb, hfin]; decide
end Fl
