/- What a NaN comes to; the plain functions of layer 2, case by case. -/
import Derived.Test.YtajdfbjjgjpicaaFlP
namespace Fl
open Ieee Go
theorem floatBits_nan_l {op : BinOp} {k : FloatKind} {x y : Nat} (h : isNaN k.format x = true) : floatBits op k x y = none := by
  have hr := read_nan (ok_kind k) (x := x) (by simpa [isNaN] using h)
  cases op <;> simp only [floatBits, Format.add, Format.sub, Format.mul, Format.div, hr, sum_nan_l, product_nan_l, quotient_nan_l, Option.map_none]
theorem floatBits_nan_r {op : BinOp} {k : FloatKind} {x y : Nat} (h : isNaN k.format y = true) : floatBits op k x y = none := by
  have hr := read_nan (ok_kind k) (x := y) (by simpa [isNaN] using h)
  cases op <;> simp only [floatBits, Format.add, Format.sub, Format.mul, Format.div, hr, Datum.opposite, sum_nan_r, product_nan_r, quotient_nan_r, Option.map_none]
theorem fop_nan_l {op : BinOp} {k : FloatKind} {x y : Nat} (h : isNaN k.format x = true) : fop op k x y = qn k := by unfold fop; rw [floatBits_nan_l h]; rfl
theorem fop_nan_r {op : BinOp} {k : FloatKind} {x y : Nat} (h : isNaN k.format y = true) : fop op k x y = qn k := by unfold fop; rw [floatBits_nan_r h]; rfl
theorem fsqrt_nan {x : Nat} (h : isNaN double x = true) : fsqrt x = qn .f64 := by
  have hr := read_nan ok_double (x := x) (by simpa [isNaN] using h)
  have h1 : FloatKind.f64.format.read x = .nan (sgn double x) (rung double x - double.infRung) := hr
  unfold fsqrt Format.sqrt
  rw [h1]; rfl
theorem qn_nan : isNaN double (qn .f64) = true := isNaN_qn .f64
/-- A NaN goes through. -/
theorem absOf_nan {g l : Nat} (h : isNaN double g = true ∨ isNaN double l = true) : absOf g l = qn .f64 := by
  unfold absOf
  rcases h with h | h
  · exact fop_nan_l h
  · have h1 : fdiv l g = qn .f64 := fop_nan_l h
    rw [h1]
    have h2 : fmul (qn .f64) (qn .f64) = qn .f64 := fop_nan_l qn_nan
    rw [h2]
    have h3 : fadd fone (qn .f64) = qn .f64 := fop_nan_r qn_nan
    rw [h3, fsqrt_nan qn_nan]
    exact fop_nan_r qn_nan
theorem isNaN_fabs (x : Nat) : isNaN double (fabs x) = isNaN double x := by
  unfold fabs
  by_cases h : isNaN double x = true
  · rw [if_pos h, h]; exact qn_nan
  · rw [if_neg h, isNaN_rung]
theorem isInf_rung (f : Format) (x : Nat) : isInf f (rung f x) = isInf f x := by unfold isInf; rw [rung_rung]
theorem fabs_cn (x : Nat) : fabs (cn .f64 x) = cn .f64 (rung double x) := (cn_rung x).symm
end Fl
