/- What PartsSizes asks, in plain words. -/
import Derived.Test.YtajdfbjjgjpicaaFlAb
namespace Fl
open Ieee Go
theorem fle_rungs {x y : Nat} (hx : x ≤ double.infRung) (hy : y ≤ double.infRung) : fle .f64 x y = decide (x ≤ y) := by
  have nx : isNaN double x = false := by unfold isNaN; rw [(sgn_rung' hx).2]; exact decide_eq_false (by omega)
  have ny : isNaN double y = false := by unfold isNaN; rw [(sgn_rung' hy).2]; exact decide_eq_false (by omega)
  have kx : key double x = (x : Int) := by unfold key; rw [(sgn_rung' hx).1, (sgn_rung' hx).2]; simp
  have ky : key double y = (y : Int) := by unfold key; rw [(sgn_rung' hy).1, (sgn_rung' hy).2]; simp
  have h := fle_def .f64 x y
  have e : FloatKind.f64.format = double := rfl
  rw [e, nx, ny, kx, ky] at h
  rw [h, Bool.eq_iff_iff]; simp
theorem flt_rungs {x y : Nat} (hx : x ≤ double.infRung) (hy : y ≤ double.infRung) : flt .f64 x y = decide (x < y) := by
  have nx : isNaN double x = false := by unfold isNaN; rw [(sgn_rung' hx).2]; exact decide_eq_false (by omega)
  have ny : isNaN double y = false := by unfold isNaN; rw [(sgn_rung' hy).2]; exact decide_eq_false (by omega)
  have kx : key double x = (x : Int) := by unfold key; rw [(sgn_rung' hx).1, (sgn_rung' hx).2]; simp
  have ky : key double y = (y : Int) := by unfold key; rw [(sgn_rung' hy).1, (sgn_rung' hy).2]; simp
  have h := flt_def .f64 x y
  have e : FloatKind.f64.format = double := rfl
  rw [e, nx, ny, kx, ky] at h
  rw [h, Bool.eq_iff_iff]; simp
theorem abs_neg {a : C} (ha : ltC a) : pAbs (pNeg a) = pAbs a := by
  unfold pAbs pNeg
  simp only [fabs_fneg ha.1, fabs_fneg ha.2, isInf_fneg ha.1, isInf_fneg ha.2, isNaN_fneg ha.1, isNaN_fneg ha.2]
theorem size1_neg {a : C} (ha : ltC a) : pSize1 (pNeg a) = pSize1 a := by
  unfold pSize1 pNeg; simp only [fabs_fneg ha.1, fabs_fneg ha.2]
theorem size1_conj {a : C} (ha : ltC a) : pSize1 (pConj a) = pSize1 a := by
  unfold pSize1 pConj; simp only [fabs_fneg ha.2]
theorem size1_swap (x y : Nat) : pSize1 (y, x) = pSize1 (x, y) := fadd_comm _ _
theorem fabs_fin {x : Nat} (hi : isInf double x = false) (hn : isNaN double x = false) : fabs x = rung double x ∧ rung double x < double.infRung := by
  unfold fabs; rw [hn]
  refine ⟨by simp, ?_⟩
  unfold isInf at hi; unfold isNaN at hn
  simp at hi hn; omega
theorem abs_swap (x y : Nat) : pAbs (y, x) = pAbs (x, y) := by
  unfold pAbs
  dsimp only
  rw [Bool.or_comm (isInf double y), Bool.or_comm (isNaN double y)]
  by_cases hi : (isInf double x || isInf double y) = true
  · rw [if_pos hi, if_pos hi]
  · rw [if_neg hi, if_neg hi]
    by_cases hn : (isNaN double x || isNaN double y) = true
    · rw [if_pos hn, if_pos hn]
    · rw [if_neg hn, if_neg hn]
      simp only [Bool.or_eq_true, not_or, Bool.not_eq_true] at hi hn
      have hx := fabs_fin hi.1 hn.1
      have hy := fabs_fin hi.2 hn.2
      rw [hx.1, hy.1]
      have f1 := flt_rungs (x := rung double x) (y := rung double y) (Nat.le_of_lt hx.2) (Nat.le_of_lt hy.2)
      have f2 := flt_rungs (x := rung double y) (y := rung double x) (Nat.le_of_lt hy.2) (Nat.le_of_lt hx.2)
      rw [f1, f2]
      by_cases h0 : rung double x = 0 ∧ rung double y = 0
      · rw [if_pos h0, if_pos ⟨h0.2, h0.1⟩]
      · rw [if_neg h0, if_neg (fun h => h0 ⟨h.2, h.1⟩)]
        rcases Nat.lt_trichotomy (rung double x) (rung double y) with h | h | h
        · rw [if_neg (by simp; omega), if_pos (by simp; omega)]
        · rw [h]
        · rw [if_pos (by simp; omega), if_neg (by simp; omega)]
/-- A word that is not below nought. -/
def nonneg (x : Nat) : Prop := flt .f64 x 0 = false
theorem nonneg_of_nan {x : Nat} (h : isNaN double x = true) : nonneg x := by
  unfold nonneg; rw [flt_def]
  have h' : isNaN FloatKind.f64.format x = true := h
  rw [h']; rfl
theorem nonneg_of_sgn {x : Nat} (h : sgn double x = false) : nonneg x := by
  unfold nonneg; rw [flt_def]
  have h2 : key FloatKind.f64.format x = (rung double x : Int) := by
    show key double x = _
    unfold key; rw [h]; simp
  have h3 : key FloatKind.f64.format 0 = 0 := by decide
  rw [h2, h3]
  simp
theorem nonneg_fabs (x : Nat) : nonneg (fabs x) := by
  unfold fabs
  split
  · exact nonneg_of_nan (isNaN_qn .f64)
  · refine nonneg_of_sgn ?_
    unfold sgn
    have := rung_lt double x
    rw [Nat.div_eq_of_lt this]; rfl
theorem nonneg_sqrt (x : Nat) : nonneg (fsqrt x) := by
  rcases kinds double x with h | h | h
  · by_cases h0 : rung double x = 0
    · have hr := read_zero h0
      have e : fsqrt x = double.write (.number (sgn double x) 0 double.leastPlace) := by
        unfold fsqrt
        show (((double.read x).root _).map double.write).getD _ = _
        rw [hr]; simp [Datum.root]
      rw [e]
      unfold nonneg; rw [flt_def]
      have hz := write_zero (sgn double x) double.leastPlace
      have hk : key FloatKind.f64.format (double.write (.number (sgn double x) 0 double.leastPlace)) = 0 := by
        show key double _ = 0
        unfold key; rw [hz]; split <;> rfl
      have h3 : key FloatKind.f64.format 0 = 0 := by decide
      rw [hk, h3]; simp
    · cases hs : sgn double x
      · obtain ⟨r, h1, _⟩ := sqrt_fin h hs h0
        rw [h1]
        refine nonneg_of_sgn (sgn_word false ?_)
        have := infRung_lt double; omega
      · obtain ⟨m, e, hr, _, hv⟩ := read_fin h
        have hm : m ≠ 0 := by
          intro hm
          have h1 := le_val double (rung double x)
          rw [hm, Nat.zero_mul] at hv; omega
        have e : fsqrt x = qn .f64 := by
          unfold fsqrt
          show (((double.read x).root _).map double.write).getD _ = _
          rw [hr, hs]; simp [Datum.root, hm]
        rw [e]; exact nonneg_of_nan (isNaN_qn .f64)
  · have hr := read_inf ok_double h
    cases hs : sgn double x
    · have e : fsqrt x = double.write (.infinity false) := by
        unfold fsqrt
        show (((double.read x).root _).map double.write).getD _ = _
        rw [hr, hs]; simp [Datum.root]
      rw [e]; exact nonneg_of_sgn (by decide)
    · have e : fsqrt x = qn .f64 := by
        unfold fsqrt
        show (((double.read x).root _).map double.write).getD _ = _
        rw [hr, hs]; simp [Datum.root]
      rw [e]; exact nonneg_of_nan (isNaN_qn .f64)
  · have hr := read_nan ok_double h
    have e : fsqrt x = qn .f64 := by
      unfold fsqrt
      show (((double.read x).root _).map double.write).getD _ = _
      rw [hr]; simp [Datum.root]
    rw [e]; exact nonneg_of_nan (isNaN_qn .f64)
theorem sqrt_nonneg (a : C) : nonneg (pSqrt a).1 := by
  unfold pSqrt
  split
  · exact nonneg_of_nan (isNaN_qn .f64)
  · split
    · exact nonneg_of_sgn (show sgn double 0 = false by decide)
    · split
      · exact nonneg_sqrt _
      · exact nonneg_fabs _
/-- Between the greater part and the sum of both. -/
theorem abs_between {x y : Nat} (hx : isFin double x = true) (hy : isFin double y = true) (g : Nat) (hg : g = max (rung double x) (rung double y)) :
    fle .f64 g (pAbs (x, y)) = true ∧ fle .f64 (pAbs (x, y)) (pSize1 (x, y)) = true := by
  have fx : rung double x < double.infRung := of_decide_eq_true (p := rung double x < double.infRung) hx
  have fy : rung double y < double.infRung := of_decide_eq_true (p := rung double y < double.infRung) hy
  have ix : isInf double x = false := decide_eq_false (by omega)
  have iy : isInf double y = false := decide_eq_false (by omega)
  have nx : isNaN double x = false := decide_eq_false (by omega)
  have ny : isNaN double y = false := decide_eq_false (by omega)
  have hfx := (fabs_fin ix nx).1
  have hfy := (fabs_fin iy ny).1
  have key : ∀ g l, g < double.infRung → l ≤ g → g ≠ 0 → fle .f64 g (absOf g l) = true ∧ fle .f64 (absOf g l) (fadd g l) = true := by
    intro g l h1 h2 h3
    obtain ⟨a, s, e1, e2, h4, h5⟩ := abs_bounds h1 h2 h3
    rw [e1, e2, fle_rungs (Nat.le_of_lt h1) (Nat.min_le_right _ _), fle_rungs (Nat.min_le_right _ _) (Nat.min_le_right _ _)]
    simp only [decide_eq_true_eq]
    omega
  unfold pAbs pSize1
  dsimp only
  rw [ix, iy, nx, ny, hfx, hfy]
  simp only [Bool.or_self, Bool.false_eq_true, if_false]
  have f1 := flt_rungs (x := rung double x) (y := rung double y) (Nat.le_of_lt fx) (Nat.le_of_lt fy)
  rw [f1]
  by_cases h0 : rung double x = 0 ∧ rung double y = 0
  · rw [if_pos h0, hg, h0.1, h0.2]
    have e : fadd 0 0 = 0 := by decide +kernel
    rw [e]
    exact ⟨by decide, by decide⟩
  · rw [if_neg h0]
    by_cases h : rung double x < rung double y
    · rw [if_pos (by simpa using h)]
      have e : g = rung double y := by omega
      have k := key (rung double y) (rung double x) fy (by omega) (by omega)
      rw [e, fadd_comm (rung double x)]; exact k
    · rw [if_neg (by simpa using h)]
      have e : g = rung double x := by omega
      have k := key (rung double x) (rung double y) fx (by omega) (by omega)
      rw [e]; exact k
end Fl
