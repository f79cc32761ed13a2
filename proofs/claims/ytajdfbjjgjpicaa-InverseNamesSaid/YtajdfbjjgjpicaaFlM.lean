/- The mirror: commuting, opposites, and what the sign of a nought does to the operations. -/
import Derived.Test.YtajdfbjjgjpicaaFlS
namespace Fl
open Ieee Go

theorem sum_comm (a b : Datum) : a.sum b = b.sum a := by
  cases a <;> cases b <;> simp only [Datum.sum]
  · rename_i s m i t n j
    rw [Int.min_comm i j, Int.add_comm, Bool.and_comm]
  · rename_i s t
    by_cases h : s = t
    · rw [if_pos h, if_pos h.symm, h]
    · rw [if_neg h, if_neg (fun e => h e.symm)]
theorem product_comm (a b : Datum) : a.product b = b.product a := by
  cases a <;> cases b <;> simp only [Datum.product]
  · rename_i s m i t n j
    rw [Bool.xor_comm, Nat.mul_comm, Int.add_comm]
  · rename_i s t
    rw [Bool.xor_comm]
theorem fadd_comm (x y : Nat) : fadd x y = fadd y x := by
  unfold fadd fop
  show (((double.read x).sum (double.read y)).map double.write).getD _ = (((double.read y).sum (double.read x)).map double.write).getD _
  rw [sum_comm]
theorem fmul_comm (x y : Nat) : fmul x y = fmul y x := by
  unfold fmul fop
  show (((double.read x).product (double.read y)).map double.write).getD _ = (((double.read y).product (double.read x)).map double.write).getD _
  rw [product_comm]
theorem fneg_qn : fneg (qn .f64) = qn .f64 := by unfold fneg; rw [if_pos qn_nan]
theorem fneg_of_nan {x : Nat} (h : isNaN double x = true) : fneg x = qn .f64 := by unfold fneg; rw [if_pos h]
theorem fneg_of_not {x : Nat} (h : isNaN double x = false) : fneg x = flip double x := by unfold fneg; rw [if_neg (by rw [h]; simp)]
theorem fneg_lt {x : Nat} (h : x < 18446744073709551616) : fneg x < 18446744073709551616 := by
  unfold fneg; split
  · exact qn_lt .f64
  · exact flip_lt64 h
theorem isNaN_fneg {x : Nat} (h : x < 18446744073709551616) : isNaN double (fneg x) = isNaN double x := by
  cases hx : isNaN double x
  · rw [fneg_of_not hx, isNaN_flip h, hx]
  · rw [fneg_of_nan hx, qn_nan]
theorem rung_fneg {x : Nat} (h : x < 18446744073709551616) (hn : isNaN double x = false) : rung double (fneg x) = rung double x := by
  rw [fneg_of_not hn, rung_flip (f := double) h]
theorem fabs_fneg {x : Nat} (h : x < 18446744073709551616) : fabs (fneg x) = fabs x := by
  cases hx : isNaN double x
  · unfold fabs; rw [isNaN_fneg h, rung_fneg h hx]
  · rw [fneg_of_nan hx]; unfold fabs; rw [hx, qn_nan]; rfl
theorem fneg_fneg {x : Nat} (h : x < 18446744073709551616) (hc : cn .f64 x = x) : fneg (fneg x) = x := by
  cases hx : isNaN double x
  · have h1 : isNaN double (flip double x) = false := by rw [isNaN_flip h, hx]
    rw [fneg_of_not hx, fneg_of_not h1, flip_flip]
  · rw [fneg_of_nan hx, fneg_qn, ← hc, cn_of_nan (k := .f64) hx]
theorem isInf_fneg {x : Nat} (h : x < 18446744073709551616) : isInf double (fneg x) = isInf double x := by
  cases hx : isNaN double x
  · unfold isInf; rw [rung_fneg h hx]
  · rw [fneg_of_nan hx]
    have e : isInf double x = false := by
      simp only [isNaN, isInf, decide_eq_true_eq, decide_eq_false_iff_not] at *; omega
    rw [e]; decide
theorem write_opposite (d : Datum) (h : d.isNaN = false) : double.write d.opposite = flip double (double.write d) := by
  cases d with
  | nan s t => simp [Datum.isNaN] at h
  | infinity s =>
    show double.word (!s) double.infRung = flip double (double.word s double.infRung)
    rw [flip_eq (word_lt s (infRung_lt double)), sgn_word s (infRung_lt double), rung_word s (infRung_lt double)]
  | number s m e =>
    show double.nearest (!s) m e = flip double (double.nearest s m e)
    rw [nearest_eq, nearest_eq]
    have e1 : rungOf double (!s) m e = rungOf double s m e := rfl
    have h2 : min (rungOf double s m e) double.infRung < double.signWeight := by have := infRung_lt double; omega
    rw [e1, flip_eq (word_lt s h2), sgn_word s h2, rung_word s h2]
theorem getD_opp (o : Option Datum) (h : ∀ d, o = some d → d.isNaN = false) : ((o.map Datum.opposite).map double.write).getD (qn .f64) = fneg ((o.map double.write).getD (qn .f64)) := by
  cases o with
  | none => exact fneg_qn.symm
  | some d =>
    show double.write d.opposite = fneg (double.write d)
    rw [write_opposite d (h d rfl)]; exact (fneg_of_not (write_not_nan .f64 (h d rfl))).symm
theorem product_opp_l (a b : Datum) : a.opposite.product b = (a.product b).map Datum.opposite := by
  cases a <;> cases b <;> simp only [Datum.product, Datum.opposite, Option.map_none, Option.map_some] <;> (try split) <;> simp [Datum.opposite]
theorem quotient_opp_l (g : Nat) (a b : Datum) : Datum.quotient g a.opposite b = (Datum.quotient g a b).map Datum.opposite := by
  cases a <;> cases b <;> simp only [Datum.quotient, Datum.opposite, Option.map_none, Option.map_some] <;> (try split) <;> (try split) <;> simp [Datum.opposite]
theorem quotient_opp_r (g : Nat) (a b : Datum) : Datum.quotient g a b.opposite = (Datum.quotient g a b).map Datum.opposite := by
  cases a <;> cases b <;> simp only [Datum.quotient, Datum.opposite, Option.map_none, Option.map_some] <;> (try split) <;> (try split) <;> simp [Datum.opposite]
theorem fadd_nan_l {x : Nat} (h : isNaN double x = true) (y : Nat) : fadd x y = qn .f64 := fop_nan_l (k := .f64) h
theorem fadd_nan_r {y : Nat} (h : isNaN double y = true) (x : Nat) : fadd x y = qn .f64 := fop_nan_r (k := .f64) h
theorem fsub_nan_l {x : Nat} (h : isNaN double x = true) (y : Nat) : fsub x y = qn .f64 := fop_nan_l (k := .f64) h
theorem fsub_nan_r {y : Nat} (h : isNaN double y = true) (x : Nat) : fsub x y = qn .f64 := fop_nan_r (k := .f64) h
theorem fmul_nan_l {x : Nat} (h : isNaN double x = true) (y : Nat) : fmul x y = qn .f64 := fop_nan_l (k := .f64) h
theorem fmul_nan_r {y : Nat} (h : isNaN double y = true) (x : Nat) : fmul x y = qn .f64 := fop_nan_r (k := .f64) h
theorem fdiv_nan_l {x : Nat} (h : isNaN double x = true) (y : Nat) : fdiv x y = qn .f64 := fop_nan_l (k := .f64) h
theorem fdiv_nan_r {y : Nat} (h : isNaN double y = true) (x : Nat) : fdiv x y = qn .f64 := fop_nan_r (k := .f64) h
theorem fmul_neg_l {x : Nat} (hx : x < 18446744073709551616) (y : Nat) : fmul (fneg x) y = fneg (fmul x y) := by
  cases hn : isNaN double x
  · rw [fneg_of_not hn]
    unfold fmul fop
    show (((double.read (flip double x)).product (double.read y)).map double.write).getD _ = fneg ((((double.read x).product (double.read y)).map double.write).getD _)
    rw [read_flip (f := double) hx, product_opp_l]
    exact getD_opp _ (fun d hd => product_not_nan hd)
  · rw [fneg_of_nan hn, fmul_nan_l qn_nan, fmul_nan_l hn, fneg_qn]
theorem fmul_neg_r (x : Nat) {y : Nat} (hy : y < 18446744073709551616) : fmul x (fneg y) = fneg (fmul x y) := by
  rw [fmul_comm, fmul_neg_l hy, fmul_comm]
theorem fdiv_neg_l {x : Nat} (hx : x < 18446744073709551616) (y : Nat) : fdiv (fneg x) y = fneg (fdiv x y) := by
  cases hn : isNaN double x
  · rw [fneg_of_not hn]
    unfold fdiv fop
    show ((Datum.quotient 54 (double.read (flip double x)) (double.read y)).map double.write).getD _ = fneg (((Datum.quotient 54 (double.read x) (double.read y)).map double.write).getD _)
    rw [read_flip (f := double) hx, quotient_opp_l]
    exact getD_opp _ (fun d hd => quotient_not_nan hd)
  · rw [fneg_of_nan hn, fdiv_nan_l qn_nan, fdiv_nan_l hn, fneg_qn]
theorem fdiv_neg_r (x : Nat) {y : Nat} (hy : y < 18446744073709551616) : fdiv x (fneg y) = fneg (fdiv x y) := by
  cases hn : isNaN double y
  · rw [fneg_of_not hn]
    unfold fdiv fop
    show ((Datum.quotient 54 (double.read x) (double.read (flip double y))).map double.write).getD _ = fneg (((Datum.quotient 54 (double.read x) (double.read y)).map double.write).getD _)
    rw [read_flip (f := double) hy, quotient_opp_r]
    exact getD_opp _ (fun d hd => quotient_not_nan hd)
  · rw [fneg_of_nan hn, fdiv_nan_r qn_nan, fdiv_nan_r hn, fneg_qn]
theorem fsub_eq (x : Nat) {y : Nat} (hy : y < 18446744073709551616) : fsub x y = fadd x (fneg y) := by
  cases hn : isNaN double y
  · rw [fneg_of_not hn]
    unfold fsub fadd fop
    show (double.sub x y).getD _ = (double.add x (flip double y)).getD _
    rw [sub_eq (f := double) hy]
  · rw [fneg_of_nan hn, fadd_nan_r qn_nan, fsub_nan_r hn]

/-- The same, or both a nought. -/
def zq (x y : Nat) : Prop := x = y ∨ (rung double x = 0 ∧ rung double y = 0)
theorem zq.rfl' (x : Nat) : zq x x := .inl rfl
theorem zq.symm {x y : Nat} (h : zq x y) : zq y x := h.elim (fun e => .inl e.symm) (fun e => .inr ⟨e.2, e.1⟩)
theorem zq.trans {x y z : Nat} (h : zq x y) (h' : zq y z) : zq x z := by
  rcases h with rfl | ⟨h1, h2⟩
  · exact h'
  · rcases h' with rfl | ⟨h3, h4⟩
    · exact .inr ⟨h1, h2⟩
    · exact .inr ⟨h1, h4⟩
theorem isNaN_of_rung0 {x : Nat} (h : rung double x = 0) : isNaN double x = false := by
  unfold isNaN; rw [h]; simp
theorem zq.feq {x y : Nat} (h : zq x y) (hn : isNaN double x = false) : feq .f64 x y = true := by
  rcases h with rfl | ⟨h1, h2⟩
  · rw [feq_self]; show (!isNaN double x) = true; rw [hn]; rfl
  · rw [feq_def]
    have e1 : key double x = 0 := by unfold key; rw [h1]; simp
    have e2 : key double y = 0 := by unfold key; rw [h2]; simp
    show (!isNaN double x && !isNaN double y && decide (key double x = key double y)) = true
    rw [isNaN_of_rung0 h1, isNaN_of_rung0 h2, e1, e2]; simp
theorem zq.isNaN {x y : Nat} (h : zq x y) : isNaN double x = isNaN double y := by
  rcases h with rfl | ⟨h1, h2⟩
  · rfl
  · rw [isNaN_of_rung0 h1, isNaN_of_rung0 h2]
theorem zq.fneg {x y : Nat} (h : zq x y) (hx : x < 18446744073709551616) (hy : y < 18446744073709551616) : zq (fneg x) (fneg y) := by
  rcases h with rfl | ⟨h1, h2⟩
  · exact .inl rfl
  · exact .inr ⟨by rw [rung_fneg hx (isNaN_of_rung0 h1), h1], by rw [rung_fneg hy (isNaN_of_rung0 h2), h2]⟩
theorem zq_fneg_self {x : Nat} (hx : x < 18446744073709551616) (h : rung double x = 0) : zq (fneg x) x :=
  .inr ⟨by rw [rung_fneg hx (isNaN_of_rung0 h), h], h⟩
theorem read_zero {x : Nat} (h : rung double x = 0) : double.read x = .number (sgn double x) 0 double.leastPlace := by
  rw [read_eq, if_pos (by rw [h]; exact binade_pos _), h]
theorem write_zero (s : Bool) (e : Int) : rung double (double.write (.number s 0 e)) = 0 := by
  show rung double (double.nearest s 0 e) = 0
  rw [nearest_eq]
  have h : rungOf double s 0 e = 0 := by unfold rungOf; rw [if_pos rfl]
  rw [h, Nat.zero_min, rung_word s (signWeight_pos _)]
/-- Two answers that are the same, or both a nought, or both none. -/
def zo (o o' : Option Datum) : Prop := zq ((o.map double.write).getD (qn .f64)) ((o'.map double.write).getD (qn .f64))
theorem zo_zero (s s' : Bool) (e e' : Int) : zo (some (.number s 0 e)) (some (.number s' 0 e')) := .inr ⟨write_zero s e, write_zero s' e'⟩
theorem sum_zq (s s' : Bool) (e : Int) (b : Datum) : zo (Datum.sum (.number s 0 e) b) (Datum.sum (.number s' 0 e) b) := by
  cases b with
  | nan t n => exact .inl rfl
  | infinity t => exact .inl rfl
  | number t n j =>
    simp only [Datum.sum]
    have h : ∀ u : Bool, signed u 0 (e - min e j).toNat = 0 := by intro u; cases u <;> simp [signed]
    rw [h, h]
    by_cases h0 : (0 : Int) + signed t n (j - min e j).toNat = 0
    · rw [if_pos h0, if_pos h0, h0]; exact zo_zero _ _ _ _
    · rw [if_neg h0, if_neg h0]; exact .inl rfl
theorem product_zq (s s' : Bool) (e : Int) (b : Datum) : zo (Datum.product (.number s 0 e) b) (Datum.product (.number s' 0 e) b) := by
  cases b with
  | nan t n => exact .inl rfl
  | infinity t => simp only [Datum.product]; exact .inl rfl
  | number t n j => simp only [Datum.product, Nat.zero_mul]; exact zo_zero _ _ _ _
theorem quotient_zq (g : Nat) (s s' : Bool) (e : Int) (b : Datum) : zo (Datum.quotient g (.number s 0 e) b) (Datum.quotient g (.number s' 0 e) b) := by
  cases b with
  | nan t n => exact .inl rfl
  | infinity t => simp only [Datum.quotient]; exact zo_zero _ _ _ _
  | number t n j =>
    simp only [Datum.quotient]
    by_cases hn : n = 0
    · rw [if_pos hn, if_pos hn]; exact .inl rfl
    · rw [if_neg hn, if_neg hn]
      simp only [Nat.zero_shiftLeft, Nat.zero_div, Nat.zero_mod]
      exact zo_zero _ _ _ _
theorem zq.add_l {x x' : Nat} (h : zq x x') (y : Nat) : zq (fadd x y) (fadd x' y) := by
  rcases h with rfl | ⟨h1, h2⟩
  · exact .inl rfl
  · have := sum_zq (sgn double x) (sgn double x') double.leastPlace (double.read y)
    rw [← read_zero h1, ← read_zero h2] at this
    exact this
theorem zq.add_r {y y' : Nat} (h : zq y y') (x : Nat) : zq (fadd x y) (fadd x y') := by
  rw [fadd_comm x y, fadd_comm x y']; exact h.add_l x
theorem zq.add {x x' y y' : Nat} (h : zq x x') (h' : zq y y') : zq (fadd x y) (fadd x' y') := (h.add_l y).trans (h'.add_r x')
theorem zq.mul_l {x x' : Nat} (h : zq x x') (y : Nat) : zq (fmul x y) (fmul x' y) := by
  rcases h with rfl | ⟨h1, h2⟩
  · exact .inl rfl
  · have := product_zq (sgn double x) (sgn double x') double.leastPlace (double.read y)
    rw [← read_zero h1, ← read_zero h2] at this
    exact this
theorem zq.mul_r {y y' : Nat} (h : zq y y') (x : Nat) : zq (fmul x y) (fmul x y') := by
  rw [fmul_comm x y, fmul_comm x y']; exact h.mul_l x
theorem zq.div_l {x x' : Nat} (h : zq x x') (y : Nat) : zq (fdiv x y) (fdiv x' y) := by
  rcases h with rfl | ⟨h1, h2⟩
  · exact .inl rfl
  · have := quotient_zq 54 (sgn double x) (sgn double x') double.leastPlace (double.read y)
    rw [← read_zero h1, ← read_zero h2] at this
    exact this
theorem fadd_lt (x y : Nat) : fadd x y < 18446744073709551616 := fop_lt .add .f64 x y
theorem fsub_lt (x y : Nat) : fsub x y < 18446744073709551616 := fop_lt .sub .f64 x y
theorem fmul_lt (x y : Nat) : fmul x y < 18446744073709551616 := fop_lt .mul .f64 x y
theorem fdiv_lt (x y : Nat) : fdiv x y < 18446744073709551616 := fop_lt .quo .f64 x y
theorem zq.sub {x x' y y' : Nat} (h : zq x x') (h' : zq y y') (hy : y < 18446744073709551616) (hy' : y' < 18446744073709551616) : zq (fsub x y) (fsub x' y') := by
  rw [fsub_eq x hy, fsub_eq x' hy']; exact h.add (h'.fneg hy hy')

/-- The sum of the opposites: the opposite, but for the sign of a nought. -/
theorem signed_not (s : Bool) (m u : Nat) : signed (!s) m u = -signed s m u := by cases s <;> simp [signed]
theorem sum_opp (a b : Datum) : zo (a.opposite.sum b.opposite) ((a.sum b).map Datum.opposite) := by
  cases a with
  | nan s t => exact .inl rfl
  | infinity s =>
    cases b with
    | nan t n => exact .inl rfl
    | number t n j => exact .inl rfl
    | infinity t =>
      simp only [Datum.sum, Datum.opposite]
      by_cases h : s = t
      · subst h; rw [if_pos rfl, if_pos rfl]; exact .inl rfl
      · rw [if_neg h, if_neg (by intro e; exact h (Bool.not_inj e))]; exact .inl rfl
  | number s m i =>
    cases b with
    | nan t n => exact .inl rfl
    | infinity t => exact .inl rfl
    | number t n j =>
      simp only [Datum.sum, Datum.opposite, signed_not, Option.map_some]
      obtain ⟨p, hp⟩ : ∃ p, signed s m (i - min i j).toNat = p := ⟨_, rfl⟩
      obtain ⟨q, hq⟩ : ∃ q, signed t n (j - min i j).toNat = q := ⟨_, rfl⟩
      rw [hp, hq]
      by_cases h0 : p + q = 0
      · have h1 : -p + -q = 0 := by omega
        rw [if_pos h1, if_pos h0, h0, h1]; exact zo_zero _ _ _ _
      · have h1 : ¬ (-p + -q = 0) := by omega
        have h2 : (-p + -q).natAbs = (p + q).natAbs := by omega
        have h3 : decide (-p + -q < 0) = !decide (p + q < 0) := by
          rw [Bool.eq_iff_iff]; simp; omega
        rw [if_neg h1, if_neg h0, h2, h3]; exact .inl rfl
theorem fadd_neg {x y : Nat} (hx : x < 18446744073709551616) (hy : y < 18446744073709551616) : zq (fadd (fneg x) (fneg y)) (fneg (fadd x y)) := by
  cases hn : isNaN double x
  · cases hm : isNaN double y
    · rw [fneg_of_not hn, fneg_of_not hm]
      have h := sum_opp (double.read x) (double.read y)
      rw [← read_flip (f := double) hx, ← read_flip (f := double) hy] at h
      unfold zo at h
      rw [getD_opp _ (fun d hd => sum_not_nan hd)] at h
      exact h
    · rw [fneg_of_nan hm, fadd_nan_r qn_nan, fadd_nan_r hm, fneg_qn]; exact .inl rfl
  · rw [fneg_of_nan hn, fadd_nan_l qn_nan, fadd_nan_l hn, fneg_qn]; exact .inl rfl
theorem fsub_neg {x y : Nat} (hx : x < 18446744073709551616) (hy : y < 18446744073709551616) : zq (fsub (fneg x) (fneg y)) (fneg (fsub x y)) := by
  rw [fsub_eq _ (fneg_lt hy), fsub_eq _ hy]; exact fadd_neg hx (fneg_lt hy)
end Fl
