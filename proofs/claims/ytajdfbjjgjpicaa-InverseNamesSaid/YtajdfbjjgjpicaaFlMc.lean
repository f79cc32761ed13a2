/- The mirror sees the same: layer 2's functions of conjugates. -/
import Derived.Test.YtajdfbjjgjpicaaFlM
namespace Fl
open Ieee Go

theorem rounds_exact {f : Format} {s : Bool} {x D b : Nat} (hx : x < 2 ^ f.width) (hf : fin f x) (hs : s = sgn f x) (hD : 0 < D) (h : Rounds f s (val f (rung f x) * D) D b) : b = x := by
  obtain ⟨r, h1, rfl⟩ := h
  have e := h1.eq_of_exact hD rfl
  have hm : min r f.infRung = rung f x := by rw [e]; unfold fin at hf; omega
  rw [hm, hs]; exact (word_split hx).symm
theorem fin_of_isFin {x : Nat} (h : isFin double x = true) : fin double x := of_decide_eq_true (p := rung double x < double.infRung) h
theorem val_one64 : val double (rung double fone) = one_ double := by decide +kernel
theorem fin_one : fin double fone := by unfold fin; decide +kernel
theorem fmul_one {x : Nat} (hx : x < 18446744073709551616) (hf : fin double x) : fmul x fone = x := by
  obtain ⟨b, h1, h2⟩ := mul_fin ok_double hf fin_one
  rw [val_one64] at h2
  have hs : (sgn double x ^^ sgn double fone) = sgn double x := by
    have : sgn double fone = false := by decide
    rw [this]; simp
  have e := rounds_exact (f := double) (x := x) hx hf hs (one_pos double) h2
  unfold fmul fop
  show (double.mul x fone).getD _ = x
  rw [h1]; exact e
theorem fadd_zero {x z : Nat} (hx : x < 18446744073709551616) (hf : fin double x) (hz : rung double z = 0) : zq (fadd x z) x := by
  have hfz : fin double z := by unfold fin; rw [hz]; decide
  obtain ⟨b, h1, h2⟩ := add_fin ok_double hf hfz
  have hb : fadd x z = b := by
    unfold fadd fop
    show (double.add x z).getD _ = b
    rw [h1]; rfl
  rw [hb]
  have sz : sval double z = 0 := by unfold sval; rw [hz, val_zero]; simp
  rw [sz, Int.add_zero] at h2
  by_cases h0 : sval double x = 0
  · rw [if_pos h0, h0] at h2
    right
    constructor
    · obtain ⟨r, h3, h4⟩ := h2.rung
      have h5 : r = 0 := Rne.unique (Nat.one_pos) h3 (Rne.zero double 1 Nat.one_pos)
      rw [h4, h5]; simp
    · have h6 : val double (rung double x) = 0 := by
        unfold sval at h0; split at h0 <;> omega
      exact val_inj (f := double) (h6.trans (val_zero double).symm)
  · rw [if_neg h0] at h2
    left
    have hv : (sval double x).natAbs = val double (rung double x) * 1 := by
      unfold sval; split <;> omega
    have hs : decide (sval double x < 0) = sgn double x := by
      have hr : val double (rung double x) ≠ 0 := by
        intro e; apply h0; unfold sval; rw [e]; simp
      unfold sval
      cases sgn double x
      · simp
      · simp; omega
    rw [hv] at h2
    exact rounds_exact (f := double) hx hf hs Nat.one_pos h2
theorem fmul_zero {y : Nat} (hf : fin double y) : rung double (fmul y 0) = 0 := by
  have h0 : rung double 0 = 0 := by decide
  obtain ⟨b, h1, h2⟩ := mul_fin ok_double hf (y := 0) (by unfold fin; rw [h0]; decide)
  rw [h0, val_zero, Nat.mul_zero] at h2
  obtain ⟨r, h3, h4⟩ := h2.rung
  have h5 : r = 0 := Rne.unique (one_pos double) h3 (Rne.zero double _ (one_pos double))
  unfold fmul fop
  show rung double ((double.mul y 0).getD _) = 0
  rw [h1]
  show rung double b = 0
  rw [h4, h5]; simp

def zqC (a b : C) : Prop := zq a.1 b.1 ∧ zq a.2 b.2
def ltC (a : C) : Prop := a.1 < 18446744073709551616 ∧ a.2 < 18446744073709551616
theorem zqC.equal {a b : C} (h : zqC a b) (h1 : isNaN double a.1 = false) (h2 : isNaN double a.2 = false) : pEqual a b = true := by
  unfold pEqual; rw [h.1.feq h1, h.2.feq h2]; rfl
theorem pAdd_comm (a b : C) : pAdd a b = pAdd b a := by unfold pAdd; rw [fadd_comm a.1, fadd_comm a.2]
theorem pMul_comm (a b : C) : pMul a b = pMul b a := by
  unfold pMul; rw [fmul_comm a.1 b.1, fmul_comm a.2 b.2, fmul_comm a.1 b.2, fmul_comm a.2 b.1, fadd_comm (fmul b.2 a.1)]
theorem pSub_eq (a : C) {b : C} (hb : ltC b) : pSub a b = pAdd a (pNeg b) := by
  unfold pSub pAdd pNeg; rw [fsub_eq _ hb.1, fsub_eq _ hb.2]
theorem cn_of_fop (op : BinOp) (x y : Nat) : cn .f64 (fop op .f64 x y) = fop op .f64 x y := cn_fop op .f64 x y
theorem fmul_neg_neg {x y : Nat} (hx : x < 18446744073709551616) (hy : y < 18446744073709551616) : fmul (fneg x) (fneg y) = fmul x y := by
  rw [fmul_neg_l hx, fmul_neg_r _ hy, fneg_fneg (fmul_lt _ _) (cn_of_fop _ _ _)]
theorem fsub_neg_r (x : Nat) {y : Nat} (hy : y < 18446744073709551616) (hc : cn .f64 y = y) : fsub x (fneg y) = fadd x y := by
  rw [fsub_eq _ (fneg_lt hy), fneg_fneg hy hc]
theorem mul_conj {a b : C} (ha : ltC a) (hb : ltC b) : zqC (pMul (pConj a) (pConj b)) (pConj (pMul a b)) := by
  unfold pMul pConj
  constructor
  · show zq (fsub (fmul a.1 b.1) (fmul (fneg a.2) (fneg b.2))) (fsub (fmul a.1 b.1) (fmul a.2 b.2))
    rw [fmul_neg_neg ha.2 hb.2]; exact .inl rfl
  · show zq (fadd (fmul a.1 (fneg b.2)) (fmul (fneg a.2) b.1)) (fneg (fadd (fmul a.1 b.2) (fmul a.2 b.1)))
    rw [fmul_neg_r _ hb.2, fmul_neg_l ha.2]
    exact fadd_neg (fmul_lt _ _) (fmul_lt _ _)
theorem sum_opp_same {a b : Datum} (h : a.neg = b.neg) : a.opposite.sum b.opposite = (a.sum b).map Datum.opposite := by
  cases a with
  | nan s t => rfl
  | infinity s =>
    cases b with
    | nan t n => rfl
    | number t n j => rfl
    | infinity t =>
      simp only [Datum.neg] at h
      subst h
      simp [Datum.sum, Datum.opposite]
  | number s m i =>
    cases b with
    | nan t n => rfl
    | infinity t => rfl
    | number t n j =>
      simp only [Datum.neg] at h
      subst h
      simp only [Datum.sum, Datum.opposite, signed_not, Option.map_some]
      obtain ⟨p, hp⟩ : ∃ p, signed s m (i - min i j).toNat = p := ⟨_, rfl⟩
      obtain ⟨q, hq⟩ : ∃ q, signed s n (j - min i j).toNat = q := ⟨_, rfl⟩
      rw [hp, hq]
      have h2 : (-p + -q).natAbs = (p + q).natAbs := by omega
      by_cases h0 : p + q = 0
      · have h1 : -p + -q = 0 := by omega
        rw [if_pos h1, if_pos h0, h2]; simp
      · have h1 : ¬ (-p + -q = 0) := by omega
        have h3 : decide (-p + -q < 0) = !decide (p + q < 0) := by
          rw [Bool.eq_iff_iff]; simp; omega
        rw [if_neg h1, if_neg h0, h2, h3]
theorem fadd_neg_same {x y : Nat} (hx : x < 18446744073709551616) (hy : y < 18446744073709551616) (h : isNaN double x = true ∨ isNaN double y = true ∨ sgn double x = sgn double y) :
    fadd (fneg x) (fneg y) = fneg (fadd x y) := by
  cases hn : isNaN double x
  · cases hm : isNaN double y
    · have hs : sgn double x = sgn double y := by
        rcases h with h | h | h
        · rw [hn] at h; cases h
        · rw [hm] at h; cases h
        · exact h
      rw [fneg_of_not hn, fneg_of_not hm]
      unfold fadd fop
      show (((double.read (flip double x)).sum (double.read (flip double y))).map double.write).getD _ = fneg ((((double.read x).sum (double.read y)).map double.write).getD _)
      rw [read_flip (f := double) hx, read_flip (f := double) hy, sum_opp_same (by rw [neg_read, neg_read, hs])]
      exact getD_opp _ (fun d hd => sum_not_nan hd)
    · rw [fneg_of_nan hm, fadd_nan_r qn_nan, fadd_nan_r hm, fneg_qn]
  · rw [fneg_of_nan hn, fadd_nan_l qn_nan, fadd_nan_l hn, fneg_qn]
theorem sgn_round (x y : Nat) : isNaN double (fmul x (fdiv x y)) = true ∨ isNaN double y = true ∨ sgn double (fmul x (fdiv x y)) = sgn double y := by
  cases h : isNaN double (fmul x (fdiv x y))
  · have h1 := not_nan_of_fop h
    right; right
    rw [sgn_fop (.inl rfl) h, sgn_fop (.inr rfl) h1.2]
    cases sgn double x <;> cases sgn double y <;> rfl
  · exact .inl rfl
theorem div_conj {a b : C} (ha : ltC a) (hb : ltC b) : zqC (pDiv (pConj a) (pConj b)) (pConj (pDiv a b)) := by
  have hf : fabs (pConj b).2 = fabs b.2 := fabs_fneg hb.2
  by_cases hc : fle .f64 (fabs b.2) (fabs b.1) = true
  · have e1 : pDiv (pConj a) (pConj b) = (fdiv (fadd a.1 (fmul (fneg a.2) (fdiv (fneg b.2) b.1))) (fadd b.1 (fmul (fneg b.2) (fdiv (fneg b.2) b.1))), fdiv (fsub (fneg a.2) (fmul a.1 (fdiv (fneg b.2) b.1))) (fadd b.1 (fmul (fneg b.2) (fdiv (fneg b.2) b.1)))) := by
      unfold pDiv; rw [hf]; exact if_pos hc
    have e2 : pDiv a b = (fdiv (fadd a.1 (fmul a.2 (fdiv b.2 b.1))) (fadd b.1 (fmul b.2 (fdiv b.2 b.1))), fdiv (fsub a.2 (fmul a.1 (fdiv b.2 b.1))) (fadd b.1 (fmul b.2 (fdiv b.2 b.1)))) := by
      unfold pDiv; exact if_pos hc
    rw [e1, e2, fdiv_neg_l hb.2, fmul_neg_neg ha.2 (fdiv_lt _ _), fmul_neg_neg hb.2 (fdiv_lt _ _), fmul_neg_r _ (fdiv_lt _ _)]
    refine ⟨.inl rfl, ?_⟩
    show zq (fdiv (fsub (fneg a.2) (fneg (fmul a.1 (fdiv b.2 b.1)))) _) (fneg (fdiv (fsub a.2 (fmul a.1 (fdiv b.2 b.1))) _))
    rw [← fdiv_neg_l (fsub_lt _ _)]
    exact (fsub_neg ha.2 (fmul_lt _ _)).div_l _
  · have e1 : pDiv (pConj a) (pConj b) = (fdiv (fadd (fmul a.1 (fdiv b.1 (fneg b.2))) (fneg a.2)) (fadd (fmul b.1 (fdiv b.1 (fneg b.2))) (fneg b.2)), fdiv (fsub (fmul (fneg a.2) (fdiv b.1 (fneg b.2))) a.1) (fadd (fmul b.1 (fdiv b.1 (fneg b.2))) (fneg b.2))) := by
      unfold pDiv; rw [hf]; exact if_neg hc
    have e2 : pDiv a b = (fdiv (fadd (fmul a.1 (fdiv b.1 b.2)) a.2) (fadd (fmul b.1 (fdiv b.1 b.2)) b.2), fdiv (fsub (fmul a.2 (fdiv b.1 b.2)) a.1) (fadd (fmul b.1 (fdiv b.1 b.2)) b.2)) := by
      unfold pDiv; exact if_neg hc
    rw [e1, e2, fdiv_neg_r _ hb.2, fmul_neg_neg ha.2 (fdiv_lt _ _), fmul_neg_r _ (fdiv_lt _ _), fmul_neg_r _ (fdiv_lt _ _),
      fadd_neg_same (fmul_lt _ _) hb.2 (sgn_round b.1 b.2), fdiv_neg_r _ (fadd_lt _ _), fdiv_neg_r _ (fadd_lt _ _)]
    refine ⟨?_, .inl rfl⟩
    show zq (fneg (fdiv (fadd (fneg (fmul a.1 (fdiv b.1 b.2))) (fneg a.2)) _)) (fdiv (fadd (fmul a.1 (fdiv b.1 b.2)) a.2) _)
    rw [← fdiv_neg_l (fadd_lt _ _)]
    have h1 := (fadd_neg (x := fmul a.1 (fdiv b.1 b.2)) (fmul_lt _ _) ha.2).fneg (fadd_lt _ _) (fneg_lt (fadd_lt _ _))
    rw [fneg_fneg (fadd_lt _ _) (cn_of_fop _ _ _)] at h1
    exact h1.div_l _
theorem div_num {a a' : C} (h : zqC a a') (ha : ltC a) (ha' : ltC a') (b : C) : zqC (pDiv a b) (pDiv a' b) := by
  unfold pDiv
  split
  · exact ⟨(h.1.add (h.2.mul_l _)).div_l _, (h.2.sub (h.1.mul_l _) (fmul_lt _ _) (fmul_lt _ _)).div_l _⟩
  · exact ⟨((h.1.mul_l _).add h.2).div_l _, ((h.2.mul_l _).sub h.1 ha.1 ha'.1).div_l _⟩
theorem zqC.trans {a b c : C} (h : zqC a b) (h' : zqC b c) : zqC a c := ⟨h.1.trans h'.1, h.2.trans h'.2⟩
theorem inv_conj {z : C} (hz : ltC z) : zqC (pInv (pConj z)) (pConj (pInv z)) := by
  have h1 : ltC (fone, 0) := ⟨by decide, by decide⟩
  have h2 : ltC (pConj (fone, 0)) := ⟨by decide, by decide⟩
  have h3 : zqC (fone, 0) (pConj (fone, 0)) := ⟨.inl rfl, .inr ⟨by decide, by decide⟩⟩
  exact (div_num h3 h1 h2 (pConj z)).trans (div_conj h1 hz)
theorem mul_one {a : C} (ha : ltC a) (hf : pFinite a = true) : zqC (pMul a (fone, 0)) a := by
  have hf' : isFin double a.1 = true ∧ isFin double a.2 = true := by
    unfold pFinite at hf; exact (Bool.and_eq_true _ _).mp hf
  have f1 := fin_of_isFin hf'.1
  have f2 := fin_of_isFin hf'.2
  constructor
  · show zq (fsub (fmul a.1 fone) (fmul a.2 0)) a.1
    rw [fmul_one ha.1 f1, fsub_eq _ (fmul_lt _ _)]
    exact fadd_zero ha.1 f1 (by rw [rung_fneg (fmul_lt _ _) (isNaN_of_rung0 (fmul_zero f2)), fmul_zero f2])
  · show zq (fadd (fmul a.1 0) (fmul a.2 fone)) a.2
    rw [fmul_one ha.2 f2, fadd_comm]
    exact fadd_zero ha.2 f2 (fmul_zero f1)
theorem conj_conj {a : C} (ha : ltC a) (hc : cn .f64 a.2 = a.2) : pConj (pConj a) = a := by
  unfold pConj; rw [fneg_fneg ha.2 hc]
theorem neg_neg {a : C} (ha : ltC a) (hc1 : cn .f64 a.1 = a.1) (hc : cn .f64 a.2 = a.2) : pNeg (pNeg a) = a := by
  unfold pNeg; rw [fneg_fneg ha.1 hc1, fneg_fneg ha.2 hc]
theorem abs_conj {a : C} (ha : ltC a) : pAbs (pConj a) = pAbs a := by
  unfold pAbs pConj
  simp only [fabs_fneg ha.2, isInf_fneg ha.2, isNaN_fneg ha.2]
theorem feq_fneg0 {x : Nat} (hx : x < 18446744073709551616) : feq .f64 (fneg x) 0 = feq .f64 x 0 := by
  cases hn : isNaN double x
  · have h1 := feq_zero .f64 (fneg x)
    have h2 := feq_zero .f64 x
    rw [h1, h2]
    show (!isNaN double (fneg x) && decide (rung double (fneg x) = 0)) = (!isNaN double x && decide (rung double x = 0))
    rw [isNaN_fneg hx, rung_fneg hx hn]
  · rw [feq_zero, feq_zero]
    show (!isNaN double (fneg x) && _) = (!isNaN double x && _)
    rw [isNaN_fneg hx, hn]; rfl
theorem fabs_of_fneg {x : Nat} (hx : x < 18446744073709551616) : fabs (fneg x) = fabs x := fabs_fneg hx
theorem fabs_lt (x : Nat) : fabs x < 18446744073709551616 := by
  unfold fabs; split
  · exact qn_lt .f64
  · exact rung_lt64' x
theorem sgn_fneg {x : Nat} (hx : x < 18446744073709551616) (hn : isNaN double x = false) : sgn double (fneg x) = !sgn double x := by
  rw [fneg_of_not hn, sgn_flip (f := double) hx]
theorem sqrt_conj {a : C} (ha : ltC a) : pSqrt (pConj a) = pConj (pSqrt a) := by
  have hp : pZero (pConj a) = pZero a := by
    unfold pZero pConj; simp only [feq_fneg0 ha.2]
  have habs := abs_conj ha
  unfold pSqrt
  rw [hp, habs]
  have hn : isNaN double (pConj a).2 = isNaN double a.2 := isNaN_fneg ha.2
  rw [hn]
  show (if (isNaN double a.1 || isNaN double a.2) = true then _ else if pZero a = true then (0, fneg a.2) else if fle .f64 0 a.1 = true then _ else _) = _
  by_cases h1 : (isNaN double a.1 || isNaN double a.2) = true
  · rw [if_pos h1, if_pos h1]; unfold pConj; rw [fneg_qn]
  · rw [if_neg h1, if_neg h1]
    have hn2 : isNaN double a.2 = false := by
      cases h : isNaN double a.2
      · rfl
      · rw [h] at h1; simp at h1
    by_cases h2 : pZero a = true
    · rw [if_pos h2, if_pos h2]; rfl
    · rw [if_neg h2, if_neg h2]
      by_cases h3 : fle .f64 0 a.1 = true
      · rw [if_pos h3, if_pos h3]
        unfold pConj
        show (_, fdiv (fneg a.2) _) = (_, fneg (fdiv a.2 _))
        rw [fdiv_neg_l ha.2]
      · rw [if_neg h3, if_neg h3]
        unfold pConj
        show (fabs (fdiv (fneg a.2) _), if isNaN double _ then qn .f64 else double.word (sgn double (fneg a.2)) _) = (fabs (fdiv a.2 _), fneg (if isNaN double _ then qn .f64 else double.word (sgn double a.2) _))
        rw [fdiv_neg_l ha.2, fabs_fneg (fdiv_lt _ _), sgn_fneg ha.2 hn2]
        obtain ⟨v, hv⟩ : ∃ v, fsqrt (fsub (fdiv (pAbs a) ftwo) (fdiv a.1 ftwo)) = v := ⟨_, rfl⟩
        show (_, if isNaN double (fsqrt (fsub (fdiv (pAbs a) ftwo) (fdiv a.1 ftwo))) = true then qn .f64 else double.word (!sgn double a.2) (rung double (fsqrt (fsub (fdiv (pAbs a) ftwo) (fdiv a.1 ftwo))))) = (_, fneg (if isNaN double (fsqrt (fsub (fdiv (pAbs a) ftwo) (fdiv a.1 ftwo))) = true then qn .f64 else double.word (sgn double a.2) (rung double (fsqrt (fsub (fdiv (pAbs a) ftwo) (fdiv a.1 ftwo))))))
        rw [hv]
        by_cases h4 : isNaN double v = true
        · rw [if_pos h4, if_pos h4, fneg_qn]
        · rw [if_neg h4, if_neg h4]
          have h5 : isNaN double (double.word (sgn double a.2) (rung double v)) = false := by
            rw [isNaN_word]; exact Bool.eq_false_iff.2 h4
          rw [fneg_of_not h5, flip_eq (f := double) (word_lt _ (rung_lt double v)), sgn_word _ (rung_lt double v), rung_word _ (rung_lt double v)]
end Fl
