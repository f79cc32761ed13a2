/- Layer 10: the determinant of any elimination: numbers brought home, their products, how it comes about; in a mirror. -/
import Derived.Test.YtglmmidhkpomgaaGreatT16
namespace Fl
open Ieee Go
/-- A number that is home: its greater part's size from one on, below two. -/
structure Hm (z : C) : Prop where
  lt : ltC z
  f1 : rung double z.1 < 4611686018427387904
  f2 : rung double z.2 < 4611686018427387904
  one : 4607182418800017408 ≤ rung double z.1 ∨ 4607182418800017408 ≤ rung double z.2
theorem inf64 : double.infRung = 9218868437227405312 := by decide
theorem mulB {x y : Nat} (hx : rung double x < 4611686018427387904) (hy : rung double y < 4611686018427387904) :
    ∃ r, fmul x y = double.word (sgn double x ^^ sgn double y) r ∧ r ≤ 4616189618054758400 ∧ Rne double (val double (rung double x) * val double (rung double y)) (one_ double) r := by
  obtain ⟨r, h1, h2⟩ := mul_sval (x := x) (y := y) (by unfold fin; rw [inf64]; omega) (by unfold fin; rw [inf64]; omega)
  rw [abs_sval, abs_sval] at h2
  have hv : val double 4611686018427387904 * val double 4611686018427387904 = val double 4616189618054758400 * one_ double := by decide +kernel
  have hr : r ≤ 4616189618054758400 := rne_le onep h2 (by rw [← hv]; exact Nat.mul_le_mul (val_le (by omega)) (val_le (by omega)))
  refine ⟨r, ?_, hr, h2⟩
  rw [h1, Nat.min_eq_left (by rw [inf64]; omega)]
theorem addB {x y : Nat} (hx : rung double x ≤ 4616189618054758400) (hy : rung double y ≤ 4616189618054758400) :
    ∃ r s, fadd x y = double.word s r ∧ r ≤ 4620693217682128896 ∧ (r = 0 → sval double x + sval double y = 0) := by
  obtain ⟨r, s, h1, h2, -⟩ := add_sval (x := x) (y := y) (by unfold fin; rw [inf64]; omega) (by unfold fin; rw [inf64]; omega)
  have hv : val double 4616189618054758400 + val double 4616189618054758400 = val double 4620693217682128896 := by decide +kernel
  have hx' : (sval double x).natAbs ≤ val double 4616189618054758400 := by rw [abs_sval]; exact val_le hx
  have hy' : (sval double y).natAbs ≤ val double 4616189618054758400 := by rw [abs_sval]; exact val_le hy
  have hr : r ≤ 4620693217682128896 := rne_le Nat.one_pos h2 (by rw [Nat.mul_one, ← hv]; omega)
  refine ⟨r, s, ?_, hr, fun h0 => ?_⟩
  · rw [h1, Nat.min_eq_left (by rw [inf64]; omega)]
  · by_cases h : sval double x + sval double y = 0
    · exact h
    · have := le_rne (s := 1) Nat.one_pos h2 (by rw [val_one]; omega)
      omega
theorem wordB (s : Bool) {r : Nat} (h : r ≤ 4620693217682128896) : rung double (double.word s r) = r ∧ sgn double (double.word s r) = s ∧ double.word s r < 18446744073709551616 :=
  ⟨rung_word s (by rw [sw64]; omega), sgn_word s (by rw [sw64]; omega), word_lt (f := double) s (by rw [sw64]; omega)⟩
theorem svalW (s : Bool) {r : Nat} (h : r ≤ 4620693217682128896) : sval double (double.word s r) = if s then -(val double r : Int) else (val double r : Int) := sval_word s (by rw [inf64]; omega)
theorem same_sv {s t : Bool} {r q : Nat} (h : (if s then -(val double r : Int) else (val double r : Int)) = (if t then -(val double q : Int) else (val double q : Int))) : r = q ∧ (r ≠ 0 → s = t) := by
  have hp : ∀ k, k ≠ 0 → 0 < val double k := fun k hk => by have := le_val double k; omega
  have e : val double r = val double q := by
    cases s <;> cases t <;> simp at h <;> omega
  have e1 := val_inj (f := double) e
  refine ⟨e1, fun h0 => ?_⟩
  have := hp r h0
  cases s <;> cases t <;> simp at h ⊢ <;> omega
theorem neg_sv {s t : Bool} {r q : Nat} (h : (if s then -(val double r : Int) else (val double r : Int)) + (if t then -(val double q : Int) else (val double q : Int)) = 0) : r = q ∧ (r ≠ 0 → s = !t) := by
  have h' : (if s then -(val double r : Int) else (val double r : Int)) = (if (!t) then -(val double q : Int) else (val double q : Int)) := by cases t <;> simp at h ⊢ <;> omega
  exact same_sv h'
/-- The product of two numbers that are home is finite, and no nought. -/
theorem prod_in {a b : C} (ha : Hm a) (hb : Hm b) : pFinite (pMul a b) = true ∧ pZero (pMul a b) = false := by
  obtain ⟨rX, eX, bX, nX⟩ := mulB ha.f1 hb.f1
  obtain ⟨rY, eY, bY, nY⟩ := mulB ha.f2 hb.f2
  obtain ⟨rP, eP, bP, nP⟩ := mulB ha.f1 hb.f2
  obtain ⟨rQ, eQ, bQ, nQ⟩ := mulB ha.f2 hb.f1
  have wX := wordB (sgn double a.1 ^^ sgn double b.1) (r := rX) (by omega)
  have wY := wordB (sgn double a.2 ^^ sgn double b.2) (r := rY) (by omega)
  have wP := wordB (sgn double a.1 ^^ sgn double b.2) (r := rP) (by omega)
  have wQ := wordB (sgn double a.2 ^^ sgn double b.1) (r := rQ) (by omega)
  have hnY : fneg (double.word (sgn double a.2 ^^ sgn double b.2) rY) = double.word (!(sgn double a.2 ^^ sgn double b.2)) rY := fneg_word _ (by rw [inf64]; omega)
  have wN := wordB (!(sgn double a.2 ^^ sgn double b.2)) (r := rY) (by omega)
  obtain ⟨r1, s1, e1, b1, z1⟩ := addB (x := double.word (sgn double a.1 ^^ sgn double b.1) rX) (y := double.word (!(sgn double a.2 ^^ sgn double b.2)) rY) (by rw [wX.1]; exact bX) (by rw [wN.1]; exact bY)
  obtain ⟨r2, s2, e2, b2, z2⟩ := addB (x := double.word (sgn double a.1 ^^ sgn double b.2) rP) (y := double.word (sgn double a.2 ^^ sgn double b.1) rQ) (by rw [wP.1]; exact bP) (by rw [wQ.1]; exact bQ)
  have hM : pMul a b = (double.word s1 r1, double.word s2 r2) := by
    unfold pMul
    rw [eX, eY, eP, eQ, fsub_eq _ wY.2.2, hnY, e1, e2]
  have w1 := wordB s1 b1
  have w2 := wordB s2 b2
  rw [hM]
  constructor
  · unfold pFinite isFin
    simp only [w1.1, w2.1]
    rw [decide_eq_true (by rw [inf64]; omega), decide_eq_true (by rw [inf64]; omega)]; rfl
  · refine Bool.eq_false_iff.2 fun hz => ?_
    unfold pZero at hz
    rw [Bool.and_eq_true, feq_zero, feq_zero, Bool.and_eq_true, Bool.and_eq_true] at hz
    have hr1 : rung double (double.word s1 r1) = 0 := of_decide_eq_true hz.1.2
    have hr2 : rung double (double.word s2 r2) = 0 := of_decide_eq_true hz.2.2
    rw [w1.1] at hr1
    rw [w2.1] at hr2
    have g1 := z1 hr1
    have g2 := z2 hr2
    rw [svalW _ (by omega), svalW _ (by omega)] at g1 g2
    obtain ⟨q1, t1⟩ := neg_sv g1
    obtain ⟨q2, t2⟩ := neg_sv g2
    have vA : val double 4607182418800017408 * val double 4607182418800017408 = val double 4607182418800017408 * one_ double := by decide +kernel
    have vB : val double 4598175219545276416 * val double 4611686018427387904 = val double 4602678819172646912 * one_ double := by decide +kernel
    have vC : val double 4598175219545276416 * val double 4598175219545276416 = val double 4589168020290535424 * one_ double := by decide +kernel
    have up : ∀ {x y r : Nat}, Rne double (val double (rung double x) * val double (rung double y)) (one_ double) r → 4607182418800017408 ≤ rung double x → 4607182418800017408 ≤ rung double y → 4607182418800017408 ≤ r :=
      fun h hx hy => le_rne onep h (by rw [← vA]; exact Nat.mul_le_mul (val_le hx) (val_le hy))
    have lo : ∀ {x y r : Nat}, Rne double (val double (rung double x) * val double (rung double y)) (one_ double) r → rung double x < 4611686018427387904 → rung double y < 4611686018427387904 → 4607182418800017408 ≤ r → 4598175219545276416 ≤ rung double x ∧ 4598175219545276416 ≤ rung double y := by
      intro x y r h hx hy hr
      constructor
      · rcases Nat.lt_or_ge (rung double x) 4598175219545276416 with c | c
        · have : r ≤ 4602678819172646912 := rne_le onep h (by rw [← vB]; exact Nat.mul_le_mul (val_le (by omega)) (val_le (by omega)))
          omega
        · exact c
      · rcases Nat.lt_or_ge (rung double y) 4598175219545276416 with c | c
        · have : r ≤ 4602678819172646912 := rne_le onep h (by rw [← vB, Nat.mul_comm]; exact Nat.mul_le_mul (val_le (by omega)) (val_le (by omega)))
          omega
        · exact c
    have nz : ∀ {x y r : Nat}, Rne double (val double (rung double x) * val double (rung double y)) (one_ double) r → 4598175219545276416 ≤ rung double x → 4598175219545276416 ≤ rung double y → r ≠ 0 := by
      intro x y r h hx hy
      have : 4589168020290535424 ≤ r := le_rne onep h (by rw [← vC]; exact Nat.mul_le_mul (val_le hx) (val_le hy))
      omega
    have all : 4598175219545276416 ≤ rung double a.1 ∧ 4598175219545276416 ≤ rung double a.2 ∧ 4598175219545276416 ≤ rung double b.1 ∧ 4598175219545276416 ≤ rung double b.2 := by
      rcases ha.one with h1 | h1 <;> rcases hb.one with h2 | h2
      · have h3 := lo nY ha.f2 hb.f2 (by rw [← q1]; exact up nX h1 h2)
        exact ⟨by omega, h3.1, by omega, h3.2⟩
      · have h3 := lo nQ ha.f2 hb.f1 (by rw [← q2]; exact up nP h1 h2)
        exact ⟨by omega, h3.1, h3.2, by omega⟩
      · have h3 := lo nP ha.f1 hb.f2 (by rw [q2]; exact up nQ h1 h2)
        exact ⟨h3.1, by omega, by omega, h3.2⟩
      · have h3 := lo nX ha.f1 hb.f1 (by rw [q1]; exact up nY h1 h2)
        exact ⟨h3.1, by omega, h3.2, by omega⟩
    have k1 := t1 (nz nX all.1 all.2.2.1)
    have k2 := t2 (nz nP all.1 all.2.2.2)
    revert k1 k2
    cases sgn double a.1 <;> cases sgn double a.2 <;> cases sgn double b.1 <;> cases sgn double b.2 <;> simp
end Fl
namespace Go.Proofs.YtglmmidhkpomgaaGreat
open Go.RowKit Fl Ieee
set_option maxRecDepth 20000
theorem hval_in {z : C} (h : HomeIn z) : Hm (hval z) := by
  obtain ⟨-, -, hr, hs⟩ := big_facts h
  obtain ⟨x1, x2, x3⟩ := part_expo h (x := z.1) (.inl rfl)
  obtain ⟨y1, y2, y3⟩ := part_expo h (x := z.2) (.inr rfl)
  have key : ∀ {x : Nat}, x < 18446744073709551616 → fin double x → (rung double x ≠ 0 → expo x ≤ expo (hbig z)) → ldW x (-hpow z) < 18446744073709551616 ∧ rung double (ldW x (-hpow z)) < 4611686018427387904 ∧ (rung double x = hbig z → 4607182418800017408 ≤ rung double (ldW x (-hpow z))) := by
    intro x lx fx hx
    have hh0 : hbig z ≠ 0 := (big_facts h).2.1
    by_cases h0 : rung double x = 0
    · have e : ldW x (-hpow z) = x := by unfold ldW; rw [if_pos h0]
      rw [e]
      exact ⟨lx, by rw [h0]; omega, fun e => by omega⟩
    · have e : ldW x (-hpow z) = ldN x (-hpow z + expo x) := by unfold ldW; rw [if_neg h0]
      rw [e]
      have hk : -hpow z + expo x ≤ 1023 := by have := hx h0; unfold hpow; omega
      obtain ⟨l1, -, l3, l4⟩ := ldN_fin lx fx h0 (k := -hpow z + expo x) (by omega)
      refine ⟨l1, l3 hk, fun e1 => l4 ?_⟩
      have e2 := expo_rung lx fx h0
      rw [e1] at e2
      unfold hpow; omega
  obtain ⟨p1, p2, p3⟩ := key x1 x2 x3
  obtain ⟨q1, q2, q3⟩ := key y1 y2 y3
  refine ⟨⟨p1, q1⟩, p2, q2, ?_⟩
  by_cases e : rung double z.2 ≤ rung double z.1
  · exact .inl (p3 (by unfold hbig; omega))
  · exact .inr (q3 (by unfold hbig; omega))
theorem hm_fin {z : C} (h : Hm z) : pFinite z = true := by
  unfold pFinite isFin
  rw [decide_eq_true (show rung double z.1 < double.infRung by have := h.f1; rw [inf64]; omega), decide_eq_true (show rung double z.2 < double.infRung by have := h.f2; rw [inf64]; omega)]
  rfl
theorem hm_prod {a b : C} (ha : Hm a) (hb : Hm b) : HomeIn (pMul a b) := ⟨ltC_mul _ _, (prod_in ha hb).1, (prod_in ha hb).2⟩
/-- How the determinant comes about: the pivots' product, brought home each time. -/
def dmF (U : Nat → C) : Nat → C
  | 0 => (fone, 0)
  | i + 1 => hval (pMul (dmF U i) (hval (U i)))
def deF (U : Nat → C) : Nat → Int
  | 0 => 0
  | i + 1 => deF U i + hpow (U i) + hpow (pMul (dmF U i) (hval (U i)))
theorem dm_in {n : Nat} {U : Nat → C} (hU : ∀ i, i < n → HomeIn (U i)) : ∀ i, i ≤ n → Hm (dmF U i)
  | 0, _ => show Hm (fone, 0) from ⟨⟨by decide, by decide⟩, by decide +kernel, by decide +kernel, .inl (by decide +kernel)⟩
  | i + 1, hi => hval_in (hm_prod (dm_in hU i (by omega)) (hval_in (hU i (by omega))))
theorem det_any {n : Nat} {U : Nat → C} (hU : ∀ i, i < n → HomeIn (U i)) : DetH n U (fun i => hval (U i)) (dmF U) (fun i => hpow (U i)) (fun i => hpow (pMul (dmF U i) (hval (U i)))) (deF U) where
  d0 := rfl
  e0 := rfl
  hm i hi := home_any _ (hU i hi)
  step i hi := home_any _ (hm_prod (dm_in hU i (by omega)) (hval_in (hU i hi)))
  fh i hi := hm_fin (hval_in (hU i hi))
  fd i hi := hm_fin (dm_in hU i hi)
  fm i hi := (hm_prod (dm_in hU i (by omega)) (hval_in (hU i hi))).fn
  next i _ := rfl
  bp i hi := by have := hpow_bounds (hU i hi); omega
  bq i hi := by have := hpow_bounds (hm_prod (dm_in hU i (by omega)) (hval_in (hU i hi))); omega
  be i hi := by
    induction i with
    | zero => simp [deF]
    | succ i ih =>
      have h1 := ih (by omega)
      have h2 := hpow_bounds (hU i (by omega))
      have h3 := hpow_bounds (hm_prod (dm_in hU i (by omega)) (hval_in (hU i (by omega))))
      show (deF U i + hpow (U i) + hpow (pMul (dmF U i) (hval (U i)))).natAbs ≤ (i + 1) * 20000
      omega
/-! ### In a mirror -/
theorem zq_sym_rung {x y : Nat} (h : zq x y) : rung double x = rung double y := zq_rung h
theorem HomeIn.mir {z z' : C} (h : HomeIn z) (hm : Mr z z') : HomeIn z' := ⟨hm.2.2, hm.finite.trans h.fn, (hm.zero h.fn).trans h.nz⟩
theorem hbig_mir {z z' : C} (h : HomeIn z) (hm : Mr z z') : hbig z' = hbig z := by
  obtain ⟨-, f2⟩ := fin_of_pFinite h.fn
  unfold hbig
  rw [zq_rung hm.1.1, zq_rung hm.1.2]
  show max (rung double z.1) (rung double (fneg z.2)) = _
  rw [rung_fneg' h.lt.2 f2]
theorem hpow_mir {z z' : C} (h : HomeIn z) (hm : Mr z z') : hpow z' = hpow z := by unfold hpow; rw [hbig_mir h hm]
theorem ldW_zq {x y : Nat} (h : zq x y) (j : Int) : zq (ldW x j) (ldW y j) := by
  rcases h with rfl | ⟨h1, h2⟩
  · exact .inl rfl
  · unfold ldW; rw [if_pos h1, if_pos h2]; exact .inr ⟨h1, h2⟩
theorem hval_mir {z z' : C} (h : HomeIn z) (hm : Mr z z') : Mr (hval z) (hval z') := by
  obtain ⟨f1, f2⟩ := fin_of_pFinite h.fn
  obtain ⟨p1, p2⟩ := hpow_bounds h
  obtain ⟨-, -, y3⟩ := part_expo h (x := z.2) (.inr rfl)
  refine ⟨⟨?_, ?_⟩, (hval_in h).lt, (hval_in (h.mir hm)).lt⟩
  · show zq (ldW z'.1 (-hpow z')) (ldW z.1 (-hpow z))
    rw [hpow_mir h hm]; exact ldW_zq hm.1.1 _
  · show zq (ldW z'.2 (-hpow z')) (fneg (ldW z.2 (-hpow z)))
    rw [hpow_mir h hm, ← ldW_neg h.lt.2 f2 _ (fun h0 => by have := y3 h0; unfold hpow; omega)]
    exact ldW_zq hm.1.2 _
theorem Mr.one : Mr (fone, 0) (fone, 0) := ⟨⟨.inl rfl, .inr ⟨by decide, by decide +kernel⟩⟩, ⟨by decide, by decide⟩, ⟨by decide, by decide⟩⟩
theorem dm_mir {n : Nat} {U U' : Nat → C} (hU : ∀ i, i < n → HomeIn (U i)) (hm : ∀ i, i < n → Mr (U i) (U' i)) : ∀ i, i ≤ n → Mr (dmF U i) (dmF U' i) ∧ deF U' i = deF U i
  | 0, _ => ⟨Mr.one, rfl⟩
  | i + 1, hi => by
    obtain ⟨h1, h2⟩ := dm_mir hU hm i (by omega)
    have hh := hval_mir (hU i (by omega)) (hm i (by omega))
    have hp := h1.mul hh
    have hin := hm_prod (dm_in hU i (by omega)) (hval_in (hU i (by omega)))
    refine ⟨hval_mir hin hp, ?_⟩
    show deF U' i + hpow (U' i) + hpow (pMul (dmF U' i) (hval (U' i))) = deF U i + hpow (U i) + hpow (pMul (dmF U i) (hval (U i)))
    rw [h2, hpow_mir (hU i (by omega)) (hm i (by omega)), hpow_mir hin hp]
end Go.Proofs.YtglmmidhkpomgaaGreat
