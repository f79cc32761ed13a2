/- Layer 9 as plain functions: elimination with the choice of a pivot. -/
import Derived.Test.YtajdfbjjgjpicaaFlSz
import Derived.Test.YtajdfbjjgjpicaaFlMc
namespace Fl
open Ieee Go
abbrev Mat := Nat → Nat → C
/-- Which stands there, if i and j are changed. -/
def xch (i j k : Nat) : Nat := if k = i then j else if k = j then i else k
theorem xch_lt {i j k n : Nat} (hi : i < n) (hj : j < n) (hk : k < n) : xch i j k < n := by
  unfold xch; split
  · exact hj
  · split <;> assumption
theorem xch_xch (i j k : Nat) : xch i j (xch i j k) = k := by
  unfold xch; split <;> (try split) <;> (try split) <;> omega
theorem xch_self (i k : Nat) : xch i i k = k := by unfold xch; split <;> (try split) <;> omega
theorem xch_comm (i j k : Nat) : xch i j k = xch j i k := by
  unfold xch; split <;> (try split) <;> omega
theorem xch_inj {i j a b : Nat} (h : xch i j a = xch i j b) : a = b := by
  have := congrArg (xch i j) h; rwa [xch_xch, xch_xch] at this
theorem xch_ne {i j k : Nat} (h1 : k ≠ i) (h2 : k ≠ j) : xch i j k = k := by unfold xch; rw [if_neg h1, if_neg h2]
theorem xch_l (i j : Nat) : xch i j i = j := by unfold xch; rw [if_pos rfl]
theorem xch_r (i j : Nat) : xch i j j = i := by unfold xch; split <;> simp_all
/-- The first of the numbers from k on whose size none of the first m surpasses. -/
def pivUp (col : Nat → C) (k : Nat) : Nat → Nat
  | 0 => k
  | m + 1 => if flt .f64 (pSize1 (col (pivUp col k m))) (pSize1 (col (k + m))) then k + m else pivUp col k m
def nilUp (col : Nat → C) (k : Nat) : Nat → Bool
  | 0 => true
  | m + 1 => nilUp col k m && pZero (col (k + m))
theorem pivUp_bounds (col : Nat → C) (k m : Nat) : k ≤ pivUp col k m ∧ (pivUp col k m < k + m ∨ pivUp col k m = k) := by
  induction m with
  | zero => exact ⟨Nat.le_refl _, .inr rfl⟩
  | succ m ih =>
    unfold pivUp
    split
    · exact ⟨by omega, .inl (by omega)⟩
    · exact ⟨ih.1, ih.2.elim (fun h => .inl (by omega)) .inr⟩
theorem pivUp_lt (col : Nat → C) {k n : Nat} (h : k < n) : pivUp col k (n - k) < n := by
  have := pivUp_bounds col k (n - k); omega
theorem pivUp_hit {col : Nat → C} {k m : Nat} (h : flt .f64 (pSize1 (col (pivUp col k m))) (pSize1 (col (k + m))) = true) : pivUp col k (m + 1) = k + m := by unfold pivUp; rw [if_pos h]
theorem pivUp_miss {col : Nat → C} {k m : Nat} (h : flt .f64 (pSize1 (col (pivUp col k m))) (pSize1 (col (k + m))) = false) : pivUp col k (m + 1) = pivUp col k m := by
  rw [pivUp.eq_2]; rw [h]; rfl
theorem pivUp_congr {c d : Nat → C} {k m : Nat} (h : ∀ i, k ≤ i → i < k + m → c i = d i) (h0 : c k = d k) : pivUp c k m = pivUp d k m := by
  induction m with
  | zero => rfl
  | succ m ih =>
    have e := ih (fun i a b => h i a (by omega))
    have hb := pivUp_bounds d k m
    have e2 : c (pivUp d k m) = d (pivUp d k m) := by
      rcases hb.2 with h1 | h1
      · exact h _ hb.1 (by omega)
      · rw [h1]; exact h0
    unfold pivUp
    rw [e, e2, h (k + m) (by omega) (by omega)]
theorem nilUp_congr {c d : Nat → C} {k m : Nat} (h : ∀ i, k ≤ i → i < k + m → c i = d i) : nilUp c k m = nilUp d k m := by
  induction m with
  | zero => rfl
  | succ m ih =>
    unfold nilUp
    rw [ih (fun i a b => h i a (by omega)), h (k + m) (by omega) (by omega)]
/-- The first number that is not nought, or what surpasses it. -/
def refPiv (col : Nat → C) (k : Nat) : Nat → Option Nat
  | 0 => none
  | m + 1 => if pZero (col (k + m)) then refPiv col k m else
    match refPiv col k m with
    | none => some (k + m)
    | some b => if flt .f64 (pSize1 (col b)) (pSize1 (col (k + m))) then some (k + m) else some b
/-- What was eliminated so far: the numbers, which row stands where, were rows changed an odd number of times. -/
structure El where
  E : Mat
  o : Nat → Nat
  s : Bool
def elF (E : Mat) (k i : Nat) : C := pDiv (E i k) (E k k)
/-- Column k is eliminated. -/
def elE (E : Mat) (k : Nat) : Mat := fun i j => if k < i then (if j = k then elF E k i else if k < j then pSub (E i j) (pMul (elF E k i) (E k j)) else E i j) else E i j
theorem elE_old {E : Mat} {k i j : Nat} (h : i ≤ k) : elE E k i j = E i j := by unfold elE; rw [if_neg (by omega)]
theorem elE_left {E : Mat} {k i j : Nat} (h : j < k) : elE E k i j = E i j := by
  unfold elE; split
  · rw [if_neg (by omega), if_neg (by omega)]
  · rfl
theorem elE_fac {E : Mat} {k i : Nat} (h : k < i) : elE E k i k = elF E k i := by unfold elE; rw [if_pos h, if_pos rfl]
theorem elE_new {E : Mat} {k i j : Nat} (h : k < i) (h' : k < j) : elE E k i j = pSub (E i j) (pMul (elF E k i) (E k j)) := by
  unfold elE; rw [if_pos h, if_neg (by omega), if_pos h']
/-- Are row i's numbers behind column k finite (the factor, and m more)? -/
def fineRow (E : Mat) (k i : Nat) : Nat → Bool
  | 0 => pFinite (E i k)
  | m + 1 => fineRow E k i m && pFinite (E i (k + 1 + m))
/-- And those of m rows behind row k? -/
def fineTo (E : Mat) (n k : Nat) : Nat → Bool
  | 0 => true
  | m + 1 => fineTo E n k m && fineRow E k (k + 1 + m) (n - (k + 1))
theorem fineRow_all {E : Mat} {k i m : Nat} : fineRow E k i m = true ↔ ∀ j, k ≤ j → j ≤ k + m → pFinite (E i j) = true := by
  induction m with
  | zero =>
    unfold fineRow
    exact ⟨fun h j a b => by have : j = k := by omega
                             subst this; exact h, fun h => h k (Nat.le_refl _) (Nat.le_refl _)⟩
  | succ m ih =>
    unfold fineRow
    rw [Bool.and_eq_true, ih]
    refine ⟨fun ⟨h1, h2⟩ j a b => ?_, fun h => ⟨fun j a b => h j a (by omega), h _ (by omega) (by omega)⟩⟩
    rcases Nat.lt_or_ge (k + m) j with h | h
    · have : j = k + 1 + m := by omega
      subst this; exact h2
    · exact h1 j a h
theorem fineTo_all {E : Mat} {n k m : Nat} (hk : k < n) : fineTo E n k m = true ↔ ∀ i j, k < i → i ≤ k + m → k ≤ j → j < n → pFinite (E i j) = true := by
  induction m with
  | zero =>
    unfold fineTo
    exact ⟨fun _ i j a b => by omega, fun _ => rfl⟩
  | succ m ih =>
    unfold fineTo
    rw [Bool.and_eq_true, ih, fineRow_all]
    refine ⟨fun ⟨h1, h2⟩ i j a b c d => ?_, fun h => ⟨fun i j a b c d => h i j a (by omega) c d, fun j a b => h _ j (by omega) (by omega) a (by omega)⟩⟩
    rcases Nat.lt_or_ge (k + m) i with h | h
    · have : i = k + 1 + m := by omega
      subst this; exact h2 j c (by omega)
    · exact h1 i j a h c d
def elPiv (n k : Nat) (S : El) : Nat := pivUp (fun i => S.E i k) k (n - k)
def elNil (n k : Nat) (S : El) : Bool := nilUp (fun i => S.E i k) k (n - k)
/-- Rows k and p are changed. -/
def elSwap (k p : Nat) (S : El) : El := ⟨fun i => S.E (xch k p i), fun i => S.o (xch k p i), if p = k then S.s else !S.s⟩
def elNext (k : Nat) (S : El) : El := ⟨elE S.E k, S.o, S.s⟩
def elErr (n k : Nat) (S : El) : Int := if elNil n k S then 7 else if fineTo (elNext k (elSwap k (elPiv n k S) S)).E n k (n - (k + 1)) then 0 else 6
def elStep (n k : Nat) (S : El) : El := elNext k (elSwap k (elPiv n k S) S)
/-- The first k columns are eliminated: the error and where, and what came of it. -/
def elRun (n : Nat) (S0 : El) : Nat → (Int × Int) × El
  | 0 => ((0, 0), S0)
  | k + 1 =>
    if (elRun n S0 k).1.1 = 0 then
      (if elErr n k (elRun n S0 k).2 = 0 then ((0, 0), elStep n k (elRun n S0 k).2) else ((elErr n k (elRun n S0 k).2, (k : Int)), (elRun n S0 k).2))
    else elRun n S0 k
def finTo (E : Mat) (n : Nat) : Prop := ∀ i j, i < n → j < n → pFinite (E i j) = true
theorem elPiv_lt {n k : Nat} (S : El) (h : k < n) : elPiv n k S < n ∧ k ≤ elPiv n k S := ⟨pivUp_lt _ h, (pivUp_bounds _ _ _).1⟩
theorem elStep_fin {n k : Nat} {S : El} (hk : k < n) (h : finTo S.E n) (he : elErr n k S = 0) : finTo (elStep n k S).E n := by
  intro i j hi hj
  have hp := elPiv_lt S hk
  unfold elErr at he
  split at he
  · cases he
  · split at he
    · rename_i hf
      rw [fineTo_all hk] at hf
      rcases Nat.lt_or_ge k i with h1 | h1
      · rcases Nat.lt_or_ge j k with h2 | h2
        · show pFinite (elE _ k i j) = true
          rw [elE_left h2]
          exact h _ _ (xch_lt hk hp.1 hi) hj
        · exact hf i j h1 (by omega) h2 hj
      · show pFinite (elE _ k i j) = true
        rw [elE_old h1]
        exact h _ _ (xch_lt hk hp.1 hi) hj
    · cases he
theorem elRun_fin {n : Nat} {S : El} (h : finTo S.E n) : ∀ k, k ≤ n → finTo (elRun n S k).2.E n
  | 0, _ => h
  | k + 1, hk => by
    have ih := elRun_fin h k (by omega)
    unfold elRun
    split
    · split
      · rename_i he
        exact elStep_fin (by omega) ih he
      · exact ih
    · exact ih
theorem elRun_ok {n : Nat} {S : El} {k : Nat} (h : (elRun n S k).1.1 = 0) (he : elErr n k (elRun n S k).2 = 0) : elRun n S (k + 1) = ((0, 0), elStep n k (elRun n S k).2) := by
  rw [elRun, if_pos h, if_pos he]
theorem elRun_bad {n : Nat} {S : El} {k : Nat} (h : (elRun n S k).1.1 = 0) (he : elErr n k (elRun n S k).2 ≠ 0) : elRun n S (k + 1) = ((elErr n k (elRun n S k).2, (k : Int)), (elRun n S k).2) := by
  rw [elRun, if_pos h, if_neg he]
theorem elRun_stays {n : Nat} {S : El} {k : Nat} (h : (elRun n S k).1.1 ≠ 0) : ∀ m, elRun n S (k + m) = elRun n S k
  | 0 => rfl
  | m + 1 => by
    have ih := elRun_stays h m
    rw [← Nat.add_assoc, elRun, ih, if_neg h]
end Fl
namespace Fl
open Ieee Go
theorem fin_parts {z : C} (h : pFinite z = true) : rung double z.1 < double.infRung ∧ rung double z.2 < double.infRung ∧ isNaN double z.1 = false ∧ isNaN double z.2 = false ∧ isInf double z.1 = false ∧ isInf double z.2 = false := by
  unfold pFinite at h
  rw [Bool.and_eq_true] at h
  have h1 : rung double z.1 < double.infRung := by simpa [isFin] using h.1
  have h2 : rung double z.2 < double.infRung := by simpa [isFin] using h.2
  refine ⟨h1, h2, ?_, ?_, ?_, ?_⟩
  · exact decide_eq_false (by omega)
  · exact decide_eq_false (by omega)
  · exact decide_eq_false (by omega)
  · exact decide_eq_false (by omega)
theorem size1_fin {z : C} (h : pFinite z = true) : pSize1 z ≤ double.infRung ∧ (pSize1 z = 0 ↔ pZero z = true) := by
  obtain ⟨h1, h2, n1, n2, i1, i2⟩ := fin_parts h
  have e1 := (fabs_fin i1 n1).1
  have e2 := (fabs_fin i2 n2).1
  obtain ⟨r, hr, hn⟩ := fadd_pos h1 h2
  have es : pSize1 z = min r double.infRung := by unfold pSize1; rw [e1, e2]; exact hr
  have hi : 0 < double.infRung := by decide
  refine ⟨by rw [es]; exact Nat.min_le_right _ _, ?_⟩
  have ez : pZero z = true ↔ rung double z.1 = 0 ∧ rung double z.2 = 0 := by
    unfold pZero
    have q1 := feq_zero .f64 z.1
    have q2 := feq_zero .f64 z.2
    rw [show FloatKind.f64.format = double from rfl] at q1 q2
    rw [q1, q2, n1, n2]; simp
  rw [ez, es]
  have l1 : rung double z.1 ≤ r := le_rne Nat.one_pos hn (by omega)
  have l2 : rung double z.2 ≤ r := le_rne Nat.one_pos hn (by omega)
  constructor
  · intro h0
    have : r = 0 := by omega
    omega
  · rintro ⟨z1, z2⟩
    rw [z1, z2, val_zero] at hn
    have : r = 0 := Rne.unique Nat.one_pos hn (Rne.zero double 1 Nat.one_pos)
    omega
theorem lt_of_zero {a b : C} (ha : pFinite a = true) (hb : pFinite b = true) (hz : pZero b = true) : flt .f64 (pSize1 a) (pSize1 b) = false := by
  have h1 := size1_fin ha
  have h2 := size1_fin hb
  rw [flt_rungs h1.1 h2.1, h2.2.2 hz]; simp
theorem zero_lt {a b : C} (ha : pFinite a = true) (hb : pFinite b = true) (hz : pZero a = true) (hz' : pZero b = false) : flt .f64 (pSize1 a) (pSize1 b) = true := by
  have h1 := size1_fin ha
  have h2 := size1_fin hb
  rw [flt_rungs h1.1 h2.1, h1.2.2 hz]
  have : pSize1 b ≠ 0 := fun e => by rw [h2.2.1 e] at hz'; cases hz'
  simp; omega
theorem pivUp_nil {col : Nat → C} {k : Nat} : ∀ m, (∀ i, k ≤ i → i < k + m → pFinite (col i) = true) → pFinite (col k) = true → nilUp col k m = true → pivUp col k m = k
  | 0, _, _, _ => rfl
  | m + 1, hf, hk, h => by
    unfold nilUp at h
    rw [Bool.and_eq_true] at h
    have ih := pivUp_nil m (fun i a b => hf i a (by omega)) hk h.1
    have := lt_of_zero (a := col (pivUp col k m)) (by rw [ih]; exact hk) (hf (k + m) (by omega) (by omega)) h.2
    rw [pivUp_miss this, ih]
theorem nilUp_at {col : Nat → C} {k : Nat} : ∀ m, nilUp col k m = true → ∀ i, k ≤ i → i < k + m → pZero (col i) = true
  | 0, _, i, a, b => by omega
  | m + 1, h, i, a, b => by
    unfold nilUp at h
    rw [Bool.and_eq_true] at h
    rcases Nat.lt_or_ge i (k + m) with h1 | h1
    · exact nilUp_at m h.1 i a h1
    · have : i = k + m := by omega
      subst this; exact h.2
/-- The reference passes noughts over: it comes to the same. -/
theorem refPiv_eq {col : Nat → C} {k : Nat} : ∀ m, (∀ i, k ≤ i → i < k + m → pFinite (col i) = true) → (0 < m → pFinite (col k) = true) → refPiv col k m = if nilUp col k m then none else some (pivUp col k m)
  | 0, _, _ => rfl
  | m + 1, hf, hk => by
    have hk' := hk (Nat.succ_pos m)
    have ih := refPiv_eq m (fun i a b => hf i a (by omega)) (fun _ => hk')
    have hc := hf (k + m) (by omega) (by omega)
    have hb : pFinite (col (pivUp col k m)) = true := by
      have := pivUp_bounds col k m
      rcases this.2 with h | h
      · exact hf _ this.1 (by omega)
      · rw [h]; exact hk'
    unfold refPiv
    rw [ih]
    have en : nilUp col k (m + 1) = (nilUp col k m && pZero (col (k + m))) := rfl
    rw [en]
    cases hz : pZero (col (k + m))
    · rw [if_neg Bool.false_ne_true, Bool.and_false, if_neg Bool.false_ne_true]
      cases hn : nilUp col k m
      · simp only [if_neg Bool.false_ne_true]
        cases hl : flt .f64 (pSize1 (col (pivUp col k m))) (pSize1 (col (k + m)))
        · rw [if_neg Bool.false_ne_true, pivUp_miss hl]
        · rw [if_pos rfl, pivUp_hit hl]
      · rw [if_pos rfl]
        have e := pivUp_nil m (fun i a b => hf i a (by omega)) hk' hn
        rcases Nat.eq_zero_or_pos m with rfl | hm
        · have : pivUp col k 1 = k := by
            cases hl : flt .f64 (pSize1 (col (pivUp col k 0))) (pSize1 (col (k + 0)))
            · rw [pivUp_miss hl]; rfl
            · rw [pivUp_hit hl]; rfl
          rw [this]; rfl
        · have hz0 := nilUp_at m hn k (Nat.le_refl _) (by omega)
          rw [pivUp_hit (zero_lt hb hc (by rw [e]; exact hz0) hz)]
    · rw [if_pos rfl, Bool.and_true, pivUp_miss (lt_of_zero hb hc hz)]
end Fl
namespace Fl
open Ieee Go
theorem zq_rung {x y : Nat} (h : zq x y) : rung double x = rung double y := by
  rcases h with h | ⟨h1, h2⟩
  · rw [h]
  · rw [h1, h2]
theorem isInf_rung0 {x : Nat} (h : rung double x = 0) : isInf double x = false := by
  unfold isInf; rw [h]; decide
theorem fabs_zq {x y : Nat} (h : zq x y) : fabs x = fabs y := by
  rcases h with h | ⟨h1, h2⟩
  · rw [h]
  · rw [(fabs_fin (isInf_rung0 h1) (isNaN_of_rung0 h1)).1, (fabs_fin (isInf_rung0 h2) (isNaN_of_rung0 h2)).1, h1, h2]
theorem fin_of_rung0 {x : Nat} (h : rung double x = 0) : fin double x := by unfold fin; rw [h]; decide
theorem fdiv_zero {z d : Nat} (hz : rung double z = 0) (hd : fin double d) (h0 : rung double d ≠ 0) : rung double (fdiv z d) = 0 := by
  obtain ⟨b, h1, h2⟩ := div_fin ok_double (fin_of_rung0 hz) hd h0
  have hv : 0 < val double (rung double d) := by have := le_val double (rung double d); omega
  rw [hz, val_zero, Nat.zero_mul] at h2
  obtain ⟨r, h3, h4⟩ := h2.rung
  have h5 : r = 0 := Rne.unique hv h3 (Rne.zero double _ hv)
  unfold fdiv fop
  show rung double ((double.div z d).getD _) = 0
  rw [h1]
  show rung double b = 0
  rw [h4, h5]; simp
theorem rung_of_zq0 {x y : Nat} (h : zq x y) (hy : rung double y = 0) : rung double x = 0 := (zq_rung h).trans hy
theorem zmul {z r : Nat} (hz : rung double z = 0) (hr : fin double r) : rung double (fmul z r) = 0 := by
  have h0 : zq z 0 := .inr ⟨hz, by decide⟩
  refine rung_of_zq0 (h0.mul_l r) ?_
  rw [fmul_comm]; exact fmul_zero hr
theorem zadd {z d : Nat} (hz : rung double z = 0) (hl : d < 18446744073709551616) (hd : fin double d) (h0 : rung double d ≠ 0) : fadd d z = d := by
  rcases fadd_zero hl hd hz with h | ⟨_, h⟩
  · exact h
  · exact absurd h h0
theorem zqC.refl (a : C) : zqC a a := ⟨.inl rfl, .inl rfl⟩
theorem zqC.symm {a b : C} (h : zqC a b) : zqC b a := ⟨h.1.symm, h.2.symm⟩
theorem zero_iff {z : C} (h : pFinite z = true) : pZero z = true ↔ rung double z.1 = 0 ∧ rung double z.2 = 0 := by
  obtain ⟨-, -, n1, n2, -, -⟩ := fin_parts h
  unfold pZero
  have q1 := feq_zero .f64 z.1
  have q2 := feq_zero .f64 z.2
  rw [show FloatKind.f64.format = double from rfl] at q1 q2
  rw [q1, q2, n1, n2]; simp
/-- A quotient's divisor up to the sign of noughts. -/
theorem div_den {a b b' : C} (la : ltC a) (h : zqC b b') (hb : pFinite b = true) (h0 : pZero b = false) (lb : ltC b) : zqC (pDiv a b) (pDiv a b') := by
  obtain ⟨f1, f2, n1, n2, i1, i2⟩ := fin_parts hb
  have hz : ¬ (rung double b.1 = 0 ∧ rung double b.2 = 0) := fun h => by rw [(zero_iff hb).2 h] at h0; cases h0
  have e1 := (fabs_fin i1 n1).1
  have e2 := (fabs_fin i2 n2).1
  have a1 := fabs_zq h.1
  have a2 := fabs_zq h.2
  rcases h.1 with h1 | ⟨z1, z1'⟩
  · rcases h.2 with h2 | ⟨z2, z2'⟩
    · rw [show b' = b from (Prod.ext h1 h2).symm]; exact zqC.refl _
    · have hc : rung double b.1 ≠ 0 := fun e => hz ⟨e, z2⟩
      have hle : fle .f64 (fabs b.2) (fabs b.1) = true := by
        rw [e1, e2, fle_rungs (by omega) (by omega), z2]; simp
      have hle' : fle .f64 (fabs b'.2) (fabs b'.1) = true := by rw [← a1, ← a2]; exact hle
      have hr : zq (fdiv b.2 b.1) (fdiv b'.2 b.1) := h.2.div_l _
      have r1 := fdiv_zero z2 f1 hc
      have r2 := fdiv_zero z2' f1 hc
      have t1 : fadd b.1 (fmul b.2 (fdiv b.2 b.1)) = b.1 := zadd (zmul z2 (fin_of_rung0 r1)) lb.1 f1 hc
      have t2 : fadd b.1 (fmul b'.2 (fdiv b'.2 b.1)) = b.1 := zadd (zmul z2' (fin_of_rung0 r2)) lb.1 f1 hc
      unfold pDiv
      rw [if_pos hle, if_pos hle', ← h1]
      simp only [t1, t2]
      exact ⟨((zq.rfl' _).add (zq.mul_r hr _)).div_l _, ((zq.rfl' _).sub (zq.mul_r hr _) (fmul_lt _ _) (fmul_lt _ _)).div_l _⟩
  · have hc : rung double b.2 ≠ 0 := fun e => hz ⟨z1, e⟩
    have h2 : b.2 = b'.2 := by
      rcases h.2 with h2 | ⟨z2, _⟩
      · exact h2
      · exact absurd z2 hc
    have hle : ¬ fle .f64 (fabs b.2) (fabs b.1) = true := by
      rw [e1, e2, fle_rungs (by omega) (by omega), z1]; simp; omega
    have hle' : ¬ fle .f64 (fabs b'.2) (fabs b'.1) = true := by rw [← a1, ← a2]; exact hle
    have hr : zq (fdiv b.1 b.2) (fdiv b'.1 b.2) := h.1.div_l _
    have r1 := fdiv_zero z1 f2 hc
    have r2 := fdiv_zero z1' f2 hc
    have t1 : fadd (fmul b.1 (fdiv b.1 b.2)) b.2 = b.2 := by rw [fadd_comm]; exact zadd (zmul z1 (fin_of_rung0 r1)) lb.2 f2 hc
    have t2 : fadd (fmul b'.1 (fdiv b'.1 b.2)) b.2 = b.2 := by rw [fadd_comm]; exact zadd (zmul z1' (fin_of_rung0 r2)) lb.2 f2 hc
    unfold pDiv
    rw [if_neg hle, if_neg hle', ← h2]
    simp only [t1, t2]
    exact ⟨((zq.mul_r hr _).add (zq.rfl' _)).div_l _, ((zq.mul_r hr _).sub (zq.rfl' _) la.1 la.1).div_l _⟩
theorem zqC.sub {a a' b b' : C} (h : zqC a a') (h' : zqC b b') (hb : ltC b) (hb' : ltC b') : zqC (pSub a b) (pSub a' b') :=
  ⟨h.1.sub h'.1 hb.1 hb'.1, h.2.sub h'.2 hb.2 hb'.2⟩
theorem zqC.mul {a a' b b' : C} (h : zqC a a') (h' : zqC b b') : zqC (pMul a b) (pMul a' b') := by
  have m : ∀ {x x' y y' : Nat}, zq x x' → zq y y' → zq (fmul x y) (fmul x' y') := fun p q => (p.mul_l _).trans (q.mul_r _)
  exact ⟨(m h.1 h'.1).sub (m h.2 h'.2) (fmul_lt _ _) (fmul_lt _ _), (m h.1 h'.2).add (m h.2 h'.1)⟩
theorem sub_conj {a b : C} (ha : ltC a) (hb : ltC b) : zqC (pSub (pConj a) (pConj b)) (pConj (pSub a b)) :=
  ⟨.inl rfl, fsub_neg ha.2 hb.2⟩
theorem ltC_sub (a b : C) : ltC (pSub a b) := ⟨fsub_lt _ _, fsub_lt _ _⟩
theorem ltC_mul (a b : C) : ltC (pMul a b) := ⟨fsub_lt _ _, fadd_lt _ _⟩
theorem ltC_div (a b : C) : ltC (pDiv a b) := by unfold pDiv; split <;> exact ⟨fdiv_lt _ _, fdiv_lt _ _⟩
theorem ltC_conj {a : C} (h : ltC a) : ltC (pConj a) := ⟨h.1, fneg_lt h.2⟩
/-- One number is another's conjugate, up to the signs of noughts. -/
def Mr (a a' : C) : Prop := zqC a' (pConj a) ∧ ltC a ∧ ltC a'
namespace Mr
variable {a a' b b' : C}
theorem sub (h : Mr a a') (h' : Mr b b') : Mr (pSub a b) (pSub a' b') :=
  ⟨(h.1.sub h'.1 h'.2.2 (ltC_conj h'.2.1)).trans (sub_conj h.2.1 h'.2.1), ltC_sub _ _, ltC_sub _ _⟩
theorem mul (h : Mr a a') (h' : Mr b b') : Mr (pMul a b) (pMul a' b') :=
  ⟨(h.1.mul h'.1).trans (mul_conj h.2.1 h'.2.1), ltC_mul _ _, ltC_mul _ _⟩
theorem isFin_neg {x : Nat} (h : x < 18446744073709551616) : isFin double (fneg x) = isFin double x := by
  by_cases hn : isNaN double x = true
  · rw [fneg_of_nan hn]
    have h1 : double.infRung < rung double x := of_decide_eq_true (p := double.infRung < rung double x) hn
    have e1 : isFin double x = false := decide_eq_false (by omega)
    rw [e1]; decide +kernel
  · have h0 := Bool.eq_false_iff.2 hn
    unfold isFin
    rw [rung_fneg h h0]
theorem finite (h : Mr a a') : pFinite a' = pFinite a := by
  unfold pFinite
  have e1 : isFin double a'.1 = isFin double a.1 := by unfold isFin; rw [zq_rung h.1.1]; rfl
  have e2 : isFin double a'.2 = isFin double a.2 := by
    rw [← isFin_neg h.2.1.2]
    unfold isFin; rw [zq_rung h.1.2]; rfl
  rw [e1, e2]
theorem size1 (h : Mr a a') : pSize1 a' = pSize1 a := by
  unfold pSize1
  rw [fabs_zq h.1.1, fabs_zq h.1.2]
  show fadd (fabs a.1) (fabs (fneg a.2)) = _
  rw [fabs_fneg h.2.1.2]
theorem zero (h : Mr a a') (hf : pFinite a = true) : pZero a' = pZero a := by
  have h1 := (size1_fin hf).2
  have h2 := (size1_fin (h.finite.trans hf)).2
  rw [h.size1] at h2
  exact Bool.eq_iff_iff.2 (h2.symm.trans h1)
theorem div (h : Mr a a') (h' : Mr b b') (hf : pFinite b = true) (h0 : pZero b = false) : Mr (pDiv a b) (pDiv a' b') := by
  refine ⟨?_, ltC_div _ _, ltC_div _ _⟩
  have h1 : zqC (pDiv a' b') (pDiv (pConj a) b') := div_num h.1 h.2.2 (ltC_conj h.2.1) _
  have h2 : zqC (pDiv (pConj a) b') (pDiv (pConj a) (pConj b)) := div_den (ltC_conj h.2.1) h'.1 (h'.finite.trans hf) ((h'.zero hf).trans h0) h'.2.2
  exact (h1.trans h2).trans (div_conj h.2.1 h'.2.1)
end Mr
/-- Which is chosen hangs on the sizes alone. -/
theorem pivUp_size {c d : Nat → C} {k m : Nat} (h : ∀ i, k ≤ i → i < k + m → pSize1 (c i) = pSize1 (d i)) : pivUp c k m = pivUp d k m := by
  induction m with
  | zero => rfl
  | succ m ih =>
    have e := ih (fun i a b => h i a (by omega))
    have hb := pivUp_bounds d k m
    unfold pivUp
    rw [e, h (pivUp d k m) hb.1 (by omega), h (k + m) (by omega) (by omega)]
theorem nilUp_zero {c d : Nat → C} {k m : Nat} (h : ∀ i, k ≤ i → i < k + m → pZero (c i) = pZero (d i)) : nilUp c k m = nilUp d k m := by
  induction m with
  | zero => rfl
  | succ m ih =>
    unfold nilUp
    rw [ih (fun i a b => h i a (by omega)), h (k + m) (by omega) (by omega)]
/-- No size is above the chosen one's. -/
theorem pivUp_max {c : Nat → C} {k m : Nat} (hf : ∀ i, k ≤ i → i < k + m → pFinite (c i) = true) : ∀ i, k ≤ i → i < k + m → pSize1 (c i) ≤ pSize1 (c (pivUp c k m)) := by
  induction m with
  | zero => intro i a b; omega
  | succ m ih =>
    have ih := ih (fun i a b => hf i a (by omega))
    have hb := pivUp_bounds c k m
    have l1 := (size1_fin (hf (pivUp c k m) hb.1 (by omega))).1
    have l2 := (size1_fin (hf (k + m) (by omega) (by omega))).1
    intro i a b
    cases hg : flt .f64 (pSize1 (c (pivUp c k m))) (pSize1 (c (k + m)))
    · rw [pivUp_miss hg]
      rw [flt_rungs l1 l2] at hg
      have hg := of_decide_eq_false hg
      by_cases e : i = k + m
      · subst e; omega
      · exact ih i a (by omega)
    · rw [pivUp_hit hg]
      rw [flt_rungs l1 l2] at hg
      have hg := of_decide_eq_true hg
      by_cases e : i = k + m
      · subst e; exact Nat.le_refl _
      · have := ih i a (by omega); omega
theorem nilUp_some {c : Nat → C} {k m : Nat} (h : nilUp c k m = false) : ∃ i, k ≤ i ∧ i < k + m ∧ pZero (c i) = false := by
  induction m with
  | zero => cases h
  | succ m ih =>
    unfold nilUp at h
    rw [Bool.and_eq_false_iff] at h
    rcases h with h | h
    · obtain ⟨i, a, b, c⟩ := ih h
      exact ⟨i, a, by omega, c⟩
    · exact ⟨k + m, by omega, by omega, h⟩
theorem piv_nonzero {c : Nat → C} {k m : Nat} (hf : ∀ i, k ≤ i → i < k + m → pFinite (c i) = true) (h : nilUp c k m = false) : pZero (c (pivUp c k m)) = false := by
  obtain ⟨i, a, b, hz⟩ := nilUp_some h
  have h1 := pivUp_max hf i a b
  have hb := pivUp_bounds c k m
  have h2 := (size1_fin (hf i a b)).2
  have h3 := (size1_fin (hf (pivUp c k m) hb.1 (by omega))).2
  have h4 : pSize1 (c i) ≠ 0 := fun e => by rw [h2.1 e] at hz; cases hz
  refine Bool.eq_false_iff.2 fun e => ?_
  have := h3.2 e; omega
def Mir (n : Nat) (E E' : Mat) : Prop := ∀ i j, i < n → j < n → Mr (E i j) (E' i j)
/-- Two eliminations, one the other's mirror. -/
structure Mirr (n : Nat) (S S' : El) : Prop where
  mir : Mir n S.E S'.E
  o : S'.o = S.o
  s : S'.s = S.s
  fin : finTo S.E n
theorem Mirr.fin' {n : Nat} {S S' : El} (h : Mirr n S S') : finTo S'.E n := fun i j hi hj => (h.mir i j hi hj).finite.trans (h.fin i j hi hj)
theorem Mirr.piv {n k : Nat} {S S' : El} (h : Mirr n S S') (hk : k < n) : elPiv n k S' = elPiv n k S :=
  pivUp_size fun i _ hi => (h.mir i k (by omega) hk).size1
theorem Mirr.nil {n k : Nat} {S S' : El} (h : Mirr n S S') (hk : k < n) : elNil n k S' = elNil n k S :=
  nilUp_zero fun i _ hi => (h.mir i k (by omega) hk).zero (h.fin i k (by omega) hk)
theorem Mirr.swap {n k p : Nat} {S S' : El} (h : Mirr n S S') (hk : k < n) (hp : p < n) : Mirr n (elSwap k p S) (elSwap k p S') where
  mir i j hi hj := h.mir _ j (xch_lt hk hp hi) hj
  o := by unfold elSwap; rw [h.o]
  s := by unfold elSwap; rw [h.s]
  fin i j hi hj := h.fin _ j (xch_lt hk hp hi) hj
theorem Mir.elE {n k : Nat} {E E' : Mat} (h : Mir n E E') (hk : k < n) (hf : pFinite (E k k) = true) (h0 : pZero (E k k) = false) : Mir n (elE E k) (elE E' k) := by
  intro i j hi hj
  have hF : k < i → Mr (elF E k i) (elF E' k i) := fun _ => (h i k hi hk).div (h k k hk hk) hf h0
  rcases Nat.lt_or_ge k i with h1 | h1
  · rcases Nat.lt_or_ge k j with h2 | h2
    · rw [elE_new h1 h2, elE_new h1 h2]
      exact (h i j hi hj).sub ((hF h1).mul (h k j hk hj))
    · by_cases e : j = k
      · subst e; rw [elE_fac h1, elE_fac h1]; exact hF h1
      · rw [elE_left (by omega), elE_left (by omega)]; exact h i j hi hj
  · rw [elE_old h1, elE_old h1]; exact h i j hi hj
/-- The pivot, once its row is in its place. -/
theorem piv_at {n k : Nat} {S : El} (hk : k < n) (hf : finTo S.E n) (hn : elNil n k S = false) : pFinite ((elSwap k (elPiv n k S) S).E k k) = true ∧ pZero ((elSwap k (elPiv n k S) S).E k k) = false := by
  have e : (elSwap k (elPiv n k S) S).E k k = S.E (elPiv n k S) k := by
    show S.E (xch k (elPiv n k S) k) k = _
    rw [xch_l]
  rw [e]
  refine ⟨hf _ k (elPiv_lt S hk).1 hk, ?_⟩
  exact piv_nonzero (c := fun i => S.E i k) (fun i _ hi => hf i k (by omega) hk) hn
theorem Mirr.err {n k : Nat} {S S' : El} (h : Mirr n S S') (hk : k < n) : elErr n k S' = elErr n k S := by
  unfold elErr
  rw [h.nil hk, h.piv hk]
  by_cases hn : elNil n k S = true
  · rw [if_pos hn, if_pos hn]
  · rw [if_neg hn, if_neg hn]
    have hn := Bool.eq_false_iff.2 hn
    obtain ⟨hf, h0⟩ := piv_at hk h.fin hn
    have hw := h.swap hk (elPiv_lt S hk).1
    have hm := hw.mir.elE hk hf h0
    have e : fineTo (elE (elSwap k (elPiv n k S) S').E k) n k (n - (k + 1)) = fineTo (elE (elSwap k (elPiv n k S) S).E k) n k (n - (k + 1)) := by
      refine Bool.eq_iff_iff.2 ?_
      rw [fineTo_all hk, fineTo_all hk]
      exact ⟨fun g i j a b c d => by rw [← (hm i j (by omega) d).finite]; exact g i j a b c d, fun g i j a b c d => by rw [(hm i j (by omega) d).finite]; exact g i j a b c d⟩
    unfold elNext
    rw [e]
theorem Mirr.step {n k : Nat} {S S' : El} (h : Mirr n S S') (hk : k < n) (he : elErr n k S = 0) : Mirr n (elStep n k S) (elStep n k S') := by
  have hn : elNil n k S = false := by
    refine Bool.eq_false_iff.2 fun e => ?_
    unfold elErr at he
    rw [if_pos e] at he
    cases he
  obtain ⟨hf, h0⟩ := piv_at hk h.fin hn
  have hw := h.swap hk (elPiv_lt S hk).1
  unfold elStep
  rw [h.piv hk]
  exact ⟨hw.mir.elE hk hf h0, hw.o, hw.s, elStep_fin hk h.fin he⟩
theorem Mirr.run {n : Nat} {S S' : El} (h : Mirr n S S') : ∀ k, k ≤ n → (elRun n S' k).1 = (elRun n S k).1 ∧ Mirr n (elRun n S k).2 (elRun n S' k).2
  | 0, _ => ⟨rfl, h⟩
  | k + 1, hk => by
    obtain ⟨e, ht⟩ := h.run k (by omega)
    by_cases h0 : (elRun n S k).1.1 = 0
    · have h0' : (elRun n S' k).1.1 = 0 := by rw [e]; exact h0
      have hE := ht.err (k := k) (by omega)
      by_cases he : elErr n k (elRun n S k).2 = 0
      · rw [elRun_ok h0 he, elRun_ok h0' (hE.trans he)]
        exact ⟨rfl, ht.step (by omega) he⟩
      · rw [elRun_bad h0 he, elRun_bad h0' (by rw [hE]; exact he), hE]
        exact ⟨rfl, ht⟩
    · have h0' : ¬ (elRun n S' k).1.1 = 0 := by rw [e]; exact h0
      rw [elRun, elRun, if_neg h0, if_neg h0']
      exact ⟨e, ht⟩
/-- The order tells each row once. -/
def Perm (n : Nat) (o : Nat → Nat) : Prop := (∀ i, i < n → o i < n) ∧ ∀ i j, i < n → j < n → o i = o j → i = j
theorem Perm.xch {n k p : Nat} {o : Nat → Nat} (h : Perm n o) (hk : k < n) (hp : p < n) : Perm n (fun i => o (xch k p i)) :=
  ⟨fun _ hi => h.1 _ (xch_lt hk hp hi), fun _ _ hi hj e => xch_inj (h.2 _ _ (xch_lt hk hp hi) (xch_lt hk hp hj) e)⟩
theorem run_perm {n : Nat} {S : El} (h : Perm n S.o) : ∀ k, k ≤ n → Perm n (elRun n S k).2.o
  | 0, _ => h
  | k + 1, hk => by
    have ih := run_perm h k (by omega)
    unfold elRun
    split
    · split
      · exact ih.xch (by omega) (elPiv_lt _ (by omega)).1
      · exact ih
    · exact ih
/-- Row 0 stays, once it is chosen. -/
theorem run_first {n : Nat} {S : El} (hn : 0 < n) : ∀ k, 1 ≤ k → k ≤ n → (elRun n S k).1.1 = 0 → (elRun n S k).2.o 0 = S.o (elPiv n 0 S)
  | 0, h, _, _ => by omega
  | k + 1, _, hk, h0 => by
    have h1 : (elRun n S k).1.1 = 0 := by
      by_cases e : (elRun n S k).1.1 = 0
      · exact e
      · rw [elRun, if_neg e] at h0; exact absurd h0 e
    have he : elErr n k (elRun n S k).2 = 0 := by
      by_cases e : elErr n k (elRun n S k).2 = 0
      · exact e
      · rw [elRun_bad h1 e] at h0; exact absurd h0 e
    rw [elRun_ok h1 he]
    show (elRun n S k).2.o (Fl.xch k _ 0) = _
    rcases Nat.eq_zero_or_pos k with e | e
    · subst e
      rw [xch_l]; rfl
    · have hp := (elPiv_lt (elRun n S k).2 (k := k) (n := n) (by omega)).2
      rw [xch_ne (by omega) (by omega)]
      exact run_first hn k e (by omega) h1
end Fl
