/- A region that draws its order: all that a store waits for is run ahead of it, whatever the order, in one world. -/
import Derived.Test.YtandllekeimpgaaFlA
import Derived.Test.YtandllekeimpgaaRegK
import Derived.Test.YtandllekeimpgaaMX1
import Derived.Test.YtandllekeimpgaaExt
import Derived.WalkKit
import Derived.Deep.RegionHeld3
import Derived.StillTail
import Derived.Deep.OwnRows
import Derived.Deep.QuietTactic
import Derived.BigQuiet
namespace Fl
open Ieee Go
abbrev Mat := Nat → Nat → C
/-- Which stands there, if i and j are changed. -/
def xch (i j k : Nat) : Nat := if k = i then j else if k = j then i else k
theorem xch_lt {i j k n : Nat} (hi : i < n) (hj : j < n) (hk : k < n) : xch i j k < n := by
  unfold xch; split
  · exact hj
  · split <;> assumption
theorem xch_xch (i j k : Nat) : xch i j (xch i j k) = k := by
  unfold xch; split <;> (try split) <;> (try split) <;> omega
theorem xch_self (i k : Nat) : xch i i k = k := by unfold xch; split <;> (try split) <;> omega
theorem xch_comm (i j k : Nat) : xch i j k = xch j i k := by
  unfold xch; split <;> (try split) <;> omega
theorem xch_inj {i j a b : Nat} (h : xch i j a = xch i j b) : a = b := by
  have := congrArg (xch i j) h; rwa [xch_xch, xch_xch] at this
theorem xch_ne {i j k : Nat} (h1 : k ≠ i) (h2 : k ≠ j) : xch i j k = k := by unfold xch; rw [if_neg h1, if_neg h2]
theorem xch_l (i j : Nat) : xch i j i = j := by unfold xch; rw [if_pos rfl]
theorem xch_r (i j : Nat) : xch i j j = i := by unfold xch; split <;> simp_all
/-- The first of the numbers from k on whose size none of the first m surpasses. -/
def pivUp (col : Nat → C) (k : Nat) : Nat → Nat
  | 0 => k
  | m + 1 => if flt .f64 (pSize1 (col (pivUp col k m))) (pSize1 (col (k + m))) then k + m else pivUp col k m
def nilUp (col : Nat → C) (k : Nat) : Nat → Bool
  | 0 => true
  | m + 1 => nilUp col k m && pZero (col (k + m))
theorem pivUp_bounds (col : Nat → C) (k m : Nat) : k ≤ pivUp col k m ∧ (pivUp col k m < k + m ∨ pivUp col k m = k) := by
  induction m with
  | zero => exact ⟨Nat.le_refl _, .inr rfl⟩
  | succ m ih =>
    unfold pivUp
    split
    · exact ⟨by omega, .inl (by omega)⟩
    · exact ⟨ih.1, ih.2.elim (fun h => .inl (by omega)) .inr⟩
theorem pivUp_lt (col : Nat → C) {k n : Nat} (h : k < n) : pivUp col k (n - k) < n := by
  have := pivUp_bounds col k (n - k); omega
theorem pivUp_hit {col : Nat → C} {k m : Nat} (h : flt .f64 (pSize1 (col (pivUp col k m))) (pSize1 (col (k + m))) = true) : pivUp col k (m + 1) = k + m := by unfold pivUp; rw [if_pos h]
theorem pivUp_miss {col : Nat → C} {k m : Nat} (h : flt .f64 (pSize1 (col (pivUp col k m))) (pSize1 (col (k + m))) = false) : pivUp col k (m + 1) = pivUp col k m := by
  rw [pivUp.eq_2]; rw [h]; rfl
theorem pivUp_congr {c d : Nat → C} {k m : Nat} (h : ∀ i, k ≤ i → i < k + m → c i = d i) (h0 : c k = d k) : pivUp c k m = pivUp d k m := by
  induction m with
  | zero => rfl
  | succ m ih =>
    have e := ih (fun i a b => h i a (by omega))
    have hb := pivUp_bounds d k m
    have e2 : c (pivUp d k m) = d (pivUp d k m) := by
      rcases hb.2 with h1 | h1
      · exact h _ hb.1 (by omega)
      · rw [h1]; exact h0
    unfold pivUp
    rw [e, e2, h (k + m) (by omega) (by omega)]
theorem nilUp_congr {c d : Nat → C} {k m : Nat} (h : ∀ i, k ≤ i → i < k + m → c i = d i) : nilUp c k m = nilUp d k m := by
  induction m with
  | zero => rfl
  | succ m ih =>
    unfold nilUp
    rw [ih (fun i a b => h i a (by omega)), h (k + m) (by omega) (by omega)]
/-- The first number that is not nought, or what surpasses it. -/
def refPiv (col : Nat → C) (k : Nat) : Nat → Option Nat
  | 0 => none
  | m + 1 => if pZero (col (k + m)) then refPiv col k m else
    match refPiv col k m with
    | none => some (k + m)
    | some b => if flt .f64 (pSize1 (col b)) (pSize1 (col (k + m))) then some (k + m) else some b
/-- What was eliminated so far: the numbers, which row stands where, were rows changed an odd number of times. -/
structure El where
  E : Mat
  o : Nat → Nat
  s : Bool
def elF (E : Mat) (k i : Nat) : C := pDiv (E i k) (E k k)
/-- Column k is eliminated. -/
def elE (E : Mat) (k : Nat) : Mat := fun i j => if k < i then (if j = k then elF E k i else if k < j then pSub (E i j) (pMul (elF E k i) (E k j)) else E i j) else E i j
theorem elE_old {E : Mat} {k i j : Nat} (h : i ≤ k) : elE E k i j = E i j := by unfold elE; rw [if_neg (by omega)]
theorem elE_left {E : Mat} {k i j : Nat} (h : j < k) : elE E k i j = E i j := by
  unfold elE; split
  · rw [if_neg (by omega), if_neg (by omega)]
  · rfl
theorem elE_fac {E : Mat} {k i : Nat} (h : k < i) : elE E k i k = elF E k i := by unfold elE; rw [if_pos h, if_pos rfl]
theorem elE_new {E : Mat} {k i j : Nat} (h : k < i) (h' : k < j) : elE E k i j = pSub (E i j) (pMul (elF E k i) (E k j)) := by
  unfold elE; rw [if_pos h, if_neg (by omega), if_pos h']
/-- Are row i's numbers behind column k finite (the factor, and m more)? -/
def fineRow (E : Mat) (k i : Nat) : Nat → Bool
  | 0 => pFinite (E i k)
  | m + 1 => fineRow E k i m && pFinite (E i (k + 1 + m))
/-- And those of m rows behind row k? -/
def fineTo (E : Mat) (n k : Nat) : Nat → Bool
  | 0 => true
  | m + 1 => fineTo E n k m && fineRow E k (k + 1 + m) (n - (k + 1))
theorem fineRow_all {E : Mat} {k i m : Nat} : fineRow E k i m = true ↔ ∀ j, k ≤ j → j ≤ k + m → pFinite (E i j) = true := by
  induction m with
  | zero =>
    unfold fineRow
    exact ⟨fun h j a b => by have : j = k := by omega
                             subst this; exact h, fun h => h k (Nat.le_refl _) (Nat.le_refl _)⟩
  | succ m ih =>
    unfold fineRow
    rw [Bool.and_eq_true, ih]
    refine ⟨fun ⟨h1, h2⟩ j a b => ?_, fun h => ⟨fun j a b => h j a (by omega), h _ (by omega) (by omega)⟩⟩
    rcases Nat.lt_or_ge (k + m) j with h | h
    · have : j = k + 1 + m := by omega
      subst this; exact h2
    · exact h1 j a h
theorem fineTo_all {E : Mat} {n k m : Nat} (hk : k < n) : fineTo E n k m = true ↔ ∀ i j, k < i → i ≤ k + m → k ≤ j → j < n → pFinite (E i j) = true := by
  induction m with
  | zero =>
    unfold fineTo
    exact ⟨fun _ i j a b => by omega, fun _ => rfl⟩
  | succ m ih =>
    unfold fineTo
    rw [Bool.and_eq_true, ih, fineRow_all]
    refine ⟨fun ⟨h1, h2⟩ i j a b c d => ?_, fun h => ⟨fun i j a b c d => h i j a (by omega) c d, fun j a b => h _ j (by omega) (by omega) a (by omega)⟩⟩
    rcases Nat.lt_or_ge (k + m) i with h | h
    · have : i = k + 1 + m := by omega
      subst this; exact h2 j c (by omega)
    · exact h1 i j a h c d
def elPiv (n k : Nat) (S : El) : Nat := pivUp (fun i => S.E i k) k (n - k)
def elNil (n k : Nat) (S : El) : Bool := nilUp (fun i => S.E i k) k (n - k)
/-- Rows k and p are changed. -/
def elSwap (k p : Nat) (S : El) : El := ⟨fun i => S.E (xch k p i), fun i => S.o (xch k p i), if p = k then S.s else !S.s⟩
def elNext (k : Nat) (S : El) : El := ⟨elE S.E k, S.o, S.s⟩
def elErr (n k : Nat) (S : El) : Int := if elNil n k S then 7 else if fineTo (elNext k (elSwap k (elPiv n k S) S)).E n k (n - (k + 1)) then 0 else 6
def elStep (n k : Nat) (S : El) : El := elNext k (elSwap k (elPiv n k S) S)
/-- The first k columns are eliminated: the error and where, and what came of it. -/
def elRun (n : Nat) (S0 : El) : Nat → (Int × Int) × El
  | 0 => ((0, 0), S0)
  | k + 1 =>
    if (elRun n S0 k).1.1 = 0 then
      (if elErr n k (elRun n S0 k).2 = 0 then ((0, 0), elStep n k (elRun n S0 k).2) else ((elErr n k (elRun n S0 k).2, (k : Int)), (elRun n S0 k).2))
    else elRun n S0 k
def finTo (E : Mat) (n : Nat) : Prop := ∀ i j, i < n → j < n → pFinite (E i j) = true
theorem elPiv_lt {n k : Nat} (S : El) (h : k < n) : elPiv n k S < n ∧ k ≤ elPiv n k S := ⟨pivUp_lt _ h, (pivUp_bounds _ _ _).1⟩
theorem elStep_fin {n k : Nat} {S : El} (hk : k < n) (h : finTo S.E n) (he : elErr n k S = 0) : finTo (elStep n k S).E n := by
  intro i j hi hj
  have hp := elPiv_lt S hk
  unfold elErr at he
  split at he
  · cases he
  · split at he
    · rename_i hf
      rw [fineTo_all hk] at hf
      rcases Nat.lt_or_ge k i with h1 | h1
      · rcases Nat.lt_or_ge j k with h2 | h2
        · show pFinite (elE _ k i j) = true
          rw [elE_left h2]
          exact h _ _ (xch_lt hk hp.1 hi) hj
        · exact hf i j h1 (by omega) h2 hj
      · show pFinite (elE _ k i j) = true
        rw [elE_old h1]
        exact h _ _ (xch_lt hk hp.1 hi) hj
    · cases he
theorem elRun_fin {n : Nat} {S : El} (h : finTo S.E n) : ∀ k, k ≤ n → finTo (elRun n S k).2.E n
  | 0, _ => h
  | k + 1, hk => by
    have ih := elRun_fin h k (by omega)
    unfold elRun
    split
    · split
      · rename_i he
        exact elStep_fin (by omega) ih he
      · exact ih
    · exact ih
theorem elRun_ok {n : Nat} {S : El} {k : Nat} (h : (elRun n S k).1.1 = 0) (he : elErr n k (elRun n S k).2 = 0) : elRun n S (k + 1) = ((0, 0), elStep n k (elRun n S k).2) := by
  rw [elRun, if_pos h, if_pos he]
theorem elRun_bad {n : Nat} {S : El} {k : Nat} (h : (elRun n S k).1.1 = 0) (he : elErr n k (elRun n S k).2 ≠ 0) : elRun n S (k + 1) = ((elErr n k (elRun n S k).2, (k : Int)), (elRun n S k).2) := by
  rw [elRun, if_pos h, if_neg he]
theorem elRun_stays {n : Nat} {S : El} {k : Nat} (h : (elRun n S k).1.1 ≠ 0) : ∀ m, elRun n S (k + m) = elRun n S k
  | 0 => rfl
  | m + 1 => by
    have ih := elRun_stays h m
    rw [← Nat.add_assoc, elRun, ih, if_neg h]
end Fl
namespace Fl
open Ieee Go
theorem fin_parts {z : C} (h : pFinite z = true) : rung double z.1 < double.infRung ∧ rung double z.2 < double.infRung ∧ isNaN double z.1 = false ∧ isNaN double z.2 = false ∧ isInf double z.1 = false ∧ isInf double z.2 = false := by
  unfold pFinite at h
  rw [Bool.and_eq_true] at h
  have h1 : rung double z.1 < double.infRung := by simpa [isFin] using h.1
  have h2 : rung double z.2 < double.infRung := by simpa [isFin] using h.2
  refine ⟨h1, h2, ?_, ?_, ?_, ?_⟩
  · exact decide_eq_false (by omega)
  · exact decide_eq_false (by omega)
  · exact decide_eq_false (by omega)
  · exact decide_eq_false (by omega)
theorem size1_fin {z : C} (h : pFinite z = true) : pSize1 z ≤ double.infRung ∧ (pSize1 z = 0 ↔ pZero z = true) := by
  obtain ⟨h1, h2, n1, n2, i1, i2⟩ := fin_parts h
  have e1 := (fabs_fin i1 n1).1
  have e2 := (fabs_fin i2 n2).1
  obtain ⟨r, hr, hn⟩ := fadd_pos h1 h2
  have es : pSize1 z = min r double.infRung := by unfold pSize1; rw [e1, e2]; exact hr
  have hi : 0 < double.infRung := by decide
  refine ⟨by rw [es]; exact Nat.min_le_right _ _, ?_⟩
  have ez : pZero z = true ↔ rung double z.1 = 0 ∧ rung double z.2 = 0 := by
    unfold pZero
    have q1 := feq_zero .f64 z.1
    have q2 := feq_zero .f64 z.2
    rw [show FloatKind.f64.format = double from rfl] at q1 q2
    rw [q1, q2, n1, n2]; simp
  rw [ez, es]
  have l1 : rung double z.1 ≤ r := le_rne Nat.one_pos hn (by omega)
  have l2 : rung double z.2 ≤ r := le_rne Nat.one_pos hn (by omega)
  constructor
  · intro h0
    have : r = 0 := by omega
    omega
  · rintro ⟨z1, z2⟩
    rw [z1, z2, val_zero] at hn
    have : r = 0 := Rne.unique Nat.one_pos hn (Rne.zero double 1 Nat.one_pos)
    omega
theorem lt_of_zero {a b : C} (ha : pFinite a = true) (hb : pFinite b = true) (hz : pZero b = true) : flt .f64 (pSize1 a) (pSize1 b) = false := by
  have h1 := size1_fin ha
  have h2 := size1_fin hb
  rw [flt_rungs h1.1 h2.1, h2.2.2 hz]; simp
theorem zero_lt {a b : C} (ha : pFinite a = true) (hb : pFinite b = true) (hz : pZero a = true) (hz' : pZero b = false) : flt .f64 (pSize1 a) (pSize1 b) = true := by
  have h1 := size1_fin ha
  have h2 := size1_fin hb
  rw [flt_rungs h1.1 h2.1, h1.2.2 hz]
  have : pSize1 b ≠ 0 := fun e => by rw [h2.2.1 e] at hz'; cases hz'
  simp; omega
theorem pivUp_nil {col : Nat → C} {k : Nat} : ∀ m, (∀ i, k ≤ i → i < k + m → pFinite (col i) = true) → pFinite (col k) = true → nilUp col k m = true → pivUp col k m = k
  | 0, _, _, _ => rfl
  | m + 1, hf, hk, h => by
    unfold nilUp at h
    rw [Bool.and_eq_true] at h
    have ih := pivUp_nil m (fun i a b => hf i a (by omega)) hk h.1
    have := lt_of_zero (a := col (pivUp col k m)) (by rw [ih]; exact hk) (hf (k + m) (by omega) (by omega)) h.2
    rw [pivUp_miss this, ih]
theorem nilUp_at {col : Nat → C} {k : Nat} : ∀ m, nilUp col k m = true → ∀ i, k ≤ i → i < k + m → pZero (col i) = true
  | 0, _, i, a, b => by omega
  | m + 1, h, i, a, b => by
    unfold nilUp at h
    rw [Bool.and_eq_true] at h
    rcases Nat.lt_or_ge i (k + m) with h1 | h1
    · exact nilUp_at m h.1 i a h1
    · have : i = k + m := by omega
      subst this; exact h.2
/-- The reference passes noughts over: it comes to the same. -/
theorem refPiv_eq {col : Nat → C} {k : Nat} : ∀ m, (∀ i, k ≤ i → i < k + m → pFinite (col i) = true) → (0 < m → pFinite (col k) = true) → refPiv col k m = if nilUp col k m then none else some (pivUp col k m)
  | 0, _, _ => rfl
  | m + 1, hf, hk => by
    have hk' := hk (Nat.succ_pos m)
    have ih := refPiv_eq m (fun i a b => hf i a (by omega)) (fun _ => hk')
    have hc := hf (k + m) (by omega) (by omega)
    have hb : pFinite (col (pivUp col k m)) = true := by
      have := pivUp_bounds col k m
      rcases this.2 with h | h
      · exact hf _ this.1 (by omega)
      · rw [h]; exact hk'
    unfold refPiv
    rw [ih]
    have en : nilUp col k (m + 1) = (nilUp col k m && pZero (col (k + m))) := rfl
    rw [en]
    cases hz : pZero (col (k + m))
    · rw [if_neg Bool.false_ne_true, Bool.and_false, if_neg Bool.false_ne_true]
      cases hn : nilUp col k m
      · simp only [if_neg Bool.false_ne_true]
        cases hl : flt .f64 (pSize1 (col (pivUp col k m))) (pSize1 (col (k + m)))
        · rw [if_neg Bool.false_ne_true, pivUp_miss hl]
        · rw [if_pos rfl, pivUp_hit hl]
      · rw [if_pos rfl]
        have e := pivUp_nil m (fun i a b => hf i a (by omega)) hk' hn
        rcases Nat.eq_zero_or_pos m with rfl | hm
        · have : pivUp col k 1 = k := by
            cases hl : flt .f64 (pSize1 (col (pivUp col k 0))) (pSize1 (col (k + 0)))
            · rw [pivUp_miss hl]; rfl
            · rw [pivUp_hit hl]; rfl
          rw [this]; rfl
        · have hz0 := nilUp_at m hn k (Nat.le_refl _) (by omega)
          rw [pivUp_hit (zero_lt hb hc (by rw [e]; exact hz0) hz)]
    · rw [if_pos rfl, Bool.and_true, pivUp_miss (lt_of_zero hb hc hz)]
end Fl
namespace Fl
open Ieee Go
theorem zq_rung {x y : Nat} (h : zq x y) : rung double x = rung double y := by
  rcases h with h | ⟨h1, h2⟩
  · rw [h]
  · rw [h1, h2]
theorem isInf_rung0 {x : Nat} (h : rung double x = 0) : isInf double x = false := by
  unfold isInf; rw [h]; decide
theorem fabs_zq {x y : Nat} (h : zq x y) : fabs x = fabs y := by
  rcases h with h | ⟨h1, h2⟩
  · rw [h]
  · rw [(fabs_fin (isInf_rung0 h1) (isNaN_of_rung0 h1)).1, (fabs_fin (isInf_rung0 h2) (isNaN_of_rung0 h2)).1, h1, h2]
theorem fin_of_rung0 {x : Nat} (h : rung double x = 0) : fin double x := by unfold fin; rw [h]; decide
theorem fdiv_zero {z d : Nat} (hz : rung double z = 0) (hd : fin double d) (h0 : rung double d ≠ 0) : rung double (fdiv z d) = 0 := by
  obtain ⟨b, h1, h2⟩ := div_fin ok_double (fin_of_rung0 hz) hd h0
  have hv : 0 < val double (rung double d) := by have := le_val double (rung double d); omega
  rw [hz, val_zero, Nat.zero_mul] at h2
  obtain ⟨r, h3, h4⟩ := h2.rung
  have h5 : r = 0 := Rne.unique hv h3 (Rne.zero double _ hv)
  unfold fdiv fop
  show rung double ((double.div z d).getD _) = 0
  rw [h1]
  show rung double b = 0
  rw [h4, h5]; simp
theorem rung_of_zq0 {x y : Nat} (h : zq x y) (hy : rung double y = 0) : rung double x = 0 := (zq_rung h).trans hy
theorem zmul {z r : Nat} (hz : rung double z = 0) (hr : fin double r) : rung double (fmul z r) = 0 := by
  have h0 : zq z 0 := .inr ⟨hz, by decide⟩
  refine rung_of_zq0 (h0.mul_l r) ?_
  rw [fmul_comm]; exact fmul_zero hr
theorem zadd {z d : Nat} (hz : rung double z = 0) (hl : d < 18446744073709551616) (hd : fin double d) (h0 : rung double d ≠ 0) : fadd d z = d := by
  rcases fadd_zero hl hd hz with h | ⟨_, h⟩
  · exact h
  · exact absurd h h0
theorem zqC.refl (a : C) : zqC a a := ⟨.inl rfl, .inl rfl⟩
theorem zqC.symm {a b : C} (h : zqC a b) : zqC b a := ⟨h.1.symm, h.2.symm⟩
theorem zero_iff {z : C} (h : pFinite z = true) : pZero z = true ↔ rung double z.1 = 0 ∧ rung double z.2 = 0 := by
  obtain ⟨-, -, n1, n2, -, -⟩ := fin_parts h
  unfold pZero
  have q1 := feq_zero .f64 z.1
  have q2 := feq_zero .f64 z.2
  rw [show FloatKind.f64.format = double from rfl] at q1 q2
  rw [q1, q2, n1, n2]; simp
/-- A quotient's divisor up to the sign of noughts. -/
theorem div_den {a b b' : C} (la : ltC a) (h : zqC b b') (hb : pFinite b = true) (h0 : pZero b = false) (lb : ltC b) : zqC (pDiv a b) (pDiv a b') := by
  obtain ⟨f1, f2, n1, n2, i1, i2⟩ := fin_parts hb
  have hz : ¬ (rung double b.1 = 0 ∧ rung double b.2 = 0) := fun h => by rw [(zero_iff hb).2 h] at h0; cases h0
  have e1 := (fabs_fin i1 n1).1
  have e2 := (fabs_fin i2 n2).1
  have a1 := fabs_zq h.1
  have a2 := fabs_zq h.2
  rcases h.1 with h1 | ⟨z1, z1'⟩
  · rcases h.2 with h2 | ⟨z2, z2'⟩
    · rw [show b' = b from (Prod.ext h1 h2).symm]; exact zqC.refl _
    · have hc : rung double b.1 ≠ 0 := fun e => hz ⟨e, z2⟩
      have hle : fle .f64 (fabs b.2) (fabs b.1) = true := by
        rw [e1, e2, fle_rungs (by omega) (by omega), z2]; simp
      have hle' : fle .f64 (fabs b'.2) (fabs b'.1) = true := by rw [← a1, ← a2]; exact hle
      have hr : zq (fdiv b.2 b.1) (fdiv b'.2 b.1) := h.2.div_l _
      have r1 := fdiv_zero z2 f1 hc
      have r2 := fdiv_zero z2' f1 hc
      have t1 : fadd b.1 (fmul b.2 (fdiv b.2 b.1)) = b.1 := zadd (zmul z2 (fin_of_rung0 r1)) lb.1 f1 hc
      have t2 : fadd b.1 (fmul b'.2 (fdiv b'.2 b.1)) = b.1 := zadd (zmul z2' (fin_of_rung0 r2)) lb.1 f1 hc
      unfold pDiv
      rw [if_pos hle, if_pos hle', ← h1]
      simp only [t1, t2]
      exact ⟨((zq.rfl' _).add (zq.mul_r hr _)).div_l _, ((zq.rfl' _).sub (zq.mul_r hr _) (fmul_lt _ _) (fmul_lt _ _)).div_l _⟩
  · have hc : rung double b.2 ≠ 0 := fun e => hz ⟨z1, e⟩
    have h2 : b.2 = b'.2 := by
      rcases h.2 with h2 | ⟨z2, _⟩
      · exact h2
      · exact absurd z2 hc
    have hle : ¬ fle .f64 (fabs b.2) (fabs b.1) = true := by
      rw [e1, e2, fle_rungs (by omega) (by omega), z1]; simp; omega
    have hle' : ¬ fle .f64 (fabs b'.2) (fabs b'.1) = true := by rw [← a1, ← a2]; exact hle
    have hr : zq (fdiv b.1 b.2) (fdiv b'.1 b.2) := h.1.div_l _
    have r1 := fdiv_zero z1 f2 hc
    have r2 := fdiv_zero z1' f2 hc
    have t1 : fadd (fmul b.1 (fdiv b.1 b.2)) b.2 = b.2 := by rw [fadd_comm]; exact zadd (zmul z1 (fin_of_rung0 r1)) lb.2 f2 hc
    have t2 : fadd (fmul b'.1 (fdiv b'.1 b.2)) b.2 = b.2 := by rw [fadd_comm]; exact zadd (zmul z1' (fin_of_rung0 r2)) lb.2 f2 hc
    unfold pDiv
    rw [if_neg hle, if_neg hle', ← h2]
    simp only [t1, t2]
    exact ⟨((zq.mul_r hr _).add (zq.rfl' _)).div_l _, ((zq.mul_r hr _).sub (zq.rfl' _) la.1 la.1).div_l _⟩
theorem zqC.sub {a a' b b' : C} (h : zqC a a') (h' : zqC b b') (hb : ltC b) (hb' : ltC b') : zqC (pSub a b) (pSub a' b') :=
  ⟨h.1.sub h'.1 hb.1 hb'.1, h.2.sub h'.2 hb.2 hb'.2⟩
theorem zqC.mul {a a' b b' : C} (h : zqC a a') (h' : zqC b b') : zqC (pMul a b) (pMul a' b') := by
  have m : ∀ {x x' y y' : Nat}, zq x x' → zq y y' → zq (fmul x y) (fmul x' y') := fun p q => (p.mul_l _).trans (q.mul_r _)
  exact ⟨(m h.1 h'.1).sub (m h.2 h'.2) (fmul_lt _ _) (fmul_lt _ _), (m h.1 h'.2).add (m h.2 h'.1)⟩
theorem sub_conj {a b : C} (ha : ltC a) (hb : ltC b) : zqC (pSub (pConj a) (pConj b)) (pConj (pSub a b)) :=
  ⟨.inl rfl, fsub_neg ha.2 hb.2⟩
theorem ltC_sub (a b : C) : ltC (pSub a b) := ⟨fsub_lt _ _, fsub_lt _ _⟩
theorem ltC_mul (a b : C) : ltC (pMul a b) := ⟨fsub_lt _ _, fadd_lt _ _⟩
theorem ltC_div (a b : C) : ltC (pDiv a b) := by unfold pDiv; split <;> exact ⟨fdiv_lt _ _, fdiv_lt _ _⟩
theorem ltC_conj {a : C} (h : ltC a) : ltC (pConj a) := ⟨h.1, fneg_lt h.2⟩
/-- One number is another's conjugate, up to the signs of noughts. -/
def Mr (a a' : C) : Prop := zqC a' (pConj a) ∧ ltC a ∧ ltC a'
namespace Mr
variable {a a' b b' : C}
theorem sub (h : Mr a a') (h' : Mr b b') : Mr (pSub a b) (pSub a' b') :=
  ⟨(h.1.sub h'.1 h'.2.2 (ltC_conj h'.2.1)).trans (sub_conj h.2.1 h'.2.1), ltC_sub _ _, ltC_sub _ _⟩
theorem mul (h : Mr a a') (h' : Mr b b') : Mr (pMul a b) (pMul a' b') :=
  ⟨(h.1.mul h'.1).trans (mul_conj h.2.1 h'.2.1), ltC_mul _ _, ltC_mul _ _⟩
theorem isFin_neg {x : Nat} (h : x < 18446744073709551616) : isFin double (fneg x) = isFin double x := by
  by_cases hn : isNaN double x = true
  · rw [fneg_of_nan hn]
    have h1 : double.infRung < rung double x := of_decide_eq_true (p := double.infRung < rung double x) hn
    have e1 : isFin double x = false := decide_eq_false (by omega)
    rw [e1]; decide +kernel
  · have h0 := Bool.eq_false_iff.2 hn
    unfold isFin
    rw [rung_fneg h h0]
theorem finite (h : Mr a a') : pFinite a' = pFinite a := by
  unfold pFinite
  have e1 : isFin double a'.1 = isFin double a.1 := by unfold isFin; rw [zq_rung h.1.1]; rfl
  have e2 : isFin double a'.2 = isFin double a.2 := by
    rw [← isFin_neg h.2.1.2]
    unfold isFin; rw [zq_rung h.1.2]; rfl
  rw [e1, e2]
theorem size1 (h : Mr a a') : pSize1 a' = pSize1 a := by
  unfold pSize1
  rw [fabs_zq h.1.1, fabs_zq h.1.2]
  show fadd (fabs a.1) (fabs (fneg a.2)) = _
  rw [fabs_fneg h.2.1.2]
theorem zero (h : Mr a a') (hf : pFinite a = true) : pZero a' = pZero a := by
  have h1 := (size1_fin hf).2
  have h2 := (size1_fin (h.finite.trans hf)).2
  rw [h.size1] at h2
  exact Bool.eq_iff_iff.2 (h2.symm.trans h1)
theorem div (h : Mr a a') (h' : Mr b b') (hf : pFinite b = true) (h0 : pZero b = false) : Mr (pDiv a b) (pDiv a' b') := by
  refine ⟨?_, ltC_div _ _, ltC_div _ _⟩
  have h1 : zqC (pDiv a' b') (pDiv (pConj a) b') := div_num h.1 h.2.2 (ltC_conj h.2.1) _
  have h2 : zqC (pDiv (pConj a) b') (pDiv (pConj a) (pConj b)) := div_den (ltC_conj h.2.1) h'.1 (h'.finite.trans hf) ((h'.zero hf).trans h0) h'.2.2
  exact (h1.trans h2).trans (div_conj h.2.1 h'.2.1)
end Mr
/-- Which is chosen hangs on the sizes alone. -/
theorem pivUp_size {c d : Nat → C} {k m : Nat} (h : ∀ i, k ≤ i → i < k + m → pSize1 (c i) = pSize1 (d i)) : pivUp c k m = pivUp d k m := by
  induction m with
  | zero => rfl
  | succ m ih =>
    have e := ih (fun i a b => h i a (by omega))
    have hb := pivUp_bounds d k m
    unfold pivUp
    rw [e, h (pivUp d k m) hb.1 (by omega), h (k + m) (by omega) (by omega)]
theorem nilUp_zero {c d : Nat → C} {k m : Nat} (h : ∀ i, k ≤ i → i < k + m → pZero (c i) = pZero (d i)) : nilUp c k m = nilUp d k m := by
  induction m with
  | zero => rfl
  | succ m ih =>
    unfold nilUp
    rw [ih (fun i a b => h i a (by omega)), h (k + m) (by omega) (by omega)]
/-- No size is above the chosen one's. -/
theorem pivUp_max {c : Nat → C} {k m : Nat} (hf : ∀ i, k ≤ i → i < k + m → pFinite (c i) = true) : ∀ i, k ≤ i → i < k + m → pSize1 (c i) ≤ pSize1 (c (pivUp c k m)) := by
  induction m with
  | zero => intro i a b; omega
  | succ m ih =>
    have ih := ih (fun i a b => hf i a (by omega))
    have hb := pivUp_bounds c k m
    have l1 := (size1_fin (hf (pivUp c k m) hb.1 (by omega))).1
    have l2 := (size1_fin (hf (k + m) (by omega) (by omega))).1
    intro i a b
    cases hg : flt .f64 (pSize1 (c (pivUp c k m))) (pSize1 (c (k + m)))
    · rw [pivUp_miss hg]
      rw [flt_rungs l1 l2] at hg
      have hg := of_decide_eq_false hg
      by_cases e : i = k + m
      · subst e; omega
      · exact ih i a (by omega)
    · rw [pivUp_hit hg]
      rw [flt_rungs l1 l2] at hg
      have hg := of_decide_eq_true hg
      by_cases e : i = k + m
      · subst e; exact Nat.le_refl _
      · have := ih i a (by omega); omega
theorem nilUp_some {c : Nat → C} {k m : Nat} (h : nilUp c k m = false) : ∃ i, k ≤ i ∧ i < k + m ∧ pZero (c i) = false := by
  induction m with
  | zero => cases h
  | succ m ih =>
    unfold nilUp at h
    rw [Bool.and_eq_false_iff] at h
    rcases h with h | h
    · obtain ⟨i, a, b, c⟩ := ih h
      exact ⟨i, a, by omega, c⟩
    · exact ⟨k + m, by omega, by omega, h⟩
theorem piv_nonzero {c : Nat → C} {k m : Nat} (hf : ∀ i, k ≤ i → i < k + m → pFinite (c i) = true) (h : nilUp c k m = false) : pZero (c (pivUp c k m)) = false := by
  obtain ⟨i, a, b, hz⟩ := nilUp_some h
  have h1 := pivUp_max hf i a b
  have hb := pivUp_bounds c k m
  have h2 := (size1_fin (hf i a b)).2
  have h3 := (size1_fin (hf (pivUp c k m) hb.1 (by omega))).2
  have h4 : pSize1 (c i) ≠ 0 := fun e => by rw [h2.1 e] at hz; cases hz
  refine Bool.eq_false_iff.2 fun e => ?_
  have := h3.2 e; omega
def Mir (n : Nat) (E E' : Mat) : Prop := ∀ i j, i < n → j < n → Mr (E i j) (E' i j)
/-- Two eliminations, one the other's mirror. -/
structure Mirr (n : Nat) (S S' : El) : Prop where
  mir : Mir n S.E S'.E
  o : S'.o = S.o
  s : S'.s = S.s
  fin : finTo S.E n
theorem Mirr.fin' {n : Nat} {S S' : El} (h : Mirr n S S') : finTo S'.E n := fun i j hi hj => (h.mir i j hi hj).finite.trans (h.fin i j hi hj)
theorem Mirr.piv {n k : Nat} {S S' : El} (h : Mirr n S S') (hk : k < n) : elPiv n k S' = elPiv n k S :=
  pivUp_size fun i _ hi => (h.mir i k (by omega) hk).size1
theorem Mirr.nil {n k : Nat} {S S' : El} (h : Mirr n S S') (hk : k < n) : elNil n k S' = elNil n k S :=
  nilUp_zero fun i _ hi => (h.mir i k (by omega) hk).zero (h.fin i k (by omega) hk)
theorem Mirr.swap {n k p : Nat} {S S' : El} (h : Mirr n S S') (hk : k < n) (hp : p < n) : Mirr n (elSwap k p S) (elSwap k p S') where
  mir i j hi hj := h.mir _ j (xch_lt hk hp hi) hj
  o := by unfold elSwap; rw [h.o]
  s := by unfold elSwap; rw [h.s]
  fin i j hi hj := h.fin _ j (xch_lt hk hp hi) hj
theorem Mir.elE {n k : Nat} {E E' : Mat} (h : Mir n E E') (hk : k < n) (hf : pFinite (E k k) = true) (h0 : pZero (E k k) = false) : Mir n (elE E k) (elE E' k) := by
  intro i j hi hj
  have hF : k < i → Mr (elF E k i) (elF E' k i) := fun _ => (h i k hi hk).div (h k k hk hk) hf h0
  rcases Nat.lt_or_ge k i with h1 | h1
  · rcases Nat.lt_or_ge k j with h2 | h2
    · rw [elE_new h1 h2, elE_new h1 h2]
      exact (h i j hi hj).sub ((hF h1).mul (h k j hk hj))
    · by_cases e : j = k
      · subst e; rw [elE_fac h1, elE_fac h1]; exact hF h1
      · rw [elE_left (by omega), elE_left (by omega)]; exact h i j hi hj
  · rw [elE_old h1, elE_old h1]; exact h i j hi hj
/-- The pivot, once its row is in its place. -/
theorem piv_at {n k : Nat} {S : El} (hk : k < n) (hf : finTo S.E n) (hn : elNil n k S = false) : pFinite ((elSwap k (elPiv n k S) S).E k k) = true ∧ pZero ((elSwap k (elPiv n k S) S).E k k) = false := by
  have e : (elSwap k (elPiv n k S) S).E k k = S.E (elPiv n k S) k := by
    show S.E (xch k (elPiv n k S) k) k = _
    rw [xch_l]
  rw [e]
  refine ⟨hf _ k (elPiv_lt S hk).1 hk, ?_⟩
  exact piv_nonzero (c := fun i => S.E i k) (fun i _ hi => hf i k (by omega) hk) hn
theorem Mirr.err {n k : Nat} {S S' : El} (h : Mirr n S S') (hk : k < n) : elErr n k S' = elErr n k S := by
  unfold elErr
  rw [h.nil hk, h.piv hk]
  by_cases hn : elNil n k S = true
  · rw [if_pos hn, if_pos hn]
  · rw [if_neg hn, if_neg hn]
    have hn := Bool.eq_false_iff.2 hn
    obtain ⟨hf, h0⟩ := piv_at hk h.fin hn
    have hw := h.swap hk (elPiv_lt S hk).1
    have hm := hw.mir.elE hk hf h0
    have e : fineTo (elE (elSwap k (elPiv n k S) S').E k) n k (n - (k + 1)) = fineTo (elE (elSwap k (elPiv n k S) S).E k) n k (n - (k + 1)) := by
      refine Bool.eq_iff_iff.2 ?_
      rw [fineTo_all hk, fineTo_all hk]
      exact ⟨fun g i j a b c d => by rw [← (hm i j (by omega) d).finite]; exact g i j a b c d, fun g i j a b c d => by rw [(hm i j (by omega) d).finite]; exact g i j a b c d⟩
    unfold elNext
    rw [e]
theorem Mirr.step {n k : Nat} {S S' : El} (h : Mirr n S S') (hk : k < n) (he : elErr n k S = 0) : Mirr n (elStep n k S) (elStep n k S') := by
  have hn : elNil n k S = false := by
    refine Bool.eq_false_iff.2 fun e => ?_
    unfold elErr at he
    rw [if_pos e] at he
    cases he
  obtain ⟨hf, h0⟩ := piv_at hk h.fin hn
  have hw := h.swap hk (elPiv_lt S hk).1
  unfold elStep
  rw [h.piv hk]
  exact ⟨hw.mir.elE hk hf h0, hw.o, hw.s, elStep_fin hk h.fin he⟩
theorem Mirr.run {n : Nat} {S S' : El} (h : Mirr n S S') : ∀ k, k ≤ n → (elRun n S' k).1 = (elRun n S k).1 ∧ Mirr n (elRun n S k).2 (elRun n S' k).2
  | 0, _ => ⟨rfl, h⟩
  | k + 1, hk => by
    obtain ⟨e, ht⟩ := h.run k (by omega)
    by_cases h0 : (elRun n S k).1.1 = 0
    · have h0' : (elRun n S' k).1.1 = 0 := by rw [e]; exact h0
      have hE := ht.err (k := k) (by omega)
      by_cases he : elErr n k (elRun n S k).2 = 0
      · rw [elRun_ok h0 he, elRun_ok h0' (hE.trans he)]
        exact ⟨rfl, ht.step (by omega) he⟩
      · rw [elRun_bad h0 he, elRun_bad h0' (by rw [hE]; exact he), hE]
        exact ⟨rfl, ht⟩
    · have h0' : ¬ (elRun n S' k).1.1 = 0 := by rw [e]; exact h0
      rw [elRun, elRun, if_neg h0, if_neg h0']
      exact ⟨e, ht⟩
/-- The order tells each row once. -/
def Perm (n : Nat) (o : Nat → Nat) : Prop := (∀ i, i < n → o i < n) ∧ ∀ i j, i < n → j < n → o i = o j → i = j
theorem Perm.xch {n k p : Nat} {o : Nat → Nat} (h : Perm n o) (hk : k < n) (hp : p < n) : Perm n (fun i => o (xch k p i)) :=
  ⟨fun _ hi => h.1 _ (xch_lt hk hp hi), fun _ _ hi hj e => xch_inj (h.2 _ _ (xch_lt hk hp hi) (xch_lt hk hp hj) e)⟩
theorem run_perm {n : Nat} {S : El} (h : Perm n S.o) : ∀ k, k ≤ n → Perm n (elRun n S k).2.o
  | 0, _ => h
  | k + 1, hk => by
    have ih := run_perm h k (by omega)
    unfold elRun
    split
    · split
      · exact ih.xch (by omega) (elPiv_lt _ (by omega)).1
      · exact ih
    · exact ih
/-- Row 0 stays, once it is chosen. -/
theorem run_first {n : Nat} {S : El} (hn : 0 < n) : ∀ k, 1 ≤ k → k ≤ n → (elRun n S k).1.1 = 0 → (elRun n S k).2.o 0 = S.o (elPiv n 0 S)
  | 0, h, _, _ => by omega
  | k + 1, _, hk, h0 => by
    have h1 : (elRun n S k).1.1 = 0 := by
      by_cases e : (elRun n S k).1.1 = 0
      · exact e
      · rw [elRun, if_neg e] at h0; exact absurd h0 e
    have he : elErr n k (elRun n S k).2 = 0 := by
      by_cases e : elErr n k (elRun n S k).2 = 0
      · exact e
      · rw [elRun_bad h1 e] at h0; exact absurd h0 e
    rw [elRun_ok h1 he]
    show (elRun n S k).2.o (Fl.xch k _ 0) = _
    rcases Nat.eq_zero_or_pos k with e | e
    · subst e
      rw [xch_l]; rfl
    · have hp := (elPiv_lt (elRun n S k).2 (k := k) (n := n) (by omega)).2
      rw [xch_ne (by omega) (by omega)]
      exact run_first hn k e (by omega) h1
end Fl
namespace Go.Proofs.Ytandllekeimpgaa
open Go.RowKit Fl Ieee
set_option maxRecDepth 20000
/-- Block b's first n cells, none frozen, by their index. -/
def rowGe (W : World) (b : Nat) (t : TypeId) (n : Nat) (f : Nat → Value) : Prop :=
  ∃ cs : Array Value, W.heap[b]? = some (.cells cs t (0, 0)) ∧ n ≤ cs.size ∧ ∀ i, i < n → cs[i]? = some (f i)
namespace rowGe
variable {W V : World} {b n : Nat} {t : TypeId} {f f' : Nat → Value}
theorem cell (h : rowGe W b t n f) {i : Nat} (hi : i < n) : W.cell? ⟨b, i, none⟩ = some (f i) := by
  obtain ⟨c, hb, _, hc⟩ := h
  simp [World.cell?, hb, hc i hi]
theorem frozen (h : rowGe W b t n f) (i : Nat) : W.frozen? ⟨b, i, none⟩ = false := by
  obtain ⟨c, hb, _, _⟩ := h
  simp [World.frozen?, hb]
theorem lt (h : rowGe W b t n f) : b < W.heap.size := by
  obtain ⟨c, hb, _, _⟩ := h
  obtain ⟨hlt, _⟩ := Array.getElem?_eq_some_iff.1 hb
  exact hlt
theorem congr (h : rowGe W b t n f) (e : ∀ i, i < n → f i = f' i) : rowGe W b t n f' := by
  obtain ⟨c, hb, hn, hc⟩ := h
  exact ⟨c, hb, hn, fun i hi => by rw [hc i hi, e i hi]⟩
theorem of_block (h : rowGe W b t n f) (e : V.heap[b]? = W.heap[b]?) : rowGe V b t n f := by
  obtain ⟨c, hb, hn, hc⟩ := h
  exact ⟨c, e.trans hb, hn, hc⟩
theorem set (h : rowGe W b t n f) (i : Nat) (v : Value) : rowGe (W.setCell ⟨b, i, none⟩ v) b t n (fun j => if j = i then v else f j) := by
  obtain ⟨c, hb, hn, hc⟩ := h
  refine ⟨c.setIfInBounds i v, ?_, by simpa using hn, fun j hj => ?_⟩
  · simp [World.setCell, Array.getElem?_modify, hb]
  · rw [Array.getElem?_setIfInBounds]
    by_cases e : j = i
    · subst e
      simp; omega
    · rw [if_neg (fun h => e h.symm)]
      show c[j]? = some (if j = i then v else f j)
      rw [if_neg e]
      exact hc j hj
theorem setOther (h : rowGe W b t n f) {a : Addr} (ha : b ≠ a.block) (v : Value) : rowGe (W.setCell a v) b t n f := h.of_block (Go.Deep.blk_setCell_other _ _ _ _ ha)
theorem below (h : rowGe W b t n f) {B : Nat} (hb : Below B W V) (hlt : b < B) : rowGe V b t n f := h.of_block (hb.block b hlt)
theorem of_own {B g c : Nat} {xs : List Value} (h : W.ownsRow B t 1 (.slice (some ⟨g, 0, none⟩) n c) n xs) (hf : ∀ i, i < n → xs[i]? = some (f i)) : rowGe W g t n f := by
  rcases h.2 with ⟨h1, _⟩ | ⟨g', cap, cur, hv, hbg, hg, hnc, hcm, hcs, htk⟩
  · cases h1
  · injection hv with e1 e2 e3
    injection e1 with e4
    injection e4 with e5
    subst e5
    refine ⟨cur, hg, by omega, fun i hi => ?_⟩
    have := hf i hi
    rw [← htk, List.getElem?_take, if_pos (by omega)] at this
    simpa using this
end rowGe
/-- The rows of a table (g: where each lies, c: its room), in a list (block q), and an order (block p). -/
structure Tab (W : World) (B q p n : Nat) (g c : Nat → Nat) (Z : Mat) (o : Nat → Nat) : Prop where
  rows : rowGe W q 26 n (fun i => .slice (some ⟨g i, 0, none⟩) n (c i))
  ord : rowGe W p 3 n (fun i => .int .i64 (o i : Nat))
  row : ∀ i, i < n → rowGe W (g i) 45 n (fun j => .complex .f64 (Z i j).1 (Z i j).2)
  inj : ∀ i j, i < n → j < n → g i = g j → i = j
  farq : ∀ i, i < n → g i ≠ q
  farp : ∀ i, i < n → g i ≠ p
  qp : q ≠ p
  gB : ∀ i, i < n → B ≤ g i
  qB : B ≤ q
  pB : B ≤ p
  cap : ∀ i, i < n → n ≤ c i
  lt : ∀ i j, i < n → j < n → ltC (Z i j)
/-- One number is another. -/
def upd (Z : Mat) (i j : Nat) (z : C) : Mat := fun a b => if a = i ∧ b = j then z else Z a b
theorem upd_same (Z : Mat) (i j : Nat) (z : C) : upd Z i j z i j = z := if_pos ⟨rfl, rfl⟩
theorem upd_other {Z : Mat} {i j a b : Nat} {z : C} (h : ¬ (a = i ∧ b = j)) : upd Z i j z a b = Z a b := if_neg h
namespace Tab
variable {W V : World} {B q p n : Nat} {g c o : Nat → Nat} {Z Z' : Mat}
theorem below (h : Tab W B q p n g c Z o) (hb : Below W.heap.size W V) : Tab V B q p n g c Z o :=
  { h with
    rows := h.rows.below hb h.rows.lt
    ord := h.ord.below hb h.ord.lt
    row := fun i hi => (h.row i hi).below hb (h.row i hi).lt }
theorem congr (h : Tab W B q p n g c Z o) (e : ∀ i j, i < n → j < n → Z i j = Z' i j) : Tab W B q p n g c Z' o :=
  { h with
    row := fun i hi => (h.row i hi).congr fun j hj => by rw [e i j hi hj]
    lt := fun i j hi hj => by rw [← e i j hi hj]; exact h.lt i j hi hj }
/-- One number is written. -/
theorem set {i j : Nat} {z : C} (h : Tab W B q p n g c Z o) (hi : i < n) (_hj : j < n) (hz : ltC z) : Tab (W.setCell ⟨g i, j, none⟩ (.complex .f64 z.1 z.2)) B q p n g c (upd Z i j z) o :=
  { h with
    rows := h.rows.setOther (fun e => h.farq i hi e.symm) _
    ord := h.ord.setOther (fun e => h.farp i hi e.symm) _
    row := fun a ha => by
      by_cases e : a = i
      · subst e
        refine ((h.row a hi).set j _).congr fun b hb => ?_
        by_cases e2 : b = j
        · subst e2; rw [if_pos rfl, upd_same]
        · rw [if_neg e2, upd_other (fun h => e2 h.2)]
      · refine ((h.row a ha).setOther (fun e2 => e (h.inj a i ha hi e2)) _).congr fun b hb => ?_
        rw [upd_other (fun h => e h.1)]
    lt := fun a b ha hb => by
      by_cases e : a = i ∧ b = j
      · rw [e.1, e.2, upd_same]; exact hz
      · rw [upd_other e]; exact h.lt a b ha hb }
/-- Rows k and v are changed. -/
theorem swap {k v : Nat} (h : Tab W B q p n g c Z o) (hk : k < n) (hv : v < n) :
    Tab ((((W.setCell ⟨q, k, none⟩ (.slice (some ⟨g v, 0, none⟩) n (c v))).setCell ⟨q, v, none⟩ (.slice (some ⟨g k, 0, none⟩) n (c k))).setCell ⟨p, k, none⟩ (.int .i64 (o v : Nat))).setCell ⟨p, v, none⟩ (.int .i64 (o k : Nat)))
      B q p n (fun i => g (xch k v i)) (fun i => c (xch k v i)) (fun i => Z (xch k v i)) (fun i => o (xch k v i)) where
  rows := by
    refine (((((h.rows.set k _).set v _).setOther ?_ _).setOther ?_ _)).congr fun i hi => ?_
    · exact h.qp
    · exact h.qp
    · unfold xch
      by_cases e1 : i = v
      · subst e1
        rw [if_pos rfl]
        by_cases e2 : i = k
        · subst e2; rw [if_pos rfl]
        · rw [if_neg e2, if_pos rfl]
      · rw [if_neg e1]
        by_cases e2 : i = k
        · subst e2; rw [if_pos rfl, if_pos rfl]
        · rw [if_neg e2, if_neg e2, if_neg e1]
  ord := by
    refine (((((h.ord.setOther ?_ _).setOther ?_ _).set k _).set v _)).congr fun i hi => ?_
    · exact fun e => h.qp e.symm
    · exact fun e => h.qp e.symm
    · unfold xch
      by_cases e1 : i = v
      · subst e1
        rw [if_pos rfl]
        by_cases e2 : i = k
        · subst e2; rw [if_pos rfl]
        · rw [if_neg e2, if_pos rfl]
      · rw [if_neg e1]
        by_cases e2 : i = k
        · subst e2; rw [if_pos rfl, if_pos rfl]
        · rw [if_neg e2, if_neg e2, if_neg e1]
  row i hi := by
    have hx := xch_lt hk hv hi
    exact (((((h.row _ hx).setOther (h.farq _ hx) _).setOther (h.farq _ hx) _).setOther (h.farp _ hx) _).setOther (h.farp _ hx) _)
  inj i j hi hj e := xch_inj (h.inj _ _ (xch_lt hk hv hi) (xch_lt hk hv hj) e)
  farq i hi := h.farq _ (xch_lt hk hv hi)
  farp i hi := h.farp _ (xch_lt hk hv hi)
  qp := h.qp
  gB i hi := h.gB _ (xch_lt hk hv hi)
  qB := h.qB
  pB := h.pB
  cap i hi := h.cap _ (xch_lt hk hv hi)
  lt i j hi hj := h.lt _ _ (xch_lt hk hv hi) hj
/-- A store elsewhere. -/
theorem setOther {a : Addr} (h : Tab W B q p n g c Z o) (h1 : q ≠ a.block) (h2 : p ≠ a.block) (h3 : ∀ i, i < n → g i ≠ a.block) (v : Value) : Tab (W.setCell a v) B q p n g c Z o :=
  { h with
    rows := h.rows.setOther h1 _
    ord := h.ord.setOther h2 _
    row := fun i hi => (h.row i hi).setOther (h3 i hi) _ }
/-- Row i as a list that reads. -/
theorem cellZ (h : Tab W B q p n g c Z o) {i j : Nat} (hi : i < n) (hj : j < n) : W.cell? ⟨g i, j, none⟩ = some (.complex .f64 (Z i j).1 (Z i j).2) := (h.row i hi).cell hj
theorem cellS (h : Tab W B q p n g c Z o) {i : Nat} (hi : i < n) : W.cell? ⟨q, i, none⟩ = some (.slice (some ⟨g i, 0, none⟩) n (c i)) := h.rows.cell hi
theorem cellO (h : Tab W B q p n g c Z o) {i : Nat} (hi : i < n) : W.cell? ⟨p, i, none⟩ = some (.int .i64 (o i : Nat)) := h.ord.cell hi
end Tab
end Go.Proofs.Ytandllekeimpgaa
namespace Go.Proofs.Ytandllekeimpgaa
open Go.RowKit Fl Ieee
set_option maxRecDepth 20000
attribute [local go_sem] run_store_float run_store_complex Fl.order_self Fl.order_self' Fl.order_eq Fl.order_ne Fl.order_lt Fl.order_gt
theorem fin_cn {z : C} (h : pFinite z = true) : cnC z = z := by
  obtain ⟨-, -, n1, n2, -, -⟩ := fin_parts h
  unfold cnC
  rw [cn_of_not (k := .f64) n1, cn_of_not (k := .f64) n2]
theorem fin_cn1 {z : C} (h : pFinite z = true) : cn .f64 z.1 = z.1 ∧ cn .f64 z.2 = z.2 := by
  obtain ⟨-, -, n1, n2, -, -⟩ := fin_parts h
  exact ⟨cn_of_not (k := .f64) n1, cn_of_not (k := .f64) n2⟩
theorem size1_num {z : C} (h : pFinite z = true) : isNaN double (pSize1 z) = false := by
  have h1 := (size1_fin h).1
  unfold isNaN
  rw [(sgn_rung' h1).2]; exact decide_eq_false (by omega)
theorem cn_only' {x m : Nat} (h : Fl.cn .f64 x = m) (hm : isNaN double m = false) : x = m := by
  have hx : isNaN double x = false := (isNaN_cn .f64 x).symm.trans (by rw [h]; exact hm)
  rw [← h, cn_of_not (k := .f64) hx]
theorem Size1_x (z : C) (hz : ltC z) (hf : pFinite z = true) (w : World) :
    Calls Try.prog 47 #[.complex .f64 z.1 z.2] w fun e w' => e = .returned (.float .f64 (pSize1 z)) ∧ ∃ d, w' = w.drewN d := by
  refine (Size1_c z.1 z.2 hz.1 hz.2 w).mono ?_
  rintro e w' ⟨x, n, rfl, hv, hx, rfl⟩
  rw [(fin_cn1 hf).1, (fin_cn1 hf).2] at hv
  exact ⟨by rw [show x = pSize1 z from cn_only' hv (size1_num hf)], n, rfl⟩
theorem rSize1_x (z : C) (hz : ltC z) (hf : pFinite z = true) (w : World) :
    Calls Try.prog 92 #[.complex .f64 z.1 z.2] w fun e w' => e = .returned (.float .f64 (pSize1 z)) ∧ ∃ d, w' = w.drewN d := by
  refine (rSize1_c z.1 z.2 hz.1 hz.2 w).mono ?_
  rintro e w' ⟨x, n, rfl, hv, hx, rfl⟩
  rw [(fin_cn1 hf).1, (fin_cn1 hf).2] at hv
  exact ⟨by rw [show x = pSize1 z from cn_only' hv (size1_num hf)], n, rfl⟩
theorem quiet_drew' {P : Program} {f : FuncId} {args : Array Value} {w : World} {n : Nat} {v : Value}
    (h : Calls P f args (w.drewN n) fun e w' => e = .returned v ∧ ∃ d, w' = (w.drewN n).drewN d) :
    Calls P f args (w.drewN n) fun e w'' => e = .returned v ∧ ∃ m, w'' = w.drewN m :=
  h.mono fun _ _ ⟨he, d, hm⟩ => ⟨he, n + d, by rw [hm, World.drewN_drewN]⟩
/-- Two numbers are handed back; the world is as it was but for draws. -/
def RetII (a b : Int) (w : World) (e : Ending) (w' : World) : Prop := e = .returned (.tuple #[.int .i64 a, .int .i64 b]) ∧ ∃ d, w' = w.drewN d
theorem retII {a b x y : Int} {w w' : World} (h : x = a) (h' : y = b) (hw : ∃ d, w' = w.drewN d) : RetII a b w (.returned (.tuple #[.int .i64 x, .int .i64 y])) w' := ⟨by rw [h, h'], hw⟩
def ChooseR (col : Nat → C) (k n : Nat) (w : World) (b z i : Value) (wr : World) : Prop :=
  ∃ m d : Nat, k + m ≤ n ∧ i = .int .i64 ((k + m : Nat) : Int) ∧ b = .int .i64 (pivUp col k m : Nat) ∧ z = .bool (nilUp col k m) ∧ wr = w.drewN d
set_option maxHeartbeats 2000000 in
theorem Choose_c (col : Nat → C) (b n c k : Nat) (w : World) (hn : n ≤ 64) (hk : k < n) (hcell : ∀ i, i < n → w.cell? ⟨b, i, none⟩ = some (.complex .f64 (col i).1 (col i).2)) (hlt : ∀ i, i < n → ltC (col i)) (hfin : ∀ i, k ≤ i → i < n → pFinite (col i) = true) :
    Calls Try.prog 73 #[.slice (some ⟨b, 0, none⟩) n c, .int .i64 (k : Nat)] w (RetII (if nilUp col k (n - k) then 0 else (pivUp col k (n - k) : Nat)) (if nilUp col k (n - k) then 7 else 0) w) := by
  have HC := Lib.hid hcell
  have HL := Lib.hid hlt
  have HF := Lib.hid hfin
  have hki : (k : Int) < (n : Int) := Int.ofNat_lt.2 hk
  have hn64 : (n : Int) ≤ 64 := by omega
  have hd64 : decide ((64 : Int) < (n : Int)) = false := by simp; omega
  have hdk : decide ((k : Int) < 0) = false := by simp
  have hdn : decide (n ≤ k) = false := by simp; omega
  obtain ⟨r1, h1⟩ : ∃ r : Int, (if nilUp col k (n - k) then (0 : Int) else (pivUp col k (n - k) : Nat)) = r := ⟨_, rfl⟩
  obtain ⟨r2, h2⟩ : ∃ r : Int, (if nilUp col k (n - k) then (7 : Int) else 0) = r := ⟨_, rfl⟩
  rw [h1, h2]
  have H1 := Lib.hid h1
  have H2 := Lib.hid h2
  clear hcell hlt hfin h1 h2
  go_enter Try.func73, Try.ntmps73
  go_wp2
  go_loopw [6, 7, 8] (fun b z i wr => ChooseR col k n w b z i wr) (fun _ _ i _ => n - (intOf i).toNat)
  case atStart => exact ⟨0, 0, by omega, by simp, rfl, rfl, rfl⟩
  case round =>
    obtain ⟨m, d, hm, rfl, rfl, rfl, hwr⟩ := hrel
    have HW := Lib.hid hwr
    clear hwr
    obtain ⟨i, hi⟩ : ∃ i, i = k + m := ⟨_, rfl⟩
    obtain ⟨p, hp⟩ : ∃ p, p = pivUp col k m := ⟨_, rfl⟩
    obtain ⟨z0, hz0⟩ : ∃ z, z = nilUp col k m := ⟨_, rfl⟩
    have hpb := pivUp_bounds col k m
    rw [← hi, ← hp, ← hz0]
    rw [← hp] at hpb
    have hpn : p < n := by omega
    have HI := Lib.hid hi
    have HP := Lib.hid hp
    have HZ := Lib.hid hz0
    have hin : i ≤ n := by omega
    clear hi hp hz0 hpb hm
    by_cases hlt : i < n
    · have hlti : (i : Int) < (n : Int) := Int.ofNat_lt.2 hlt
      have hpi : (p : Int) < (n : Int) := Int.ofNat_lt.2 hpn
      have hc1 : ∀ D, (wr.drewN D).cell? ⟨b, i, none⟩ = some (.complex .f64 (col i).1 (col i).2) := fun D => by rw [HW.out]; exact HC.out i hlt
      have hc1' : wr.cell? ⟨b, i, none⟩ = some (.complex .f64 (col i).1 (col i).2) := hc1 0
      have hc2 : ∀ D, (wr.drewN D).cell? ⟨b, p, none⟩ = some (.complex .f64 (col p).1 (col p).2) := fun D => by rw [HW.out]; exact HC.out p hpn
      have fi := HF.out i (by have := HI.out; omega) hlt
      have hkp : k ≤ p := by have := HP.out; have := (pivUp_bounds col k m).1; omega
      have fp := HF.out p hkp hpn
      have hfi := Finite_c (col i).1 (col i).2 (HL.out i hlt).1 (HL.out i hlt).2
      have hzi := Zero_c (col i).1 (col i).2
      rw [(fin_cn1 fi).1, (fin_cn1 fi).2] at hfi hzi
      rw [show ((col i).1, (col i).2) = col i from rfl] at hfi hzi
      rw [fi] at hfi
      have li := HL.out i hlt
      have lp := HL.out p hpn
      have HFi := Lib.hid hfi
      have HZi := Lib.hid hzi
      have hit : flt .f64 (pSize1 (col p)) (pSize1 (col i)) = true → pivUp col k (m + 1) = i := fun h => by rw [HI.out]; exact pivUp_hit (by rw [← HP.out, ← HI.out]; exact h)
      have miss : flt .f64 (pSize1 (col p)) (pSize1 (col i)) = false → pivUp col k (m + 1) = p := fun h => by rw [pivUp_miss (by rw [← HP.out, ← HI.out]; exact h), ← HP.out]
      have hnil : nilUp col k (m + 1) = (z0 && pZero (col i)) := by rw [HZ.out, HI.out]; rfl
      have HIT := Lib.hid hit
      have MISS := Lib.hid miss
      have HNIL := Lib.hid hnil
      clear hfi hzi hit miss hnil hkp
      have hb1 : (i : Int) + 1 ≤ 65 := by omega
      have hb1 : (i : Int) + 1 ≤ 65 := by omega
      cases hg : flt .f64 (pSize1 (col p)) (pSize1 (col i))
      · have E : Hid (pivUp col k (m + 1) = p) := MISS.out hg
        cases z0 <;> (
          go_wp2_with fail
          refine (HFi.out _).mono ?_
          rintro e w2 ⟨d2, rfl, hw2⟩
          have HW2 := Lib.hid hw2
          clear hw2
          have hd1 : ∀ D, (w2.drewN D).cell? ⟨b, i, none⟩ = some (.complex .f64 (col i).1 (col i).2) := fun D => by rw [HW2.out]; exact hc1 0
          have hd2 : ∀ D, (w2.drewN D).cell? ⟨b, p, none⟩ = some (.complex .f64 (col p).1 (col p).2) := fun D => by rw [HW2.out]; exact hc2 0
          have hd3 : w2.cell? ⟨b, i, none⟩ = some (.complex .f64 (col i).1 (col i).2) := hd1 0
          go_wp2_with (go_at_call 97; refine (HZi.out _).mono ?_; rintro e w' ⟨rfl, rfl⟩)
          go_quiet ((go_at_call 47; (with_reducible refine quiet_drew' (Size1_x _ ?_ ?_ _)) <;> assumption))
          clear hc1 hc2 hd1 hd2 hd3 hc1'
          go_wp2
          go_roundw
          case rel => exact ⟨m + 1, _, by have := HI.out; omega, by rw [show k + (m + 1) = i + 1 by have := HI.out; omega]; go_num, by rw [E.out], by rw [HNIL.out]; rfl, by rw [HW2.out, HW.out, World.drewN_drewN, World.drewN_drewN]⟩
          case measure => simp [intOf]; omega)
      · have E : Hid (pivUp col k (m + 1) = i) := HIT.out hg
        cases z0 <;> (
          go_wp2_with fail
          refine (HFi.out _).mono ?_
          rintro e w2 ⟨d2, rfl, hw2⟩
          have HW2 := Lib.hid hw2
          clear hw2
          have hd1 : ∀ D, (w2.drewN D).cell? ⟨b, i, none⟩ = some (.complex .f64 (col i).1 (col i).2) := fun D => by rw [HW2.out]; exact hc1 0
          have hd2 : ∀ D, (w2.drewN D).cell? ⟨b, p, none⟩ = some (.complex .f64 (col p).1 (col p).2) := fun D => by rw [HW2.out]; exact hc2 0
          have hd3 : w2.cell? ⟨b, i, none⟩ = some (.complex .f64 (col i).1 (col i).2) := hd1 0
          go_wp2_with (go_at_call 97; refine (HZi.out _).mono ?_; rintro e w' ⟨rfl, rfl⟩)
          go_quiet ((go_at_call 47; (with_reducible refine quiet_drew' (Size1_x _ ?_ ?_ _)) <;> assumption))
          clear hc1 hc2 hd1 hd2 hd3 hc1'
          go_wp2
          go_roundw
          case rel => exact ⟨m + 1, _, by have := HI.out; omega, by rw [show k + (m + 1) = i + 1 by have := HI.out; omega]; go_num, by rw [E.out], by rw [HNIL.out]; rfl, by rw [HW2.out, HW.out, World.drewN_drewN, World.drewN_drewN]⟩
          case measure => simp [intOf]; omega)
    · have e : i = n := by omega
      subst e
      have en : i - k = m := by have := HI.out; omega
      have HEn := Lib.hid en
      clear en
      cases z0
      · go_wp2
        go_ret2
        exact retII (by rw [← H1.out, HEn.out, ← HP.out, ← HZ.out]; rfl) (by rw [← H2.out, HEn.out, ← HZ.out]; rfl) ⟨d, HW.out⟩
      · go_wp2
        go_ret2
        exact retII (by rw [← H1.out, HEn.out, ← HZ.out]; rfl) (by rw [← H2.out, HEn.out, ← HZ.out]; rfl) ⟨d, HW.out⟩
end Go.Proofs.Ytandllekeimpgaa
namespace Go.Proofs.Ytandllekeimpgaa
open Go.RowKit Fl Ieee
set_option maxRecDepth 20000
def sgI (s : Bool) : Int := if s then -1 else 1
theorem sgI_not (s : Bool) : sgI (!s) = - sgI s := by cases s <;> rfl
/-- What is being eliminated: its cell, and its table. -/
structure Lo (W : World) (B b q p n qc pc : Nat) (g c : Nat → Nat) (S : El) : Prop where
  box : W.heap[b]? = some (.cells #[.bool true, .slice (some ⟨q, 0, none⟩) n qc, .slice (some ⟨p, 0, none⟩) n pc, .int .i64 (sgI S.s)] 69)
  tab : Tab W B q p n g c S.E S.o
  bB : B ≤ b
  bq : b ≠ q
  bp : b ≠ p
  bg : ∀ i, i < n → g i ≠ b
theorem box4 {w : World} {b : Nat} {x y z u : Value} {t : TypeId} (hx : w.heap[b]? = some (.cells #[x, y, z, u] t)) :
    w.cell? ⟨b, 0, none⟩ = some x ∧ w.cell? ⟨b, 1, none⟩ = some y ∧ w.cell? ⟨b, 2, none⟩ = some z ∧ w.cell? ⟨b, 3, none⟩ = some u ∧ (∀ j, w.frozen? ⟨b, j, none⟩ = false) := by
  refine ⟨?_, ?_, ?_, ?_, fun j => frozen_of_row w b j _ _ hx⟩
  · rw [cell_of_row w b 0 _ _ _ hx]; rfl
  · rw [cell_of_row w b 1 _ _ _ hx]; rfl
  · rw [cell_of_row w b 2 _ _ _ hx]; rfl
  · rw [cell_of_row w b 3 _ _ _ hx]; rfl
theorem row_lt' {Z : World} {b : Nat} {o : Obj} (hr : Z.heap[b]? = some o) : b < Z.heap.size := by
  rcases Nat.lt_or_ge b Z.heap.size with h1 | h1
  · exact h1
  · rw [Array.getElem?_eq_none h1] at hr; cases hr
namespace Lo
variable {W V : World} {B b q p n qc pc : Nat} {g c : Nat → Nat} {S : El}
theorem below (h : Lo W B b q p n qc pc g c S) (hb : Below W.heap.size W V) : Lo V B b q p n qc pc g c S :=
  { h with
    box := (hb.block b (row_lt' h.box)).trans h.box
    tab := h.tab.below hb }
theorem lt (h : Lo W B b q p n qc pc g c S) : b < W.heap.size := row_lt' h.box
/-- Rows k and v are changed, v another than k. -/
theorem swap {k v : Nat} (h : Lo W B b q p n qc pc g c S) (hk : k < n) (hv : v < n) (hne : v ≠ k) :
    Lo (((((W.setCell ⟨q, k, none⟩ (.slice (some ⟨g v, 0, none⟩) n (c v))).setCell ⟨q, v, none⟩ (.slice (some ⟨g k, 0, none⟩) n (c k))).setCell ⟨p, k, none⟩ (.int .i64 (S.o v : Nat))).setCell ⟨p, v, none⟩ (.int .i64 (S.o k : Nat))).setCell ⟨b, 3, none⟩ (.int .i64 (- sgI S.s)))
      B b q p n qc pc (fun i => g (xch k v i)) (fun i => c (xch k v i)) (elSwap k v S) where
  box := by
    have e1 : ((((W.setCell ⟨q, k, none⟩ (.slice (some ⟨g v, 0, none⟩) n (c v))).setCell ⟨q, v, none⟩ (.slice (some ⟨g k, 0, none⟩) n (c k))).setCell ⟨p, k, none⟩ (.int .i64 (S.o v : Nat))).setCell ⟨p, v, none⟩ (.int .i64 (S.o k : Nat))).heap[b]? = some (.cells #[.bool true, .slice (some ⟨q, 0, none⟩) n qc, .slice (some ⟨p, 0, none⟩) n pc, .int .i64 (sgI S.s)] 69) := by
      rw [Below.heap_setCell _ _ _ _ h.bp, Below.heap_setCell _ _ _ _ h.bp, Below.heap_setCell _ _ _ _ h.bq, Below.heap_setCell _ _ _ _ h.bq]
      exact h.box
    rw [heap_setCell_same _ b 3 _ _ _ e1]
    have e2 : (elSwap k v S).s = !S.s := by unfold elSwap; rw [if_neg hne]
    rw [e2, sgI_not]; rfl
  tab := (h.tab.swap hk hv).setOther (fun e => h.bq e.symm) (fun e => h.bp e.symm) (fun i hi => h.bg _ (xch_lt hk hv hi)) _
  bB := h.bB
  bq := h.bq
  bp := h.bp
  bg i hi := h.bg _ (xch_lt hk hv hi)
theorem same {k : Nat} (h : Lo W B b q p n qc pc g c S) : Lo W B b q p n qc pc g c (elSwap k k S) := by
  have e : elSwap k k S = S := by
    unfold elSwap
    rw [if_pos rfl, show (fun i => S.E (xch k k i)) = S.E from funext fun i => by rw [xch_self], show (fun i => S.o (xch k k i)) = S.o from funext fun i => by rw [xch_self]]
  rw [e]; exact h
theorem set {i j : Nat} {z : C} {Z : Mat} {o : Nat → Nat} {s : Bool} (h : Lo W B b q p n qc pc g c ⟨Z, o, s⟩) (hi : i < n) (hj : j < n) (hz : ltC z) : Lo (W.setCell ⟨g i, j, none⟩ (.complex .f64 z.1 z.2)) B b q p n qc pc g c ⟨upd Z i j z, o, s⟩ :=
  { h with
    box := (Below.heap_setCell _ _ _ _ (fun e => h.bg i hi e.symm)).trans h.box
    tab := h.tab.set hi hj hz }
end Lo
theorem mk_rowGe (W : World) (n : Nat) : rowGe (W.alloc (.cells (madeCells #[.complex .f64 0 0] n) 45)) W.heap.size 45 n (fun _ => .complex .f64 0 0) := by
  obtain ⟨c, h1, h2, h3⟩ := World.rowIs_made W (.complex .f64 0 0) n 45
  exact ⟨c, h1, by omega, h3⟩
/-- A number that is v, or v up to NaN. -/
def like (z v : C) : Prop := z = v ∨ cnC z = v
theorem like.fin {z v : C} (h : like z v) (hf : pFinite v = true) : z = v := by
  rcases h with h | h
  · exact h
  · obtain ⟨-, -, n1, n2, -, -⟩ := fin_parts hf
    have e1 : z.1 = v.1 := cn_only' (congrArg Prod.fst h) n1
    have e2 : z.2 = v.2 := cn_only' (congrArg Prod.snd h) n2
    exact Prod.ext e1 e2
/-- The rows ahead of row i are eliminated. -/
def ElimR (E Z : Mat) (n k i : Nat) : Prop := ∀ a b, a < n → b < n → (a < i → like (Z a b) (elE E k a b)) ∧ (i ≤ a → Z a b = E a b)
/-- Row i too, up to place j; its factor is not there yet. -/
def RowR (E Z : Mat) (n k i j : Nat) : Prop := ∀ a b, a < n → b < n → (a < i → like (Z a b) (elE E k a b)) ∧ (i < a → Z a b = E a b) ∧ (a = i → k < b → b < j → like (Z a b) (elE E k a b)) ∧ (a = i → (b ≤ k ∨ j ≤ b) → Z a b = E a b)
theorem ElimR.start (E : Mat) (n k : Nat) : ElimR E E n k (k + 1) := fun a b _ _ => ⟨fun h => .inl (elE_old (by omega)).symm, fun _ => rfl⟩
theorem ElimR.old {E Z : Mat} {n k i a b : Nat} (h : ElimR E Z n k i) (hf : finTo E n) (ha : a ≤ k) (hki : k < i) (han : a < n) (hb : b < n) : Z a b = E a b := by
  have h1 := (h a b han hb).1 (by omega)
  rw [elE_old ha] at h1
  exact h1.fin (hf a b han hb)
theorem RowR.start {E Z : Mat} {n k i : Nat} (h : ElimR E Z n k i) : RowR E Z n k i (k + 1) := fun a b ha hb =>
  ⟨(h a b ha hb).1, fun h2 => (h a b ha hb).2 (by omega), fun _ h3 h4 => by omega, fun e _ => (h a b ha hb).2 (by omega)⟩
theorem RowR.old {E Z : Mat} {n k i j a b : Nat} (h : RowR E Z n k i j) (hf : finTo E n) (ha : a ≤ k) (hki : k < i) (han : a < n) (hb : b < n) : Z a b = E a b := by
  have h1 := (h a b han hb).1 (by omega)
  rw [elE_old ha] at h1
  exact h1.fin (hf a b han hb)
theorem RowR.next {E Z : Mat} {n k i j : Nat} {z : C} (h : RowR E Z n k i j) (hkj : k < j) (hz : like z (elE E k i j)) : RowR E (upd Z i j z) n k i (j + 1) := fun a b ha hb => by
  obtain ⟨h1, h2, h3, h4⟩ := h a b ha hb
  refine ⟨fun e => ?_, fun e => ?_, fun e e2 e3 => ?_, fun e e2 => ?_⟩
  · rw [upd_other (by omega)]; exact h1 e
  · rw [upd_other (by omega)]; exact h2 e
  · by_cases hj : b = j
    · subst e hj; rw [upd_same]; exact hz
    · rw [upd_other (by omega)]; exact h3 e e2 (by omega)
  · rw [upd_other (by omega)]; exact h4 e (by omega)
theorem RowR.finish {E Z : Mat} {n k i : Nat} {z : C} (h : RowR E Z n k i n) (hki : k < i) (hz : like z (elE E k i k)) : ElimR E (upd Z i k z) n k (i + 1) := fun a b ha hb => by
  obtain ⟨h1, h2, h3, h4⟩ := h a b ha hb
  refine ⟨fun e => ?_, fun e => ?_⟩
  · by_cases hi : a = i
    · subst hi
      by_cases hk : b = k
      · subst hk; rw [upd_same]; exact hz
      · rw [upd_other (by omega)]
        rcases Nat.lt_or_ge k b with h5 | h5
        · exact h3 rfl h5 hb
        · rw [elE_left (by omega)]; exact .inl (h4 rfl (.inl h5))
    · rw [upd_other (by omega)]; exact h1 (by omega)
  · rw [upd_other (by omega)]; exact h2 (by omega)
theorem ElimR.done {E Z : Mat} {n k : Nat} (h : ElimR E Z n k n) (hf : finTo E n) (hk : k < n) (hfine : fineTo (elE E k) n k (n - (k + 1)) = true) (a b : Nat) (ha : a < n) (hb : b < n) : Z a b = elE E k a b := by
  refine ((h a b ha hb).1 ha).fin ?_
  rw [fineTo_all hk] at hfine
  rcases Nat.lt_or_ge k a with h1 | h1
  · rcases Nat.lt_or_ge b k with h2 | h2
    · rw [elE_left h2]; exact hf a b ha hb
    · exact hfine a b h1 (by omega) h2 hb
  · rw [elE_old h1]; exact hf a b ha hb
def Rel2 (B b q p n qc pc k : Nat) (g c : Nat → Nat) (S : El) (w : World) (fv iv : Value) (wr : World) : Prop :=
  ∃ (i : Nat) (Z : Mat), k < i ∧ i ≤ n ∧ iv = .int .i64 (i : Nat) ∧ fv = .bool (fineTo (elE S.E k) n k (i - (k + 1))) ∧ Lo wr B b q p n qc pc g c ⟨Z, S.o, S.s⟩ ∧ ElimR S.E Z n k i ∧ Below B w wr
def Rel3 (B b q p n qc pc k i : Nat) (g c : Nat → Nat) (S : El) (f0 : Bool) (w : World) (fv jv : Value) (wr : World) : Prop :=
  ∃ (j : Nat) (Z : Mat), k < j ∧ j ≤ n ∧ jv = .int .i64 (j : Nat) ∧ fv = .bool (f0 && fineRow (elE S.E k) k i (j - (k + 1))) ∧ Lo wr B b q p n qc pc g c ⟨Z, S.o, S.s⟩ ∧ RowR S.E Z n k i j ∧ Below B w wr
def Put (B b q p n qc pc : Nat) (g c : Nat → Nat) (S : El) (Z : Mat) (k i j : Nat) (w wx : World) : Prop :=
  ∃ z : C, cnC z = elE S.E k i j ∧ ltC z ∧ Lo wx B b q p n qc pc g c ⟨upd Z i j z, S.o, S.s⟩ ∧ Below B w wx
def Fin1 (f : Bool) (B : Nat) (w : World) (s : Value) (wx : World) : Prop := s = .bool f ∧ Below B w wx
end Go.Proofs.Ytandllekeimpgaa
namespace Fl
open Ieee Go
/-- Elimination without a choice. -/
def elP (E : Mat) : Nat → Mat
  | 0 => E
  | k + 1 => elE (elP E k) k
theorem elE_xch (E : Mat) {k i j : Nat} (hi : k < i) (hj : k < j) : elE (fun a => E (xch i j a)) k = fun a => elE E k (xch i j a) := by
  have hk : xch i j k = k := xch_ne (by omega) (by omega)
  have hc : ∀ a, k < a ↔ k < xch i j a := fun a => by
    unfold xch
    split
    · omega
    · split <;> omega
  funext a b
  unfold elE elF
  simp only [hk]
  by_cases h : k < a
  · rw [if_pos h, if_pos ((hc a).1 h)]
  · rw [if_neg h, if_neg (fun g => h ((hc a).2 g))]
theorem elP_xch (E : Mat) {i j : Nat} : ∀ k, k ≤ i → k ≤ j → elP (fun a => E (xch i j a)) k = fun a => elP E k (xch i j a)
  | 0, _, _ => rfl
  | k + 1, hi, hj => by
    have ih := elP_xch E (i := i) (j := j) k (by omega) (by omega)
    show elE (elP _ k) k = _
    rw [ih, elE_xch (elP E k) (i := i) (j := j) (by omega) (by omega)]; rfl
theorem run_elP {n : Nat} {S : El} (ho : S.o = id) : ∀ k, k ≤ n → (elRun n S k).1.1 = 0 → (elRun n S k).2.E = elP (fun i => S.E ((elRun n S k).2.o i)) k
  | 0, _, _ => by
    show S.E = fun i => S.E (S.o i)
    rw [ho]; rfl
  | k + 1, hk, h => by
    by_cases h0 : (elRun n S k).1.1 = 0
    · by_cases he : elErr n k (elRun n S k).2 = 0
      · have ih := run_elP ho k (by omega) h0
        rw [elRun_ok h0 he]
        obtain ⟨T, hT⟩ : ∃ T, T = (elRun n S k).2 := ⟨_, rfl⟩
        rw [← hT] at ih ⊢
        have hp := elPiv_lt T (n := n) (k := k) (by omega)
        have hx := elP_xch (fun i => S.E (T.o i)) (i := k) (j := elPiv n k T) k (Nat.le_refl _) hp.2
        show elE (fun i => T.E (xch k (elPiv n k T) i)) k = elE (elP (fun i => S.E (T.o (xch k (elPiv n k T) i))) k) k
        rw [ih]
        exact congrArg (fun F => elE F k) hx.symm
      · rw [elRun_bad h0 he] at h; exact absurd h he
    · rw [elRun, if_neg h0] at h; exact absurd h h0
theorem elP_up (E : Mat) {i j : Nat} : ∀ d, elP E (i + d) i j = elP E i i j
  | 0 => rfl
  | d + 1 => by
    show elE (elP E (i + d)) (i + d) i j = _
    rw [elE_old (by omega)]; exact elP_up E d
theorem elP_low (E : Mat) {i j : Nat} : ∀ d, elP E (j + 1 + d) i j = elP E (j + 1) i j
  | 0 => rfl
  | d + 1 => by
    show elE (elP E (j + 1 + d)) (j + 1 + d) i j = _
    rw [elE_left (by omega)]; exact elP_low E d
theorem elP_up' (E : Mat) {i j n : Nat} (h : i ≤ n) : elP E n i j = elP E i i j := by
  have := elP_up E (i := i) (j := j) (n - i); rwa [show i + (n - i) = n by omega] at this
theorem elP_low' (E : Mat) {i j n : Nat} (h : j < n) : elP E n i j = elP E (j + 1) i j := by
  have := elP_low E (i := i) (j := j) (n - (j + 1)); rwa [show j + 1 + (n - (j + 1)) = n by omega] at this
/-- A factor, as it is left. -/
theorem elP_fac (E : Mat) {i s n : Nat} (hs : s < i) (hn : s < n) : elF (elP E s) s i = elP E n i s := by
  rw [elP_low' E hn]
  show _ = elE (elP E s) s i s
  rw [elE_fac hs]
theorem elP_next (E : Mat) {i j s n : Nat} (hi : s < i) (hj : s < j) (hn : s < n) : elP E (s + 1) i j = pSub (elP E s i j) (pMul (elP E n i s) (elP E n s j)) := by
  show elE (elP E s) s i j = _
  rw [elE_new hi hj, elP_fac E hi hn, elP_up' E (Nat.le_of_lt hn) (j := j)]
theorem elP_quot (E : Mat) {i j n : Nat} (hj : j < i) (hn : j < n) : elP E n i j = pDiv (elP E j i j) (elP E n j j) := by
  rw [← elP_fac E hj hn, elP_up' E (Nat.le_of_lt hn) (j := j)]; rfl
/-- Both parts are whole numbers. -/
def Cx (z : C) (a b : Int) : Prop := Ex z.1 a 1074 ∧ Ex z.2 b 1074
theorem Ex.inj {x k : Nat} {a b : Int} (h : Ex x a k) (h' : Ex x b k) : a = b := by
  have e : a * (2 ^ k : Nat) = b * (2 ^ k : Nat) := h.2.2.symm.trans h'.2.2
  exact Int.eq_of_mul_eq_mul_right (by have := two_pos k; omega) e
theorem Cx.inj {z : C} {a b c d : Int} (h : Cx z a b) (h' : Cx z c d) : a = c ∧ b = d := ⟨h.1.inj h'.1, h.2.inj h'.2⟩
theorem mul_lt20 {a b : Int} (ha : a.natAbs < 1048576) (hb : b.natAbs < 1048576) : (a * b).natAbs < 1099511627776 := by
  rw [Int.natAbs_mul]
  exact Nat.lt_of_le_of_lt (Nat.mul_le_mul (Nat.le_of_lt_succ (by omega : a.natAbs < 1048575 + 1)) (Nat.le_of_lt_succ (by omega : b.natAbs < 1048575 + 1))) (by omega)
theorem Cx.mul {x y : C} {a b c d : Int} (h : Cx x a b) (h' : Cx y c d) (ha : a.natAbs < 1048576) (hb : b.natAbs < 1048576) (hc : c.natAbs < 1048576) (hd : d.natAbs < 1048576) :
    Cx (pMul x y) (a * c - b * d) (a * d + b * c) := by
  have m1 := mul_lt20 ha hc
  have m2 := mul_lt20 hb hd
  have m3 := mul_lt20 ha hd
  have m4 := mul_lt20 hb hc
  exact ⟨(h.1.mul h'.1 (n := 1074) (by omega) (by omega) (by omega)).sub (h.2.mul h'.2 (n := 1074) (by omega) (by omega) (by omega)) (by omega) (by omega),
    (h.1.mul h'.2 (n := 1074) (by omega) (by omega) (by omega)).add (h.2.mul h'.1 (n := 1074) (by omega) (by omega) (by omega)) (by omega) (by omega)⟩
theorem Cx.sub {x y : C} {a b c d : Int} (h : Cx x a b) (h' : Cx y c d) (h1 : (a - c).natAbs < 9007199254740992) (h2 : (b - d).natAbs < 9007199254740992) : Cx (pSub x y) (a - c) (b - d) :=
  ⟨h.1.sub h'.1 h1 (by omega), h.2.sub h'.2 h2 (by omega)⟩
theorem Ex.zq {x y k : Nat} {a : Int} (h : Ex x a k) (hl : y < 18446744073709551616) (e : zq y x) : Ex y a k := by
  rcases e with e | ⟨e1, e2⟩
  · rw [e]; exact h
  · have ha : a = 0 := by
      have h0 := zero_rung.2 e2
      rw [h.2.2] at h0; exact mul_two_eq.1 h0
    rw [ha]; exact ex_zero hl e1
theorem Cx.zq {x y : C} {a b : Int} (h : Cx x a b) (hl : ltC y) (e : zqC y x) : Cx y a b := ⟨h.1.zq hl.1 e.1, h.2.zq hl.2 e.2⟩
theorem quot_one {P Q : Nat} {p q : Int} (hp : Ex P p 1074) (hq : Ex Q q 1074) (bp : p.natAbs < 9007199254740992) (bq : q.natAbs < 9007199254740992) :
    Ex (pDiv (P, Q) (4607182418800017408, 0)).1 p 1074 ∧ Ex (pDiv (P, Q) (4607182418800017408, 0)).2 q 1074 := by
  have e1 : fle .f64 (fabs 0) (fabs 4607182418800017408) = true := by decide +kernel
  have e2 : fdiv 0 4607182418800017408 = 0 := by decide +kernel
  have e3 : fadd 4607182418800017408 (fmul 0 0) = 4607182418800017408 := by decide +kernel
  have z : Ex 0 0 1074 := ex_zero (by decide) (by decide)
  unfold pDiv
  rw [if_pos e1]
  dsimp only
  rw [e2, e3]
  have m1 := hq.mul z (n := 1074) (by omega) (by simp) (by omega)
  have m2 := hp.mul z (n := 1074) (by omega) (by simp) (by omega)
  have s1 := (hp.add m1 (by simpa using bp) (by omega)).at (b := p) (by simp)
  have s2 := (hq.sub m2 (by simpa using bq) (by omega)).at (b := q) (by simp)
  exact ⟨(s1.div ex_one (.inl rfl) bp (by omega)).at (by omega), (s2.div ex_one (.inl rfl) bq (by omega)).at (by omega)⟩
/-- A unit's parts. -/
def Unit4 (c d : Int) : Prop := (c = 1 ∧ d = 0) ∨ (c = -1 ∧ d = 0) ∨ (c = 0 ∧ d = 1) ∨ (c = 0 ∧ d = -1)
theorem ex_word0 {x k : Nat} (h : Ex x 0 k) : rung double x = 0 := zero_rung.1 (by rw [h.2.2]; simp)
theorem ex_same {x y : Nat} {a : Int} (h : Ex x a 1074) (h' : Ex y a 1074) (h0 : a ≠ 0) : x = y := by
  have e : sval double x = sval double y := h.2.2.trans h'.2.2.symm
  have hs : Fl.sgn double x = Fl.sgn double y := by rw [sgn_of_ex h h0, sgn_of_ex h' h0]
  have hr : val double (rung double x) = val double (rung double y) := by rw [← abs_sval, ← abs_sval, e]
  exact word_inj (f := double) h.1 h'.1 hs (val_inj hr)
theorem zq_ex {x y : Nat} {a : Int} (h : Ex x a 1074) (h' : Ex y a 1074) : zq x y := by
  by_cases h0 : a = 0
  · subst h0; exact .inr ⟨ex_word0 h, ex_word0 h'⟩
  · exact .inl (ex_same h h' h0)
theorem zqC_cx {x y : C} {a b : Int} (h : Cx x a b) (h' : Cx y a b) : zqC x y := ⟨zq_ex h.1 h'.1, zq_ex h.2 h'.2⟩
theorem cx_fin {z : C} {a b : Int} (h : Cx z a b) : pFinite z = true := by
  unfold pFinite
  rw [Bool.and_eq_true]
  exact ⟨by unfold isFin; simpa [fin] using h.1.2.1, by unfold isFin; simpa [fin] using h.2.2.1⟩
theorem cx_zero {z : C} {a b : Int} (h : Cx z a b) (h0 : a ≠ 0 ∨ b ≠ 0) : pZero z = false := by
  refine Bool.eq_false_iff.2 fun e => ?_
  obtain ⟨e1, e2⟩ := (zero_iff (cx_fin h)).1 e
  have z1 := zero_rung.2 e1
  have z2 := zero_rung.2 e2
  rw [h.1.2.2] at z1; rw [h.2.2.2] at z2
  have := mul_two_eq.1 z1; have := mul_two_eq.1 z2; omega
/-- A quotient by a unit. -/
theorem Cx.div {x y : C} {a b c d : Int} (h : Cx x a b) (h' : Cx y c d) (hu : Unit4 c d) (ba : a.natAbs < 9007199254740992) (bb : b.natAbs < 9007199254740992) :
    Cx (pDiv x y) (a * c + b * d) (b * c - a * d) := by
  have lx : ltC x := ⟨h.1.1, h.2.1⟩
  have hz : c ≠ 0 ∨ d ≠ 0 := by rcases hu with h | h | h | h <;> omega
  have z0 : Ex 0 0 1074 := ex_zero (by decide) (by decide)
  have key : ∀ w : C, Cx w c d → Cx (pDiv x w) (a * c + b * d) (b * c - a * d) → Cx (pDiv x y) (a * c + b * d) (b * c - a * d) := fun w hw hq =>
    hq.zq (ltC_div _ _) (div_den lx (zqC_cx h' hw) (cx_fin h') (cx_zero h' hz) ⟨h'.1.1, h'.2.1⟩)
  rcases hu with ⟨rfl, rfl⟩ | ⟨rfl, rfl⟩ | ⟨rfl, rfl⟩ | ⟨rfl, rfl⟩
  · refine key (4607182418800017408, 0) ⟨ex_one, z0⟩ ?_
    have q := quot_one h.1 h.2 ba bb
    exact ⟨q.1.at (by omega), q.2.at (by omega)⟩
  · refine key (13830554455654793216, 0) ⟨ex_minus, z0⟩ ?_
    have q := quot_minus h.1 h.2 ba
    exact ⟨q.1.at (by omega), (q.2 bb).at (by omega)⟩
  · refine key (0, 4607182418800017408) ⟨z0, ex_one⟩ ?_
    have q := quot_i h.1 h.2 ba bb
    exact ⟨q.1.at (by omega), q.2.at (by omega)⟩
  · refine key (0, 13830554455654793216) ⟨z0, ex_minus⟩ ?_
    have q := quot_mi h.1 h.2 ba bb
    exact ⟨q.1.at (by omega), q.2.at (by omega)⟩
abbrev IMat := Nat → Nat → Int
/-- What is left of an entry, m products taken off. -/
def vR (a f g : IMat) (i j : Nat) : Nat → Int
  | 0 => a i j
  | m + 1 => vR a f g i j m - (f i m * f m j - g i m * g m j)
def vI (b f g : IMat) (i j : Nat) : Nat → Int
  | 0 => b i j
  | m + 1 => vI b f g i j m - (f i m * g m j + g i m * f m j)
def Below20 (n : Nat) (f : IMat) : Prop := ∀ i j, i < n → j < n → (f i j).natAbs < 1048576
theorem vR_lt {a f g : IMat} {n i j : Nat} (ha : Below20 n a) (hf : Below20 n f) (hg : Below20 n g) (hi : i < n) (hj : j < n) : ∀ m, m ≤ n → (vR a f g i j m).natAbs < 1048576 + m * 2199023255552
  | 0, _ => by have := ha i j hi hj; unfold vR; omega
  | m + 1, hm => by
    have ih := vR_lt ha hf hg hi hj m (by omega)
    have h1 := mul_lt20 (hf i m hi (by omega)) (hf m j (by omega) hj)
    have h2 := mul_lt20 (hg i m hi (by omega)) (hg m j (by omega) hj)
    unfold vR; omega
theorem vI_lt {b f g : IMat} {n i j : Nat} (hb : Below20 n b) (hf : Below20 n f) (hg : Below20 n g) (hi : i < n) (hj : j < n) : ∀ m, m ≤ n → (vI b f g i j m).natAbs < 1048576 + m * 2199023255552
  | 0, _ => by have := hb i j hi hj; unfold vI; omega
  | m + 1, hm => by
    have ih := vI_lt hb hf hg hi hj m (by omega)
    have h1 := mul_lt20 (hf i m hi (by omega)) (hg m j (by omega) hj)
    have h2 := mul_lt20 (hg i m hi (by omega)) (hf m j (by omega) hj)
    unfold vI; omega
/-- What is asked: whole numbers, before and behind, and units as pivots. -/
structure Whole (n : Nat) (E : Mat) (a b f g : IMat) : Prop where
  n13 : n ≤ 64
  was : ∀ i j, i < n → j < n → Cx (E i j) (a i j) (b i j)
  is : ∀ i j, i < n → j < n → Cx (elP E n i j) (f i j) (g i j)
  ba : Below20 n a
  bb : Below20 n b
  bf : Below20 n f
  bg : Below20 n g
  unit : ∀ i, i < n → Unit4 (f i i) (g i i)
namespace Whole
variable {n : Nat} {E : Mat} {a b f g : IMat}
theorem part (h : Whole n E a b f g) {i j : Nat} (hi : i < n) (hj : j < n) : ∀ m, m ≤ i → m ≤ j → Cx (elP E m i j) (vR a f g i j m) (vI b f g i j m)
  | 0, _, _ => h.was i j hi hj
  | m + 1, h1, h2 => by
    have ih := h.part hi hj m (by omega) (by omega)
    have hn := h.n13
    have b1 := vR_lt h.ba h.bf h.bg hi hj (m + 1) (by omega)
    have b2 := vI_lt h.bb h.bf h.bg hi hj (m + 1) (by omega)
    rw [elP_next E h1 h2 (n := n) (by omega)]
    refine ih.sub ((h.is i m hi (by omega)).mul (h.is m j (by omega) hj) (h.bf _ _ hi (by omega)) (h.bg _ _ hi (by omega)) (h.bf _ _ (by omega) hj) (h.bg _ _ (by omega) hj)) ?_ ?_
    · show (vR a f g i j (m + 1)).natAbs < _; omega
    · show (vI b f g i j (m + 1)).natAbs < _; omega
theorem up (h : Whole n E a b f g) {i j : Nat} (hij : i ≤ j) (hj : j < n) : f i j = vR a f g i j i ∧ g i j = vI b f g i j i := by
  have h1 := h.is i j (by omega) hj
  rw [elP_up' E (by omega)] at h1
  exact h1.inj (h.part (by omega) hj i (Nat.le_refl _) hij)
theorem low (h : Whole n E a b f g) {i j : Nat} (hij : j < i) (hi : i < n) : f i j * f j j - g i j * g j j = vR a f g i j j ∧ f i j * g j j + g i j * f j j = vI b f g i j j := by
  have h1 := h.is i j hi (by omega)
  have hu := h.unit j (by omega)
  have hn := h.n13
  rw [elP_quot E hij (by omega)] at h1
  have b1 := vR_lt h.ba h.bf h.bg hi (by omega : j < n) j (by omega)
  have b2 := vI_lt h.bb h.bf h.bg hi (by omega : j < n) j (by omega)
  obtain ⟨e1, e2⟩ := h1.inj ((h.part hi (by omega) j (by omega) (Nat.le_refl _)).div (h.is j j (by omega) (by omega)) hu (by omega) (by omega))
  rw [e1, e2]
  rcases hu with ⟨u1, u2⟩ | ⟨u1, u2⟩ | ⟨u1, u2⟩ | ⟨u1, u2⟩ <;> rw [u1, u2] <;> constructor <;> omega
end Whole
/-- The factors' and the upper matrix' parts. -/
def lR (f : IMat) (i k : Nat) : Int := if k = i then 1 else if k < i then f i k else 0
def lI (g : IMat) (i k : Nat) : Int := if k = i then 0 else if k < i then g i k else 0
def uR (f : IMat) (k j : Nat) : Int := if j < k then 0 else f k j
def sR (f g : IMat) (i j : Nat) : Nat → Int
  | 0 => 0
  | m + 1 => sR f g i j m + lR f i m * uR f m j - lI g i m * uR g m j
def sI (f g : IMat) (i j : Nat) : Nat → Int
  | 0 => 0
  | m + 1 => sI f g i j m + lR f i m * uR g m j + lI g i m * uR f m j
theorem Whole.sums {n : Nat} {E : Mat} {a b f g : IMat} (h : Whole n E a b f g) {i j : Nat} (hi : i < n) (hj : j < n) : ∀ m, m ≤ n →
    sR f g i j m = a i j - (if m ≤ i ∧ m ≤ j then vR a f g i j m else 0) ∧ sI f g i j m = b i j - (if m ≤ i ∧ m ≤ j then vI b f g i j m else 0)
  | 0, _ => by
    rw [if_pos ⟨Nat.zero_le _, Nat.zero_le _⟩, if_pos ⟨Nat.zero_le _, Nat.zero_le _⟩]
    unfold sR sI vR vI; omega
  | m + 1, hm => by
    obtain ⟨ih1, ih2⟩ := h.sums hi hj m (by omega)
    have e1 : sR f g i j (m + 1) = sR f g i j m + lR f i m * uR f m j - lI g i m * uR g m j := rfl
    have e2 : sI f g i j (m + 1) = sI f g i j m + lR f i m * uR g m j + lI g i m * uR f m j := rfl
    rw [e1, e2, ih1, ih2]
    have v1 : vR a f g i j (m + 1) = vR a f g i j m - (f i m * f m j - g i m * g m j) := rfl
    have v2 : vI b f g i j (m + 1) = vI b f g i j m - (f i m * g m j + g i m * f m j) := rfl
    by_cases hmi : m < i
    · have l1 : lR f i m = f i m := by unfold lR; rw [if_neg (by omega), if_pos hmi]
      have l2 : lI g i m = g i m := by unfold lI; rw [if_neg (by omega), if_pos hmi]
      by_cases hmj : m < j
      · have u1 : uR f m j = f m j := by unfold uR; rw [if_neg (by omega)]
        have u2 : uR g m j = g m j := by unfold uR; rw [if_neg (by omega)]
        rw [if_pos (by omega), if_pos (by omega), if_pos (by omega), if_pos (by omega), l1, l2, u1, u2, v1, v2]
        omega
      · by_cases e : m = j
        · subst e
          have u1 : uR f m m = f m m := by unfold uR; rw [if_neg (by omega)]
          have u2 : uR g m m = g m m := by unfold uR; rw [if_neg (by omega)]
          obtain ⟨w1, w2⟩ := h.low hmi hi
          rw [if_pos (by omega), if_neg (by omega), if_pos (by omega), if_neg (by omega), l1, l2, u1, u2]
          omega
        · have u1 : uR f m j = 0 := by unfold uR; rw [if_pos (by omega)]
          have u2 : uR g m j = 0 := by unfold uR; rw [if_pos (by omega)]
          rw [if_neg (by omega), if_neg (by omega), if_neg (by omega), if_neg (by omega), u1, u2]
          simp
    · by_cases e : m = i
      · subst e
        have l1 : lR f m m = 1 := by unfold lR; rw [if_pos rfl]
        have l2 : lI g m m = 0 := by unfold lI; rw [if_pos rfl]
        by_cases hmj : j < m
        · have u1 : uR f m j = 0 := by unfold uR; rw [if_pos (by omega)]
          have u2 : uR g m j = 0 := by unfold uR; rw [if_pos (by omega)]
          rw [if_neg (by omega), if_neg (by omega), if_neg (by omega), if_neg (by omega), u1, u2]
          simp
        · have u1 : uR f m j = f m j := by unfold uR; rw [if_neg (by omega)]
          have u2 : uR g m j = g m j := by unfold uR; rw [if_neg (by omega)]
          obtain ⟨w1, w2⟩ := h.up (by omega : m ≤ j) hj
          rw [if_pos (by omega), if_neg (by omega), if_pos (by omega), if_neg (by omega), l1, l2, u1, u2]
          omega
      · have l1 : lR f i m = 0 := by unfold lR; rw [if_neg e, if_neg (by omega)]
        have l2 : lI g i m = 0 := by unfold lI; rw [if_neg e, if_neg (by omega)]
        rw [if_neg (by omega), if_neg (by omega), if_neg (by omega), if_neg (by omega), l1, l2]
        simp
/-- The law: the sums are the entries. -/
theorem Whole.law {n : Nat} {E : Mat} {a b f g : IMat} (h : Whole n E a b f g) {i j : Nat} (hi : i < n) (hj : j < n) : sR f g i j n = a i j ∧ sI f g i j n = b i j := by
  have := h.sums hi hj n (Nat.le_refl _)
  rw [if_neg (by omega), if_neg (by omega)] at this
  omega
end Fl
