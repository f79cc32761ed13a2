/- Frexp and Ldexp of any finite word, as plain functions of it; in a mirror; the number brought home. -/
import Derived.Test.YtglmmidhkpomgaaGreatReg
import Derived.Test.YtglmmidhkpomgaaGreatFlA
import Derived.Test.YtglmmidhkpomgaaGreatMX1
namespace Fl
open Ieee Go
/-- The bits beside the exponent's, and the exponent's set. -/
theorem i64_and_2047 (n : Nat) (hn : n < 18446744073709551616) : bits .and .i64 ((n : Int) / 4503599627370496) 2047 = ((rung double n / 4503599627370496 : Nat) : Int) := by
  have hb : (2047 : Int) = ((2047 : Nat) : Int) := rfl
  have ha : (n : Int) / 4503599627370496 = ((n / 4503599627370496 : Nat) : Int) := by omega
  rw [ha, hb]
  show IntKind.i64.wrap ((BitVec.ofInt 64 ((n / 4503599627370496 : Nat) : Int) &&& BitVec.ofInt 64 ((2047 : Nat) : Int)).toNat : Int) = _
  rw [BitVec.toNat_and, ofInt_u64 _ (by omega), ofInt_u64 _ (by omega)]
  have e : n / 4503599627370496 &&& 2047 = n / 4503599627370496 % 2048 := Nat.and_two_pow_sub_one_eq_mod (n / 4503599627370496) 11
  have e3 : rung double n / 4503599627370496 = n / 4503599627370496 % 2048 := by
    unfold rung; rw [sw64]; exact Nat.mod_mul_right_div_self n 4503599627370496 2048
  rw [e, e3, IntKind.wrap_i64]
  omega
theorem u64_and_2047' (n : Nat) (hn : n < 18446744073709551616) : bits .and .u64 ((n : Int) / 4503599627370496) 2047 = ((rung double n / 4503599627370496 : Nat) : Int) := by
  have ha : (n : Int) / 4503599627370496 = ((n / 4503599627370496 : Nat) : Int) := by omega
  rw [ha, show (2047 : Int) = ((2047 : Nat) : Int) from rfl, u64_and_nat _ _ (by omega) (by omega)]
  have e : n / 4503599627370496 &&& 2047 = n / 4503599627370496 % 2048 := Nat.and_two_pow_sub_one_eq_mod (n / 4503599627370496) 11
  have e3 : rung double n / 4503599627370496 = n / 4503599627370496 % 2048 := by
    unfold rung; rw [sw64]; exact Nat.mod_mul_right_div_self n 4503599627370496 2048
  rw [e, e3]
theorem word_or (s : Bool) {x : Nat} (hx : x < 9223372036854775808) : double.word s x = x ||| (if s then 9223372036854775808 else 0) := by
  unfold Format.word; rw [sw64]
  cases s
  · simp
  · simpa using (or_two_pow_of_lt (x := x) (i := 63) hx).symm
theorem u64_keep (n : Nat) (hn : n < 18446744073709551616) : bits .andNot .u64 (n : Int) 9218868437227405312 = ((double.word (sgn double n) (rung double n % 4503599627370496) : Nat) : Int) := by
  have h := u64_andNot_nat n 9218868437227405312 hn (by omega)
  have e0 : 18446744073709551615 - 9218868437227405312 = 4503599627370495 ||| 9223372036854775808 := by decide
  have e1 : n &&& 4503599627370495 = n % 4503599627370496 := Nat.and_two_pow_sub_one_eq_mod n 52
  have e2 : n &&& 9223372036854775808 = if sgn double n then 9223372036854775808 else 0 := by
    unfold sgn; rw [sw64]; exact and_two_pow_one n 63
  have e3 : rung double n % 4503599627370496 = n % 4503599627370496 := by
    unfold rung; rw [sw64]; exact Nat.mod_mod_of_dvd n (by decide)
  have hl : n % 4503599627370496 < 4503599627370496 := Nat.mod_lt _ (by omega)
  rw [e0, Nat.and_or_distrib_left, e1, e2, ← word_or (sgn double n) (x := n % 4503599627370496) (by omega)] at h
  rw [e3]; exact h
theorem u64_expo (s : Bool) (f k : Nat) (hf : f < 4503599627370496) (hk : k < 2048) : bits .or .u64 ((double.word s f : Nat) : Int) ((k : Int) * 4503599627370496) = ((double.word s (k * 4503599627370496 + f) : Nat) : Int) := by
  have hw : double.word s f < 18446744073709551616 := by
    have h := word_lt (f := double) s (r := f) (by rw [sw64]; omega)
    exact h
  have h := u64_or_nat (double.word s f) (k * 4503599627370496) hw (by omega)
  have hc : ((k * 4503599627370496 : Nat) : Int) = (k : Int) * 4503599627370496 := by omega
  rw [hc] at h
  rw [h]
  congr 1
  rw [word_or s (x := f) (by omega), word_or s (x := k * 4503599627370496 + f) (by omega)]
  have e : k * 4503599627370496 + f = k * 4503599627370496 ||| f := by
    have := Nat.two_pow_add_eq_or_of_lt (b := f) (i := 52) hf k
    rw [Nat.mul_comm] at this
    exact this
  rw [e, Nat.or_comm (k * 4503599627370496) f, Nat.or_assoc, Nat.or_assoc]
  congr 1
  exact Nat.or_comm _ _
def w52 : Nat := 4841369599423283200
def wm53 : Nat := 4368491638549381120
def nrmW (x : Nat) : Nat := if rung double x < 4503599627370496 then fmul x w52 else x
def nrmE (x : Nat) : Int := if rung double x < 4503599627370496 then -52 else 0
def fld (x : Nat) : Nat := rung double (nrmW x) / 4503599627370496
def frc (x : Nat) : Nat := rung double (nrmW x) % 4503599627370496
def expo (x : Nat) : Int := nrmE x + fld x
/-- Ldexp of a number that is no nought: its exponent's field comes to k. -/
def ldN (x : Nat) (k : Int) : Nat :=
  if k < -52 then double.word (sgn double (nrmW x)) 0
  else if k ≤ 0 then fmul wm53 (double.word (sgn double (nrmW x)) ((k + 53).toNat * 4503599627370496 + frc x))
  else double.word (sgn double (nrmW x)) (k.toNat * 4503599627370496 + frc x)
def ldW (x : Nat) (j : Int) : Nat := if rung double x = 0 then x else ldN x (j + expo x)
theorem onep : 0 < one_ double := by decide +kernel
theorem val_w52 : val double (rung double w52) = 4503599627370496 * one_ double := by decide +kernel
theorem val_104 : val double (53 * 4503599627370496) = 4503599627370496 * 4503599627370496 := by decide +kernel
theorem val_52 : val double 4503599627370496 = 4503599627370496 := by decide +kernel
theorem fin_w52 : fin double w52 := by unfold fin; decide +kernel
theorem sgn_w52 : sgn double w52 = false := by decide +kernel
/-- A small number, brought up. -/
theorem nrm_small {x : Nat} (h0 : rung double x ≠ 0) (h : rung double x < 4503599627370496) :
    ∃ r, nrmW x = double.word (sgn double x) r ∧ 4503599627370496 ≤ r ∧ r ≤ 53 * 4503599627370496 ∧ Rne double (rung double x * (4503599627370496 * one_ double)) (one_ double) r := by
  have hf : fin double x := by unfold fin; rw [show double.infRung = 9218868437227405312 by decide]; omega
  obtain ⟨r, h1, h2⟩ := mul_sval hf fin_w52
  have hv : val double (rung double x) = rung double x := val_small (by rw [binade64]; exact h)
  rw [abs_sval, abs_sval, hv, val_w52] at h2
  have hone : 0 < one_ double := onep
  have a1 : 4503599627370496 ≤ r := le_rne hone h2 (by rw [val_52, ← Nat.mul_assoc]; exact Nat.mul_le_mul_right _ (Nat.le_mul_of_pos_left _ (by omega)))
  have a2 : r ≤ 53 * 4503599627370496 := rne_le hone h2 (by rw [val_104, ← Nat.mul_assoc]; exact Nat.mul_le_mul_right _ (Nat.mul_le_mul_right _ (by omega)))
  refine ⟨r, ?_, a1, a2, h2⟩
  unfold nrmW
  rw [if_pos h, h1, sgn_w52, Bool.xor_false, Nat.min_eq_left (by rw [show double.infRung = 9218868437227405312 by decide]; omega)]
theorem nrm_facts {x : Nat} (lx : x < 18446744073709551616) (fx : fin double x) (h0 : rung double x ≠ 0) :
    nrmW x < 18446744073709551616 ∧ fin double (nrmW x) ∧ 4503599627370496 ≤ rung double (nrmW x) ∧ sgn double (nrmW x) = sgn double x := by
  by_cases h : rung double x < 4503599627370496
  · obtain ⟨r, e, a1, a2, -⟩ := nrm_small h0 h
    have hr : r < double.signWeight := by rw [sw64]; omega
    rw [e]
    refine ⟨word_lt (f := double) _ hr, fin_word _ (by rw [show double.infRung = 9218868437227405312 by decide]; omega), ?_, sgn_word _ hr⟩
    rw [rung_word _ hr]; exact a1
  · have e : nrmW x = x := by unfold nrmW; rw [if_neg h]
    rw [e]; exact ⟨lx, fx, by omega, rfl⟩
theorem fld_bounds {x : Nat} (lx : x < 18446744073709551616) (fx : fin double x) (h0 : rung double x ≠ 0) : 1 ≤ fld x ∧ fld x ≤ 2046 ∧ frc x < 4503599627370496 ∧ rung double (nrmW x) = fld x * 4503599627370496 + frc x := by
  obtain ⟨-, f1, f2, -⟩ := nrm_facts lx fx h0
  unfold fin at f1
  rw [show double.infRung = 9218868437227405312 by decide] at f1
  unfold fld frc
  refine ⟨by omega, by omega, by omega, by omega⟩
theorem rung_fneg' {x : Nat} (lx : x < 18446744073709551616) (fx : fin double x) : rung double (fneg x) = rung double x :=
  rung_fneg lx (by unfold fin at fx; exact decide_eq_false (by omega))
theorem nrm_neg {x : Nat} (lx : x < 18446744073709551616) (fx : fin double x) : nrmW (fneg x) = fneg (nrmW x) := by
  unfold nrmW
  rw [rung_fneg' lx fx]
  split
  · exact fmul_neg_l lx w52
  · rfl
theorem expo_neg {x : Nat} (lx : x < 18446744073709551616) (fx : fin double x) (h0 : rung double x ≠ 0) : expo (fneg x) = expo x ∧ frc (fneg x) = frc x := by
  obtain ⟨l1, f1, -, -⟩ := nrm_facts lx fx h0
  unfold expo frc fld nrmE
  rw [nrm_neg lx fx, rung_fneg' lx fx, rung_fneg' l1 f1]
  exact ⟨rfl, rfl⟩
theorem fneg_word (s : Bool) {r : Nat} (h : r < double.infRung) : fneg (double.word s r) = double.word (!s) r := by
  have hl := infRung_lt double
  have hn : isNaN double (double.word s r) = false := by unfold isNaN; rw [rung_word s (by omega)]; exact decide_eq_false (by omega)
  have hw := word_lt (f := double) s (r := r) (by omega)
  have e : fneg (double.word s r) = flip double (double.word s r) := fneg_of_not hn
  rw [e, flip_eq hw, sgn_word s (by omega), rung_word s (by omega)]
theorem ldN_neg {x : Nat} (lx : x < 18446744073709551616) (fx : fin double x) (h0 : rung double x ≠ 0) {k : Int} (hk : k ≤ 2046) : ldN (fneg x) k = fneg (ldN x k) := by
  obtain ⟨l1, f1, n1, s1⟩ := nrm_facts lx fx h0
  obtain ⟨b1, b2, b3, b4⟩ := fld_bounds lx fx h0
  have hs : sgn double (fneg (nrmW x)) = !sgn double (nrmW x) := by
    have hn : isNaN double (nrmW x) = false := by unfold fin at f1; exact decide_eq_false (by omega)
    rw [show fneg (nrmW x) = flip double (nrmW x) from fneg_of_not hn, flip_eq l1, sgn_word _ (by unfold fin at f1; have := infRung_lt double; omega)]
  have hi : double.infRung = 9218868437227405312 := by decide
  unfold ldN
  rw [nrm_neg lx fx, (expo_neg lx fx h0).2, hs]
  split
  · exact (fneg_word _ (by rw [hi]; omega)).symm
  · split
    · rw [← fneg_word _ (by rw [hi]; omega)]
      exact fmul_neg_r _ (word_lt (f := double) _ (by rw [sw64]; omega))
    · exact (fneg_word _ (by rw [hi]; omega)).symm
theorem fin_wm53 : fin double wm53 := by unfold fin; decide +kernel
theorem sgn_wm53 : sgn double wm53 = false := by decide +kernel
theorem val_wm53 : val double (rung double wm53) ≤ one_ double := by decide +kernel
/-- What Ldexp comes to is finite; its size. -/
theorem ldN_fin {x : Nat} (lx : x < 18446744073709551616) (fx : fin double x) (h0 : rung double x ≠ 0) {k : Int} (hk : k ≤ 2046) :
    ldN x k < 18446744073709551616 ∧ fin double (ldN x k) ∧ (k ≤ 1023 → rung double (ldN x k) < 4611686018427387904) ∧ (k = 1023 → 4607182418800017408 ≤ rung double (ldN x k)) := by
  obtain ⟨b1, b2, b3, b4⟩ := fld_bounds lx fx h0
  have hi : double.infRung = 9218868437227405312 := by decide
  unfold ldN
  split
  · refine ⟨word_lt (f := double) _ (by rw [sw64]; omega), fin_word _ (by rw [hi]; omega), fun _ => ?_, fun _ => by omega⟩
    rw [rung_word _ (by rw [sw64]; omega)]; omega
  · split
    · obtain ⟨y, hy⟩ : ∃ y, y = (k + 53).toNat * 4503599627370496 + frc x := ⟨_, rfl⟩
      rw [← hy]
      have hyl : y < 54 * 4503599627370496 := by omega
      have hfy : fin double (double.word (sgn double (nrmW x)) y) := fin_word _ (by rw [hi]; omega)
      obtain ⟨r, h1, h2⟩ := mul_sval fin_wm53 hfy
      rw [abs_sval, abs_sval, rung_word _ (by rw [sw64]; omega)] at h2
      have hr : r ≤ y := rne_le onep h2 (by rw [Nat.mul_comm]; exact Nat.mul_le_mul_left _ val_wm53)
      have hm : min r double.infRung = r := Nat.min_eq_left (by rw [hi]; omega)
      rw [h1, hm]
      refine ⟨word_lt (f := double) _ (by rw [sw64]; omega), fin_word _ (by rw [hi]; omega), fun _ => ?_, fun _ => by omega⟩
      rw [rung_word _ (by rw [sw64]; omega)]; omega
    · refine ⟨word_lt (f := double) _ (by rw [sw64]; omega), fin_word _ (by rw [hi]; omega), fun _ => ?_, fun _ => ?_⟩
      · rw [rung_word _ (by rw [sw64]; omega)]; omega
      · rw [rung_word _ (by rw [sw64]; omega)]; omega
theorem ldW_neg {x : Nat} (lx : x < 18446744073709551616) (fx : fin double x) (j : Int) (hj : rung double x ≠ 0 → j + expo x ≤ 2046) : ldW (fneg x) j = fneg (ldW x j) := by
  unfold ldW
  rw [rung_fneg' lx fx]
  split
  · rfl
  · rename_i h0
    rw [(expo_neg lx fx h0).1]
    exact ldN_neg lx fx h0 (hj h0)
/-- What a word's exponent hangs on: its size alone. -/
theorem expo_rung {x : Nat} (lx : x < 18446744073709551616) (fx : fin double x) (h0 : rung double x ≠ 0) : expo (rung double x) = expo x := by
  have hx := word_split (f := double) (x := x) lx
  have hl := infRung_lt double
  have hr : rung double x < double.signWeight := by unfold fin at fx; omega
  have e0 : double.word false (rung double x) = rung double x := by unfold Format.word; simp
  cases hs : sgn double x with
  | false => rw [hs] at hx; rw [e0] at hx; rw [← hx]
  | true =>
    rw [hs] at hx
    have e1 : x = fneg (rung double x) := by
      have h := fneg_word false (r := rung double x) fx
      rw [e0] at h
      rw [h]; exact hx
    have lr : rung double x < 18446744073709551616 := by rw [sw64] at hr; omega
    have rr : rung double (rung double x) = rung double x := by
      have := rung_word (f := double) false hr
      rwa [e0] at this
    have fr : fin double (rung double x) := by unfold fin; rw [rr]; exact fx
    have h := (expo_neg lr fr (by rw [rr]; exact h0)).1
    rw [← e1] at h
    exact h.symm
theorem expo_mono {x y : Nat} (h0 : rung double x ≠ 0) (h : rung double x ≤ rung double y) : expo x ≤ expo y := by
  have hy0 : rung double y ≠ 0 := by omega
  by_cases h1 : rung double y < 4503599627370496
  · have h2 : rung double x < 4503599627370496 := by omega
    obtain ⟨r, e, a1, a2, a3⟩ := nrm_small h0 h2
    obtain ⟨s, e', c1, c2, c3⟩ := nrm_small hy0 h1
    have hrs : r ≤ s := a3.mono onep onep (Nat.mul_le_mul_right _ (Nat.mul_le_mul_right _ h)) c3
    unfold expo fld nrmE
    rw [e, e', if_pos h1, if_pos h2, rung_word _ (by rw [sw64]; omega), rung_word _ (by rw [sw64]; omega)]
    omega
  · by_cases h2 : rung double x < 4503599627370496
    · obtain ⟨r, e, a1, a2, a3⟩ := nrm_small h0 h2
      have hy : nrmW y = y := by unfold nrmW; rw [if_neg h1]
      unfold expo fld nrmE
      rw [e, hy, if_neg h1, if_pos h2, rung_word _ (by rw [sw64]; omega)]
      omega
    · have hx : nrmW x = x := by unfold nrmW; rw [if_neg h2]
      have hy : nrmW y = y := by unfold nrmW; rw [if_neg h1]
      unfold expo fld nrmE
      rw [hx, hy, if_neg h1, if_neg h2]
      omega
theorem expo_bounds {x : Nat} (lx : x < 18446744073709551616) (fx : fin double x) (h0 : rung double x ≠ 0) : -51 ≤ expo x ∧ expo x ≤ 2046 := by
  obtain ⟨b1, b2, -, -⟩ := fld_bounds lx fx h0
  unfold expo nrmE
  split <;> omega
end Fl
