/- Ldexp of any finite word: as a plain function, and its contract (turned out of the texts of layer 10 by conv_ld.py). -/
import Derived.Test.YtandllekeimpgaaGreatFlA
import Derived.Test.YtandllekeimpgaaGreatExt
namespace Fl
open Ieee Go
/-- The bits beside the exponent's, and the exponent's set. -/
theorem i64_and_2047 (n : Nat) (hn : n < 18446744073709551616) : bits .and .i64 ((n : Int) / 4503599627370496) 2047 = ((rung double n / 4503599627370496 : Nat) : Int) := by
  have hb : (2047 : Int) = ((2047 : Nat) : Int) := rfl
  have ha : (n : Int) / 4503599627370496 = ((n / 4503599627370496 : Nat) : Int) := by omega
  rw [ha, hb]
  show IntKind.i64.wrap ((BitVec.ofInt 64 ((n / 4503599627370496 : Nat) : Int) &&& BitVec.ofInt 64 ((2047 : Nat) : Int)).toNat : Int) = _
  rw [BitVec.toNat_and, ofInt_u64 _ (by omega), ofInt_u64 _ (by omega)]
  have e : n / 4503599627370496 &&& 2047 = n / 4503599627370496 % 2048 := Nat.and_two_pow_sub_one_eq_mod (n / 4503599627370496) 11
  have e3 : rung double n / 4503599627370496 = n / 4503599627370496 % 2048 := by
    unfold rung; rw [sw64]; exact Nat.mod_mul_right_div_self n 4503599627370496 2048
  rw [e, e3, IntKind.wrap_i64]
  omega
theorem u64_and_2047' (n : Nat) (hn : n < 18446744073709551616) : bits .and .u64 ((n : Int) / 4503599627370496) 2047 = ((rung double n / 4503599627370496 : Nat) : Int) := by
  have ha : (n : Int) / 4503599627370496 = ((n / 4503599627370496 : Nat) : Int) := by omega
  rw [ha, show (2047 : Int) = ((2047 : Nat) : Int) from rfl, u64_and_nat _ _ (by omega) (by omega)]
  have e : n / 4503599627370496 &&& 2047 = n / 4503599627370496 % 2048 := Nat.and_two_pow_sub_one_eq_mod (n / 4503599627370496) 11
  have e3 : rung double n / 4503599627370496 = n / 4503599627370496 % 2048 := by
    unfold rung; rw [sw64]; exact Nat.mod_mul_right_div_self n 4503599627370496 2048
  rw [e, e3]
theorem word_or (s : Bool) {x : Nat} (hx : x < 9223372036854775808) : double.word s x = x ||| (if s then 9223372036854775808 else 0) := by
  unfold Format.word; rw [sw64]
  cases s
  · simp
  · simpa using (or_two_pow_of_lt (x := x) (i := 63) hx).symm
theorem u64_keep (n : Nat) (hn : n < 18446744073709551616) : bits .andNot .u64 (n : Int) 9218868437227405312 = ((double.word (sgn double n) (rung double n % 4503599627370496) : Nat) : Int) := by
  have h := u64_andNot_nat n 9218868437227405312 hn (by omega)
  have e0 : 18446744073709551615 - 9218868437227405312 = 4503599627370495 ||| 9223372036854775808 := by decide
  have e1 : n &&& 4503599627370495 = n % 4503599627370496 := Nat.and_two_pow_sub_one_eq_mod n 52
  have e2 : n &&& 9223372036854775808 = if sgn double n then 9223372036854775808 else 0 := by
    unfold sgn; rw [sw64]; exact and_two_pow_one n 63
  have e3 : rung double n % 4503599627370496 = n % 4503599627370496 := by
    unfold rung; rw [sw64]; exact Nat.mod_mod_of_dvd n (by decide)
  have hl : n % 4503599627370496 < 4503599627370496 := Nat.mod_lt _ (by omega)
  rw [e0, Nat.and_or_distrib_left, e1, e2, ← word_or (sgn double n) (x := n % 4503599627370496) (by omega)] at h
  rw [e3]; exact h
theorem u64_expo (s : Bool) (f k : Nat) (hf : f < 4503599627370496) (hk : k < 2048) : bits .or .u64 ((double.word s f : Nat) : Int) ((k : Int) * 4503599627370496) = ((double.word s (k * 4503599627370496 + f) : Nat) : Int) := by
  have hw : double.word s f < 18446744073709551616 := by
    have h := word_lt (f := double) s (r := f) (by rw [sw64]; omega)
    exact h
  have h := u64_or_nat (double.word s f) (k * 4503599627370496) hw (by omega)
  have hc : ((k * 4503599627370496 : Nat) : Int) = (k : Int) * 4503599627370496 := by omega
  rw [hc] at h
  rw [h]
  congr 1
  rw [word_or s (x := f) (by omega), word_or s (x := k * 4503599627370496 + f) (by omega)]
  have e : k * 4503599627370496 + f = k * 4503599627370496 ||| f := by
    have := Nat.two_pow_add_eq_or_of_lt (b := f) (i := 52) hf k
    rw [Nat.mul_comm] at this
    exact this
  rw [e, Nat.or_comm (k * 4503599627370496) f, Nat.or_assoc, Nat.or_assoc]
  congr 1
  exact Nat.or_comm _ _
def w52 : Nat := 4841369599423283200
def wm53 : Nat := 4368491638549381120
def nrmW (x : Nat) : Nat := if rung double x < 4503599627370496 then fmul x w52 else x
def nrmE (x : Nat) : Int := if rung double x < 4503599627370496 then -52 else 0
def fld (x : Nat) : Nat := rung double (nrmW x) / 4503599627370496
def frc (x : Nat) : Nat := rung double (nrmW x) % 4503599627370496
def expo (x : Nat) : Int := nrmE x + fld x
/-- Ldexp of a number that is no nought: its exponent's field comes to k. -/
def ldN (x : Nat) (k : Int) : Nat :=
  if k < -52 then double.word (sgn double (nrmW x)) 0
  else if k ≤ 0 then fmul wm53 (double.word (sgn double (nrmW x)) ((k + 53).toNat * 4503599627370496 + frc x))
  else double.word (sgn double (nrmW x)) (k.toNat * 4503599627370496 + frc x)
def ldW (x : Nat) (j : Int) : Nat := if rung double x = 0 then x else ldN x (j + expo x)
theorem onep : 0 < one_ double := by decide +kernel
theorem val_w52 : val double (rung double w52) = 4503599627370496 * one_ double := by decide +kernel
theorem val_104 : val double (53 * 4503599627370496) = 4503599627370496 * 4503599627370496 := by decide +kernel
theorem val_52 : val double 4503599627370496 = 4503599627370496 := by decide +kernel
theorem fin_w52 : fin double w52 := by unfold fin; decide +kernel
theorem sgn_w52 : sgn double w52 = false := by decide +kernel
/-- A small number, brought up. -/
theorem nrm_small {x : Nat} (h0 : rung double x ≠ 0) (h : rung double x < 4503599627370496) :
    ∃ r, nrmW x = double.word (sgn double x) r ∧ 4503599627370496 ≤ r ∧ r ≤ 53 * 4503599627370496 ∧ Rne double (rung double x * (4503599627370496 * one_ double)) (one_ double) r := by
  have hf : fin double x := by unfold fin; rw [show double.infRung = 9218868437227405312 by decide]; omega
  obtain ⟨r, h1, h2⟩ := mul_sval hf fin_w52
  have hv : val double (rung double x) = rung double x := val_small (by rw [binade64]; exact h)
  rw [abs_sval, abs_sval, hv, val_w52] at h2
  have hone : 0 < one_ double := onep
  have a1 : 4503599627370496 ≤ r := le_rne hone h2 (by rw [val_52, ← Nat.mul_assoc]; exact Nat.mul_le_mul_right _ (Nat.le_mul_of_pos_left _ (by omega)))
  have a2 : r ≤ 53 * 4503599627370496 := rne_le hone h2 (by rw [val_104, ← Nat.mul_assoc]; exact Nat.mul_le_mul_right _ (Nat.mul_le_mul_right _ (by omega)))
  refine ⟨r, ?_, a1, a2, h2⟩
  unfold nrmW
  rw [if_pos h, h1, sgn_w52, Bool.xor_false, Nat.min_eq_left (by rw [show double.infRung = 9218868437227405312 by decide]; omega)]
theorem nrm_facts {x : Nat} (lx : x < 18446744073709551616) (fx : fin double x) (h0 : rung double x ≠ 0) :
    nrmW x < 18446744073709551616 ∧ fin double (nrmW x) ∧ 4503599627370496 ≤ rung double (nrmW x) ∧ sgn double (nrmW x) = sgn double x := by
  by_cases h : rung double x < 4503599627370496
  · obtain ⟨r, e, a1, a2, -⟩ := nrm_small h0 h
    have hr : r < double.signWeight := by rw [sw64]; omega
    rw [e]
    refine ⟨word_lt (f := double) _ hr, fin_word _ (by rw [show double.infRung = 9218868437227405312 by decide]; omega), ?_, sgn_word _ hr⟩
    rw [rung_word _ hr]; exact a1
  · have e : nrmW x = x := by unfold nrmW; rw [if_neg h]
    rw [e]; exact ⟨lx, fx, by omega, rfl⟩
theorem fld_bounds {x : Nat} (lx : x < 18446744073709551616) (fx : fin double x) (h0 : rung double x ≠ 0) : 1 ≤ fld x ∧ fld x ≤ 2046 ∧ frc x < 4503599627370496 ∧ rung double (nrmW x) = fld x * 4503599627370496 + frc x := by
  obtain ⟨-, f1, f2, -⟩ := nrm_facts lx fx h0
  unfold fin at f1
  rw [show double.infRung = 9218868437227405312 by decide] at f1
  unfold fld frc
  refine ⟨by omega, by omega, by omega, by omega⟩
theorem rung_fneg' {x : Nat} (lx : x < 18446744073709551616) (fx : fin double x) : rung double (fneg x) = rung double x :=
  rung_fneg lx (by unfold fin at fx; exact decide_eq_false (by omega))
theorem nrm_neg {x : Nat} (lx : x < 18446744073709551616) (fx : fin double x) : nrmW (fneg x) = fneg (nrmW x) := by
  unfold nrmW
  rw [rung_fneg' lx fx]
  split
  · exact fmul_neg_l lx w52
  · rfl
theorem expo_neg {x : Nat} (lx : x < 18446744073709551616) (fx : fin double x) (h0 : rung double x ≠ 0) : expo (fneg x) = expo x ∧ frc (fneg x) = frc x := by
  obtain ⟨l1, f1, -, -⟩ := nrm_facts lx fx h0
  unfold expo frc fld nrmE
  rw [nrm_neg lx fx, rung_fneg' lx fx, rung_fneg' l1 f1]
  exact ⟨rfl, rfl⟩
theorem fneg_word (s : Bool) {r : Nat} (h : r < double.infRung) : fneg (double.word s r) = double.word (!s) r := by
  have hl := infRung_lt double
  have hn : isNaN double (double.word s r) = false := by unfold isNaN; rw [rung_word s (by omega)]; exact decide_eq_false (by omega)
  have hw := word_lt (f := double) s (r := r) (by omega)
  have e : fneg (double.word s r) = flip double (double.word s r) := fneg_of_not hn
  rw [e, flip_eq hw, sgn_word s (by omega), rung_word s (by omega)]
theorem ldN_neg {x : Nat} (lx : x < 18446744073709551616) (fx : fin double x) (h0 : rung double x ≠ 0) {k : Int} (hk : k ≤ 2046) : ldN (fneg x) k = fneg (ldN x k) := by
  obtain ⟨l1, f1, n1, s1⟩ := nrm_facts lx fx h0
  obtain ⟨b1, b2, b3, b4⟩ := fld_bounds lx fx h0
  have hs : sgn double (fneg (nrmW x)) = !sgn double (nrmW x) := by
    have hn : isNaN double (nrmW x) = false := by unfold fin at f1; exact decide_eq_false (by omega)
    rw [show fneg (nrmW x) = flip double (nrmW x) from fneg_of_not hn, flip_eq l1, sgn_word _ (by unfold fin at f1; have := infRung_lt double; omega)]
  have hi : double.infRung = 9218868437227405312 := by decide
  unfold ldN
  rw [nrm_neg lx fx, (expo_neg lx fx h0).2, hs]
  split
  · exact (fneg_word _ (by rw [hi]; omega)).symm
  · split
    · rw [← fneg_word _ (by rw [hi]; omega)]
      exact fmul_neg_r _ (word_lt (f := double) _ (by rw [sw64]; omega))
    · exact (fneg_word _ (by rw [hi]; omega)).symm
theorem fin_wm53 : fin double wm53 := by unfold fin; decide +kernel
theorem sgn_wm53 : sgn double wm53 = false := by decide +kernel
theorem val_wm53 : val double (rung double wm53) ≤ one_ double := by decide +kernel
/-- What Ldexp comes to is finite; its size. -/
theorem ldN_fin {x : Nat} (lx : x < 18446744073709551616) (fx : fin double x) (h0 : rung double x ≠ 0) {k : Int} (hk : k ≤ 2046) :
    ldN x k < 18446744073709551616 ∧ fin double (ldN x k) ∧ (k ≤ 1023 → rung double (ldN x k) < 4611686018427387904) ∧ (k = 1023 → 4607182418800017408 ≤ rung double (ldN x k)) := by
  obtain ⟨b1, b2, b3, b4⟩ := fld_bounds lx fx h0
  have hi : double.infRung = 9218868437227405312 := by decide
  unfold ldN
  split
  · refine ⟨word_lt (f := double) _ (by rw [sw64]; omega), fin_word _ (by rw [hi]; omega), fun _ => ?_, fun _ => by omega⟩
    rw [rung_word _ (by rw [sw64]; omega)]; omega
  · split
    · obtain ⟨y, hy⟩ : ∃ y, y = (k + 53).toNat * 4503599627370496 + frc x := ⟨_, rfl⟩
      rw [← hy]
      have hyl : y < 54 * 4503599627370496 := by omega
      have hfy : fin double (double.word (sgn double (nrmW x)) y) := fin_word _ (by rw [hi]; omega)
      obtain ⟨r, h1, h2⟩ := mul_sval fin_wm53 hfy
      rw [abs_sval, abs_sval, rung_word _ (by rw [sw64]; omega)] at h2
      have hr : r ≤ y := rne_le onep h2 (by rw [Nat.mul_comm]; exact Nat.mul_le_mul_left _ val_wm53)
      have hm : min r double.infRung = r := Nat.min_eq_left (by rw [hi]; omega)
      rw [h1, hm]
      refine ⟨word_lt (f := double) _ (by rw [sw64]; omega), fin_word _ (by rw [hi]; omega), fun _ => ?_, fun _ => by omega⟩
      rw [rung_word _ (by rw [sw64]; omega)]; omega
    · refine ⟨word_lt (f := double) _ (by rw [sw64]; omega), fin_word _ (by rw [hi]; omega), fun _ => ?_, fun _ => ?_⟩
      · rw [rung_word _ (by rw [sw64]; omega)]; omega
      · rw [rung_word _ (by rw [sw64]; omega)]; omega
theorem ldW_neg {x : Nat} (lx : x < 18446744073709551616) (fx : fin double x) (j : Int) (hj : rung double x ≠ 0 → j + expo x ≤ 2046) : ldW (fneg x) j = fneg (ldW x j) := by
  unfold ldW
  rw [rung_fneg' lx fx]
  split
  · rfl
  · rename_i h0
    rw [(expo_neg lx fx h0).1]
    exact ldN_neg lx fx h0 (hj h0)
/-- What a word's exponent hangs on: its size alone. -/
theorem expo_rung {x : Nat} (lx : x < 18446744073709551616) (fx : fin double x) (h0 : rung double x ≠ 0) : expo (rung double x) = expo x := by
  have hx := word_split (f := double) (x := x) lx
  have hl := infRung_lt double
  have hr : rung double x < double.signWeight := by unfold fin at fx; omega
  have e0 : double.word false (rung double x) = rung double x := by unfold Format.word; simp
  cases hs : sgn double x with
  | false => rw [hs] at hx; rw [e0] at hx; rw [← hx]
  | true =>
    rw [hs] at hx
    have e1 : x = fneg (rung double x) := by
      have h := fneg_word false (r := rung double x) fx
      rw [e0] at h
      rw [h]; exact hx
    have lr : rung double x < 18446744073709551616 := by rw [sw64] at hr; omega
    have rr : rung double (rung double x) = rung double x := by
      have := rung_word (f := double) false hr
      rwa [e0] at this
    have fr : fin double (rung double x) := by unfold fin; rw [rr]; exact fx
    have h := (expo_neg lr fr (by rw [rr]; exact h0)).1
    rw [← e1] at h
    exact h.symm
theorem expo_mono {x y : Nat} (h0 : rung double x ≠ 0) (h : rung double x ≤ rung double y) : expo x ≤ expo y := by
  have hy0 : rung double y ≠ 0 := by omega
  by_cases h1 : rung double y < 4503599627370496
  · have h2 : rung double x < 4503599627370496 := by omega
    obtain ⟨r, e, a1, a2, a3⟩ := nrm_small h0 h2
    obtain ⟨s, e', c1, c2, c3⟩ := nrm_small hy0 h1
    have hrs : r ≤ s := a3.mono onep onep (Nat.mul_le_mul_right _ (Nat.mul_le_mul_right _ h)) c3
    unfold expo fld nrmE
    rw [e, e', if_pos h1, if_pos h2, rung_word _ (by rw [sw64]; omega), rung_word _ (by rw [sw64]; omega)]
    omega
  · by_cases h2 : rung double x < 4503599627370496
    · obtain ⟨r, e, a1, a2, a3⟩ := nrm_small h0 h2
      have hy : nrmW y = y := by unfold nrmW; rw [if_neg h1]
      unfold expo fld nrmE
      rw [e, hy, if_neg h1, if_pos h2, rung_word _ (by rw [sw64]; omega)]
      omega
    · have hx : nrmW x = x := by unfold nrmW; rw [if_neg h2]
      have hy : nrmW y = y := by unfold nrmW; rw [if_neg h1]
      unfold expo fld nrmE
      rw [hx, hy, if_neg h1, if_neg h2]
      omega
theorem expo_bounds {x : Nat} (lx : x < 18446744073709551616) (fx : fin double x) (h0 : rung double x ≠ 0) : -51 ≤ expo x ∧ expo x ≤ 2046 := by
  obtain ⟨b1, b2, -, -⟩ := fld_bounds lx fx h0
  unfold expo nrmE
  split <;> omega
end Fl
namespace Go.Proofs.YtandllekeimpgaaGreat
open Go.RowKit Fl Ieee
set_option maxRecDepth 20000
attribute [local go_sem] Fl.order_self Fl.order_self' Fl.order_eq Fl.order_ne Fl.order_lt Fl.order_gt Fl.fle_fold Fl.fge_fold
theorem cn_onlyX {x m : Nat} (h : Fl.cn .f64 x = m) (hm : isNaN double m = false) : x = m := by
  have hx : isNaN double x = false := (isNaN_cn .f64 x).symm.trans (by rw [h]; exact hm)
  rw [← h, cn_of_not (k := .f64) hx]
theorem w52_f : cn .f64 4841369599423283200 = w52 := by decide
/-- What is asked of a word: it is finite and no nought. -/
structure Some0 (x : Nat) : Prop where
  lt : x < 18446744073709551616
  fn : fin double x
  nz : rung double x ≠ 0
theorem Some0.facts {x : Nat} (h : Some0 x) : feq .f64 x 0 = false ∧ isInf double x = false ∧ isNaN FloatKind.f64.format x = false := by
  have hn : isNaN double x = false := decide_eq_false (by have := h.fn; unfold fin at this; omega)
  refine ⟨?_, ?_, hn⟩
  · rw [feq_zero]
    simp only [Bool.and_eq_false_iff]
    exact .inr (decide_eq_false h.nz)
  · unfold isInf
    exact decide_eq_false (by have := h.fn; unfold fin at this; omega)
def RetNrm (x : Nat) (w : World) (e : Ending) (w' : World) : Prop := ∃ d, e = .returned (.tuple #[.float .f64 (nrmW x), .int .i64 (nrmE x)]) ∧ w' = w.drewN d
theorem normalize_any (x : Nat) (h : Some0 x) (w : World) : Calls Tryz.prog 91 #[.float .f64 x] w (RetNrm x w) := by
  have lx := h.lt
  have hi : double.infRung = 9218868437227405312 := by decide
  have hc : flt .f64 (rung double x) 4503599627370496 = decide (rung double x < 4503599627370496) := flt_rungs (by have := h.fn; unfold fin at this; omega) (by rw [hi]; omega)
  have hxn : cn .f64 x = x := cn_of_not (k := .f64) h.facts.2.2
  have HNf := Lib.hid (nrm_facts lx h.fn h.nz)
  by_cases hs : rung double x < 4503599627370496
  · rw [decide_eq_true hs] at hc
    have HW := Lib.hid (show nrmW x = fmul x w52 by unfold nrmW; rw [if_pos hs])
    have HE := Lib.hid (show nrmE x = -52 by unfold nrmE; rw [if_pos hs])
    have HX := Lib.hid hxn
    clear h hi hs hxn
    go_enter Tryz.func91, Tryz.ntmps91
    go_wp2_with (go_at_call 108; refine (mAbs_c _ (by assumption) _).mono ?_; rintro e w' ⟨rfl, rfl⟩)
    refine upon_mul _ _ _ _ ?_
    intro r n hr
    have hrv : r = nrmW x := by
      have h1 : cn .f64 r = nrmW x := by rw [HW.out, hr.1, HX.out, w52_f]
      exact cn_onlyX h1 (decide_eq_false (by have := HNf.out.2.1; unfold fin at this; omega))
    subst hrv
    go_wp2
    go_ret2
    refine ⟨n, ?_, rfl⟩
    rw [HE.out]; rfl
  · rw [decide_eq_false hs] at hc
    have HW := Lib.hid (show nrmW x = x by unfold nrmW; rw [if_neg hs])
    have HE := Lib.hid (show nrmE x = 0 by unfold nrmE; rw [if_neg hs])
    clear h hi hs hxn
    go_enter Tryz.func91, Tryz.ntmps91
    go_wp2_with (go_at_call 108; refine (mAbs_c _ (by assumption) _).mono ?_; rintro e w' ⟨rfl, rfl⟩)
    go_ret2
    refine ⟨0, ?_, rfl⟩
    rw [HW.out, HE.out]; rfl
/-- Of a nought. -/
theorem ldexp_z (x : Nat) (j : Int) (lx : x < 18446744073709551616) (f0 : feq .f64 x 0 = true) (w : World) : Calls Tryz.prog 52 #[.float .f64 x, .int .i64 j] w (RetR (cn .f64 x) w) := by
  go_enter Tryz.func52, Tryz.ntmps52
  go_wp2
  go_ret
  exact closeR0 rfl lx
theorem Ldexp_z (x : Nat) (j : Int) (lx : x < 18446744073709551616) (f0 : feq .f64 x 0 = true) (w : World) : Calls Tryz.prog 24 #[.float .f64 x, .int .i64 j] w (RetR (cn .f64 x) w) := by
  have HF := Lib.hid (ldexp_z x j lx f0)
  clear f0 lx
  go_enter Tryz.func24, Tryz.ntmps24
  go_wp2_with (go_at_call 52; refine (HF.out _).mono ?_; rintro e w' ⟨x, n, rfl, g, b, rfl⟩)
  go_ret
  exact closeR g b
theorem ldexp_any (x : Nat) (j : Int) (h : Some0 x) (hk : j + expo x ≤ 2046) (hj : -20000 ≤ j) (w : World) :
    Calls Tryz.prog 52 #[.float .f64 x, .int .i64 j] w (RetR (ldN x (j + expo x)) w) := by
  have lx := h.lt
  obtain ⟨f0, f1, f2⟩ := h.facts
  have hx := x_f64frombits
  have hb := x_f64bits
  have HN := Lib.hid (normalize_any x h)
  obtain ⟨l1, -, -, -⟩ := nrm_facts h.lt h.fn h.nz
  obtain ⟨b1, b2, b5, b6⟩ := fld_bounds h.lt h.fn h.nz
  obtain ⟨n, hn⟩ : ∃ n, n = nrmW x := ⟨_, rfl⟩
  obtain ⟨m, hm⟩ : ∃ m, m = fld x := ⟨_, rfl⟩
  obtain ⟨E, hE⟩ : ∃ E, E = nrmE x := ⟨_, rfl⟩
  have hE0 : -52 ≤ E := by rw [hE]; unfold nrmE; split <;> omega
  have hE1 : E ≤ 0 := by rw [hE]; unfold nrmE; split <;> omega
  have hX : expo x = E + m := by rw [hE, hm]; rfl
  obtain ⟨K, hK⟩ : ∃ K, K = j + expo x := ⟨_, rfl⟩
  have HKe := Lib.hid hK
  have b3 := i64_and_2047 n (by rw [hn]; exact l1)
  rw [show rung double n / 4503599627370496 = m by rw [hn, hm]; rfl] at b3
  have b4 := u64_keep n (by rw [hn]; exact l1)
  obtain ⟨f, hf⟩ : ∃ f, f = frc x := ⟨_, rfl⟩
  obtain ⟨s, hs⟩ : ∃ s, s = sgn double n := ⟨_, rfl⟩
  rw [show rung double n % 4503599627370496 = f by rw [hn, hf]; rfl, ← hs] at b4
  obtain ⟨y0, hy0⟩ : ∃ y0, y0 = double.word s f := ⟨_, rfl⟩
  rw [← hy0] at b4
  have HNr := Lib.hid (fun V => (HN.out V).mono fun e w' h => (show ∃ d, e = .returned (.tuple #[.float .f64 n, .int .i64 E]) ∧ w' = V.drewN d from by rw [hn, hE]; exact h))
  have hmi : (m : Int) ≤ 2046 := by omega
  have hm1 : 1 ≤ (m : Int) := by omega
  have ej : j = K - m - E := by omega
  have hkl : -22000 ≤ K := by omega
  have hku : K ≤ 2046 := by omega
  have ln : n < 18446744073709551616 := by rw [hn]; exact l1
  have HL := Lib.hid ln
  have HV := Lib.hid (show ldN x K = if K < -52 then double.word s 0 else if K ≤ 0 then fmul wm53 (double.word s ((K + 53).toNat * 4503599627370496 + f)) else double.word s (K.toNat * 4503599627370496 + f) by
    rw [hs, hn, hf]; rfl)
  have HFl := Lib.hid (show f < 4503599627370496 by rw [hf]; exact b5)
  have HY := Lib.hid hy0
  have HSn := Lib.hid hs
  rw [← hK]
  clear h HN l1 b1 b2 b5 b6 hn hm hE hf hs hy0 hX hK hk hj
  subst ej
  have e1 : K - (m : Int) - E + E = K - m := by omega
  have e2 : K - (m : Int) + ((m : Int) - 1023) = K - 1023 := by omega
  have hi : double.infRung = 9218868437227405312 := by decide
  by_cases h1 : K < -52
  · have HVV := Lib.hid (show ldN x K = double.word s 0 by rw [HV.out, if_pos h1])
    have hd : K - 1023 < -1075 := by omega
    clear HV
    go_enter Tryz.func52, Tryz.ntmps52
    go_wp2_with (first
      | (go_at_call 89; refine (mIsInf_c _ (by assumption) _).mono ?_; rintro e w' ⟨rfl, rfl⟩)
      | (go_at_call 91; refine (HNr.out _).mono ?_; rintro e w' ⟨d, rfl, rfl⟩)
      | (go_at_call 93; refine (mCopysign_c _ _ (by decide) HL.out _).mono ?_; rintro e w' ⟨rfl, rfl⟩)
      | go_in)
    go_ret
    refine closeR ?_ (show double.word (sgn double n) (rung double 0) < 18446744073709551616 by cases (sgn double n) <;> decide +kernel)
    rw [HVV.out, ← HSn.out]
    cases s <;> decide +kernel
  · by_cases h2 : K ≤ 0
    · obtain ⟨kk, hkk⟩ : ∃ kk : Nat, kk = (K + 53).toNat := ⟨_, rfl⟩
      have hki : (kk : Int) = K + 53 := by omega
      have hk3 : kk ≤ 53 := by omega
      have b5 := u64_expo s f kk HFl.out (by omega)
      obtain ⟨y, hy⟩ : ∃ y, y = double.word s (kk * 4503599627370496 + f) := ⟨_, rfl⟩
      rw [← HY.out, ← hy, hki] at b5
      have hyn : cn .f64 y = y := cn_of_not (k := .f64) (show isNaN double y = false by rw [hy]; have := HFl.out; unfold isNaN; rw [rung_word s (by rw [sw64]; omega)]; exact decide_eq_false (by rw [hi]; omega))
      have HYy := Lib.hid hyn
      have HVV := Lib.hid (show ldN x K = fmul wm53 y by rw [HV.out, if_neg h1, if_pos h2, hy, hkk])
      have hd1 : ¬ K - 1023 < -1075 := by omega
      have hd2 : ¬ K - 1023 > 1023 := by omega
      have hd3 : K - 1023 < -1022 := by omega
      have e3 : K - 1023 + 53 = (kk : Int) - 1023 := by omega
      clear HV hkk hy hyn
      go_enter Tryz.func52, Tryz.ntmps52
      go_wp2_with (first
        | (go_at_call 89; refine (mIsInf_c _ (by assumption) _).mono ?_; rintro e w' ⟨rfl, rfl⟩)
        | (go_at_call 91; refine (HNr.out _).mono ?_; rintro e w' ⟨d, rfl, rfl⟩)
        | go_in)
      refine upon_mul _ _ _ _ ?_
      intro r nn hr
      go_wp2
      go_ret
      refine closeR ?_ hr.2
      rw [HVV.out, hr.1, HYy.out]
      rfl
    · obtain ⟨kk, hkk⟩ : ∃ kk : Nat, kk = K.toNat := ⟨_, rfl⟩
      have hki : K = (kk : Int) := by omega
      have hk3 : kk ≤ 2046 := by omega
      have b5 := u64_expo s f kk HFl.out (by omega)
      obtain ⟨y, hy⟩ : ∃ y, y = double.word s (kk * 4503599627370496 + f) := ⟨_, rfl⟩
      rw [← HY.out, ← hy] at b5
      have hyf : fin double y := by rw [hy]; exact fin_word s (by have := HFl.out; rw [hi]; omega)
      have hyl : y < 18446744073709551616 := by rw [hy]; exact word_lt (f := double) _ (by have := HFl.out; rw [sw64]; omega)
      have hyn : cn .f64 y = y := cn_of_not (k := .f64) (show isNaN double y = false by unfold fin at hyf; exact decide_eq_false (by omega))
      have HYf := Lib.hid hyf
      have HYl := Lib.hid hyl
      have HYy := Lib.hid hyn
      have HVV := Lib.hid (show ldN x K = y by rw [HV.out, if_neg h1, if_neg h2, hy, hkk])
      clear hyf hyl
      subst hki
      have hd1 : ¬ (kk : Int) - 1023 < -1075 := by omega
      have hd2 : ¬ (kk : Int) - 1023 > 1023 := by omega
      have hd3 : ¬ (kk : Int) - 1023 < -1022 := by omega
      clear HV hkk hy hyn
      go_enter Tryz.func52, Tryz.ntmps52
      go_wp2_with (first
        | (go_at_call 89; refine (mIsInf_c _ (by assumption) _).mono ?_; rintro e w' ⟨rfl, rfl⟩)
        | (go_at_call 91; refine (HNr.out _).mono ?_; rintro e w' ⟨d, rfl, rfl⟩)
        | go_in)
      refine upon_mul _ _ _ _ ?_
      intro r nn hr
      go_wp2
      go_ret
      refine closeR ?_ hr.2
      rw [HVV.out, hr.1, HYy.out]
      show fmul fone y = y
      rw [fmul_comm, fmul_one HYl.out HYf.out]
theorem Ldexp_any (x : Nat) (j : Int) (lx : x < 18446744073709551616) (fx : fin double x) (hk : rung double x ≠ 0 → j + expo x ≤ 2046) (hj : -20000 ≤ j) (w : World) :
    Calls Tryz.prog 24 #[.float .f64 x, .int .i64 j] w (RetR (ldW x j) w) := by
  by_cases h0 : rung double x = 0
  · have hn : isNaN double x = false := decide_eq_false (by unfold fin at fx; omega)
    have hz : feq .f64 x 0 = true := by
      rw [feq_zero]
      show (!isNaN double x && decide (rung double x = 0)) = true
      rw [hn, decide_eq_true h0]; rfl
    have h := Ldexp_z x j lx hz w
    rw [cn_of_not (k := .f64) hn] at h
    have e : ldW x j = x := by unfold ldW; rw [if_pos h0]
    rw [e]; exact h
  · have e : ldW x j = ldN x (j + expo x) := by unfold ldW; rw [if_neg h0]
    rw [e]
    have HF := Lib.hid (ldexp_any x j ⟨lx, fx, h0⟩ (hk h0) hj)
    clear h0 hk hj fx e
    go_enter Tryz.func24, Tryz.ntmps24
    go_wp2_with (go_at_call 52; refine (HF.out _).mono ?_; rintro e w' ⟨x, n, rfl, g, b, rfl⟩)
    go_ret
    exact closeR g b
end Go.Proofs.YtandllekeimpgaaGreat
