/- Layer 1: the order of places, as plain laws. -/
import Derived.Test.YtbajeonhiaaclaaR01N
namespace Go.Proofs.Ytbajeonhiaaclaa
open Go.RowKit Fl Ieee
theorem isInf_key {x : Nat} (hn : isNaN double x = false) : isInf double x = (decide (plc x = 9218868437227405312) || decide (plc x = -9218868437227405312)) := by
  have hr : rung double x ≤ 9218868437227405312 := by simpa [isNaN, inf_double] using hn
  have e : plc x = if sgn double x then -(rung double x : Int) else (rung double x : Int) := by unfold plc; rw [hn]; simp [key]
  have i : isInf double x = decide (rung double x = 9218868437227405312) := by unfold isInf; rw [inf_double]
  rw [e, i, Bool.eq_iff_iff]
  simp only [Bool.or_eq_true, decide_eq_true_eq]
  split <;> omega
theorem flt_plc {a b : Nat} (ha : isNaN double a = false) (hb : isNaN double b = false) : flt .f64 a b = decide (plc a < plc b) := by
  rw [flt_def]; unfold plc
  have e : FloatKind.f64.format = double := rfl
  rw [e, ha, hb]; simp
theorem feq_plc {a b : Nat} (ha : isNaN double a = false) (hb : isNaN double b = false) : feq .f64 a b = decide (plc a = plc b) := by
  rw [feq_def]; unfold plc
  have e : FloatKind.f64.format = double := rfl
  rw [e, ha, hb]; simp
theorem plc_nat {x : Nat} (hn : isNaN double x = false) : plc x = if sgn double x then -(rung double x : Int) else (rung double x : Int) := by
  unfold plc; rw [hn]; simp [key]
theorem plc_bounds {x : Nat} (hn : isNaN double x = false) : -9218868437227405312 ≤ plc x ∧ plc x ≤ 9218868437227405312 := by
  have h := key_bounds hn
  unfold plc; rw [hn]; exact h
theorem atOk_plc {x : Nat} (hn : isNaN double x = false) : atOk (plc x) = true := by
  have h := plc_bounds hn
  unfold atOk; simp; omega
theorem sgn_small {n : Nat} (h : n < 9223372036854775808) : sgn double n = false := by unfold sgn; rw [sw64]; simp; omega
theorem sgn_great {n : Nat} (h : 9223372036854775808 ≤ n) (h' : n < 18446744073709551616) : sgn double n = true := by unfold sgn; rw [sw64]; simp; omega
theorem atV_pos {p : Int} (h : atOk p = true) (hp : 0 ≤ p) : isNaN double (atV p) = false ∧ plc (atV p) = p := by
  have hb := h
  unfold atOk at hb; simp at hb
  have e : atV p = p.toNat := by unfold atV; rw [h]; simp; omega
  have hr : rung double p.toNat = p.toNat := by rw [rung_mod]; omega
  have hn : isNaN double p.toNat = false := by unfold isNaN; rw [hr, inf_double]; simp; omega
  rw [e]; refine ⟨hn, ?_⟩
  rw [plc_nat hn, sgn_small (by omega), hr]; simp; omega
theorem atV_neg {p : Int} (h : atOk p = true) (hp : p < 0) : isNaN double (atV p) = false ∧ plc (atV p) = p := by
  have hb := h
  unfold atOk at hb; simp at hb
  have e : atV p = 9223372036854775808 + (-p).toNat := by unfold atV; rw [h]; simp; omega
  have hr : rung double (9223372036854775808 + (-p).toNat) = (-p).toNat := by rw [rung_mod]; omega
  have hn : isNaN double (9223372036854775808 + (-p).toNat) = false := by unfold isNaN; rw [hr, inf_double]; simp; omega
  rw [e]; refine ⟨hn, ?_⟩
  rw [plc_nat hn, sgn_great (by omega) (by omega), hr]; simp; omega
theorem atV_ok {p : Int} (h : atOk p = true) : isNaN double (atV p) = false ∧ plc (atV p) = p := by
  by_cases hp : p < 0
  · exact atV_neg h hp
  · exact atV_pos h (by omega)
theorem atV_plc {x : Nat} (hx : x < 18446744073709551616) (hn : isNaN double x = false) : atV (plc x) = if rung double x = 0 then 0 else x := by
  have ho := atOk_plc hn
  have hw := double_word hx
  have hr : rung double x ≤ 9218868437227405312 := by simpa [isNaN, inf_double] using hn
  unfold atV; rw [ho, plc_nat hn]
  cases hs : sgn double x
  · rw [hs] at hw; simp at hw ⊢
    split <;> (try split) <;> omega
  · rw [hs] at hw; simp at hw ⊢
    split <;> (try split) <;> omega
theorem feq_atV {x : Nat} (hn : isNaN double x = false) : feq .f64 (atV (plc x)) x = true := by
  have h := atV_ok (atOk_plc hn)
  rw [feq_plc h.1 hn, h.2]; simp
/-- Up, of a number that is not the greatest. -/
theorem nx_up {x : Nat} (hn : isNaN double x = false) (h : plc x ≠ 9218868437227405312) : nx x true = atV (plc x + 1) ∧ isNaN double (nx x true) = false ∧ plc (nx x true) = plc x + 1 := by
  have hb := plc_bounds hn
  have e : nx x true = atV (plc x + 1) := by
    unfold plc at h ⊢; rw [hn] at h ⊢; simp at h ⊢
    unfold nx; rw [hn]; simp [h]
  have ho : atOk (plc x + 1) = true := by unfold atOk; simp; omega
  rw [e]; exact ⟨rfl, atV_ok ho⟩
theorem nx_down {x : Nat} (hn : isNaN double x = false) (h : plc x ≠ -9218868437227405312) : nx x false = atV (plc x - 1) ∧ isNaN double (nx x false) = false ∧ plc (nx x false) = plc x - 1 := by
  have hb := plc_bounds hn
  have e : nx x false = atV (plc x - 1) := by
    unfold plc at h ⊢; rw [hn] at h ⊢; simp at h ⊢
    unfold nx; rw [hn]; simp [h]
  have ho : atOk (plc x - 1) = true := by unfold atOk; simp; omega
  rw [e]; exact ⟨rfl, atV_ok ho⟩
/-- A step up and down, and what lies beside. -/
theorem nx_there {x : Nat} (hn : isNaN double x = false) (hi : isInf double x = false) :
    feq .f64 (nx (nx x true) false) x = true ∧ feq .f64 (nx (nx x false) true) x = true ∧ flt .f64 (nx x false) x = true ∧ flt .f64 x (nx x true) = true := by
  rw [isInf_key hn] at hi
  simp at hi
  have hb := plc_bounds hn
  have u := nx_up hn hi.1
  have d := nx_down hn hi.2
  have ud := nx_down u.2.1 (by rw [u.2.2]; omega)
  have du := nx_up d.2.1 (by rw [d.2.2]; omega)
  refine ⟨?_, ?_, ?_, ?_⟩
  · rw [feq_plc ud.2.1 hn, ud.2.2, u.2.2]; simp only [decide_eq_true_eq]; omega
  · rw [feq_plc du.2.1 hn, du.2.2, d.2.2]; simp only [decide_eq_true_eq]; omega
  · rw [flt_plc d.2.1 hn, d.2.2]; simp only [decide_eq_true_eq]; omega
  · rw [flt_plc hn u.2.1, u.2.2]; simp only [decide_eq_true_eq]; omega
end Go.Proofs.Ytbajeonhiaaclaa
