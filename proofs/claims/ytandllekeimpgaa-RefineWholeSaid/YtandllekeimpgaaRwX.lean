/- Whole numbers as ints: pure laws (out of WhX). -/
import Derived.Test.YtandllekeimpgaaLW3
namespace Fl
open Ieee Go
theorem zcut11 (s : Bool) (n d : Nat) : Toward.zero.cut s n d = n / 2 ^ d := by
  unfold Toward.cut
  simp only [Nat.shiftLeft_eq, Nat.one_mul, Bool.toNat_false, Nat.add_zero]
  by_cases h : d ≤ n.log2 + 2
  · rw [Nat.min_eq_left h]
  · rw [Nat.min_eq_right (by omega)]
    have h1 : n < 2 ^ (n.log2 + 1) := Nat.lt_log2_self
    rw [Nat.div_eq_of_lt (Nat.lt_of_lt_of_le h1 (Nat.pow_le_pow_right (by omega) (by omega))), Nat.div_eq_of_lt (Nat.lt_of_lt_of_le h1 (Nat.pow_le_pow_right (by omega) (by omega)))]
theorem ex_toInt11 {x : Nat} {a : Int} (h : Ex x a 1074) (hb : a.natAbs < 9007199254740992) : floatToIntVal .f64 x .i64 = some a := by
  obtain ⟨m, e, h1, h2, h3⟩ := read_fin h.2.1
  obtain ⟨K, hK, eU⟩ := one_pow
  have hd : FloatKind.f64.decode x = .number (Fl.sgn double x) m e := h1
  have hv : m * 2 ^ (e - -1074).toNat = a.natAbs * 2 ^ K := by
    rw [← least64, h3, ← abs_sval, h.2.2, Int.natAbs_mul, hK]; rfl
  rw [least64] at h2
  have hp := Nat.two_pow_pos K
  have hmag : Toward.zero.cut (Fl.sgn double x) (m <<< e.toNat) (-e).toNat = a.natAbs := by
    rw [zcut11, Nat.shiftLeft_eq]
    by_cases he : 0 ≤ e
    · have e1 : (-e).toNat = 0 := by omega
      have e2 : (e - -1074).toNat = e.toNat + K := by omega
      rw [e2, Nat.pow_add, ← Nat.mul_assoc] at hv
      rw [e1, Nat.pow_zero, Nat.div_one]
      exact Nat.eq_of_mul_eq_mul_right hp hv
    · obtain ⟨D, hD⟩ : ∃ D, D = (-e).toNat := ⟨_, rfl⟩
      have e1 : e.toNat = 0 := by omega
      have e2 : K = D + (K - D) := by omega
      have e3 : (e - -1074).toNat = K - D := by omega
      rw [e3] at hv
      have e4 : a.natAbs * 2 ^ K = a.natAbs * 2 ^ D * 2 ^ (K - D) := by rw [Nat.mul_assoc, ← Nat.pow_add, ← e2]
      rw [e4] at hv
      have e5 := Nat.eq_of_mul_eq_mul_right (Nat.two_pow_pos (K - D)) hv
      rw [← hD, e1, Nat.pow_zero, Nat.mul_one, e5]
      exact Nat.mul_div_cancel _ (Nat.two_pow_pos D)
  have ht : (Datum.number (Fl.sgn double x) m e).toInt .zero = some (signed (Fl.sgn double x) a.natAbs 0) := by
    show some (signed (Fl.sgn double x) (Toward.zero.cut (Fl.sgn double x) (m <<< e.toNat) (-e).toNat) 0) = _
    rw [hmag]
  have hs : signed (Fl.sgn double x) a.natAbs 0 = a := by
    rw [signed_eq]
    simp only [Nat.pow_zero, Nat.mul_one]
    by_cases h0 : a = 0
    · subst h0; simp
    · rw [sgn_of_ex h h0]
      by_cases hn : a < 0
      · rw [if_pos (decide_eq_true hn)]; omega
      · rw [if_neg (by simp; omega)]; omega
  unfold floatToIntVal
  rw [hd, ht, hs]
  have g1 : IntKind.i64.min ≤ a := by show (-9223372036854775808 : Int) ≤ a; omega
  have g2 : a ≤ IntKind.i64.max := by show a ≤ (9223372036854775807 : Int); omega
  simp only [g1, g2, and_self, if_true]
theorem ex_feq11 {x y : Nat} {a : Int} (h : Ex x a 1074) (h' : Ex y a 1074) : feq .f64 x y = true := by
  unfold feq
  rw [show FloatKind.f64.format = double from rfl, order_fin h.2.1 h'.2.1, h.2.2, h'.2.2]
  have e : compare (a * ((2 ^ 1074 : Nat) : Int)) (a * ((2 ^ 1074 : Nat) : Int)) = .eq := by
    generalize a * ((2 ^ 1074 : Nat) : Int) = t
    unfold compare instOrdInt
    simp [compareOfLessAndEq]
  rw [e]; rfl
end Fl
