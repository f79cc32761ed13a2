/- The sign bit of a word by '&', '|', '^', '&^', in the walk's form. -/
import Derived.Test.YtajdfbjjgjpicaaFlO
import Derived.Laws.BitsAllLaws
namespace Fl
open Ieee Go

theorem sw64 : double.signWeight = 9223372036854775808 := by decide
theorem sw32 : single.signWeight = 2147483648 := by decide
theorem and_two_pow_one (x i : Nat) : x &&& 2 ^ i = if x / 2 ^ i % 2 == 1 then 2 ^ i else 0 := by
  have h : x.testBit i = (x / 2 ^ i % 2 == 1) := by
    rw [Nat.testBit_eq_decide_div_mod_eq]; rw [Bool.eq_iff_iff]; simp
  apply Nat.eq_of_testBit_eq
  intro j
  rw [Nat.testBit_and, Nat.testBit_two_pow, ← h]
  by_cases e : i = j
  · subst e
    cases hx : x.testBit i <;> simp
  · cases hx : x.testBit i <;> simp [e]
theorem or_two_pow_of_lt {x i : Nat} (h : x < 2 ^ i) : x ||| 2 ^ i = 2 ^ i + x := by
  have := Nat.two_pow_add_eq_or_of_lt h 1
  rw [Nat.or_comm]; simpa using this.symm

theorem u64_clear (x : Nat) (hx : x < 18446744073709551616) : bits .andNot .u64 (x : Int) 9223372036854775808 = ((rung double x : Nat) : Int) := by
  have h := u64_andNot_nat x 9223372036854775808 hx (by omega)
  have e : x &&& (18446744073709551615 - 9223372036854775808) = rung double x := by
    have := Nat.and_two_pow_sub_one_eq_mod x 63
    unfold rung; rw [sw64]; exact this
  rw [e] at h; exact h
theorem u64_sign (x : Nat) (hx : x < 18446744073709551616) : bits .and .u64 (x : Int) 9223372036854775808 = ((if sgn double x then 9223372036854775808 else 0 : Nat) : Int) := by
  have h := u64_and_nat x 9223372036854775808 hx (by omega)
  have e := and_two_pow_one x 63
  have e2 : x &&& 9223372036854775808 = if sgn double x then 9223372036854775808 else 0 := by
    unfold sgn; rw [sw64]; exact e
  rw [e2] at h; exact h
theorem u64_flip (x : Nat) (hx : x < 18446744073709551616) : bits .xor .u64 (x : Int) 9223372036854775808 = ((flip double x : Nat) : Int) := by
  have h := u64_xor_nat x 9223372036854775808 hx (by omega)
  unfold flip; rw [sw64]; exact h
theorem u64_or_sign (x : Nat) (s : Bool) (hx : x < 9223372036854775808) :
    bits .or .u64 (x : Int) ((if s then 9223372036854775808 else 0 : Nat) : Int) = ((double.word s x : Nat) : Int) := by
  have h := u64_or_nat x (if s then 9223372036854775808 else 0) (by omega) (by split <;> omega)
  rw [h]
  unfold Format.word; rw [sw64]
  cases s
  · simp
  · have := or_two_pow_of_lt (x := x) (i := 63) hx
    simpa using congrArg (fun n : Nat => (n : Int)) this

theorem ofInt_u32 (a : Nat) (ha : a < 4294967296) : (BitVec.ofInt 32 (a : Int)).toNat = a := by
  rw [BitVec.ofInt_natCast, BitVec.toNat_ofNat]; exact Nat.mod_eq_of_lt (by omega)
theorem u32_andNot_nat (a b : Nat) (ha : a < 4294967296) (hb : b < 4294967296) : bits .andNot .u32 (a : Int) (b : Int) = ((a &&& (4294967295 - b) : Nat) : Int) := by
  have hx : a &&& (4294967295 - b) < 2 ^ 32 := Nat.and_lt_two_pow _ (by omega)
  show IntKind.u32.wrap ((BitVec.ofInt 32 (a : Int) &&& ~~~BitVec.ofInt 32 (b : Int)).toNat : Int) = _
  rw [BitVec.toNat_and, BitVec.toNat_not, ofInt_u32 a ha, ofInt_u32 b hb]
  show (((a &&& 2 ^ 32 - 1 - b : Nat) : Int) % 4294967296) = _
  have e : 2 ^ 32 - 1 - b = 4294967295 - b := by omega
  rw [e]; omega
theorem u32_clear (x : Nat) (hx : x < 4294967296) : bits .andNot .u32 (x : Int) 2147483648 = ((rung single x : Nat) : Int) := by
  have h := u32_andNot_nat x 2147483648 hx (by omega)
  have e : x &&& (4294967295 - 2147483648) = rung single x := by
    have := Nat.and_two_pow_sub_one_eq_mod x 31
    unfold rung; rw [sw32]; exact this
  rw [e] at h; exact h
theorem rung_rung (f : Format) (x : Nat) : rung f (rung f x) = rung f x := Nat.mod_eq_of_lt (rung_lt f x)
theorem sgn_rung (f : Format) (x : Nat) : sgn f (rung f x) = false := by
  unfold sgn; rw [Nat.div_eq_of_lt (rung_lt f x)]; rfl
theorem key_rung (f : Format) (x : Nat) : key f (rung f x) = rung f x := by
  unfold key; rw [sgn_rung, rung_rung]; rfl
theorem flt_max (x : Nat) : flt .f64 9218868437227405311 (rung double x) = isInf double x := by
  have h1 : isNaN double 9218868437227405311 = false := by decide
  have h2 : key double 9218868437227405311 = 9218868437227405311 := by decide
  have h3 : double.infRung = 9218868437227405312 := by decide
  have e := flt_def .f64 9218868437227405311 (rung double x)
  rw [e]
  show (!isNaN double 9218868437227405311 && !isNaN double (rung double x) && decide (key double 9218868437227405311 < key double (rung double x))) = isInf double x
  rw [h1, h2, key_rung]
  unfold isNaN isInf
  rw [rung_rung, h3, Bool.eq_iff_iff]
  simp; omega
theorem key_zero (f : Format) : key f 0 = 0 := by
  have h1 : rung f 0 = 0 := Nat.zero_mod _
  have h2 : sgn f 0 = false := by unfold sgn; simp
  unfold key; rw [h1, h2]; rfl
theorem isNaN_zero (k : FloatKind) : isNaN k.format 0 = false := by cases k <;> decide
theorem feq_zero (k : FloatKind) (x : Nat) : feq k x 0 = (!isNaN k.format x && decide (rung k.format x = 0)) := by
  rw [feq_def, isNaN_zero, key_zero]
  unfold key
  cases isNaN k.format x <;> simp
  cases sgn k.format x <;> simp
theorem flt_zero_l (k : FloatKind) (x : Nat) : flt k 0 x = (!isNaN k.format x && !sgn k.format x && decide (rung k.format x ≠ 0)) := by
  rw [flt_def, isNaN_zero, key_zero]
  unfold key
  cases isNaN k.format x <;> cases sgn k.format x <;> simp
  · rw [Bool.eq_iff_iff]; simp; omega
theorem flt_zero_r (k : FloatKind) (x : Nat) : flt k x 0 = (!isNaN k.format x && sgn k.format x && decide (rung k.format x ≠ 0)) := by
  rw [flt_def, isNaN_zero, key_zero]
  unfold key
  cases isNaN k.format x <;> cases sgn k.format x <;> simp
  · rw [Bool.eq_iff_iff]; simp; omega
/-- The sign bit turned, of a float. -/
theorem negFloat_flip (x : Nat) : Op.negFloat .f64 x = flip double x := rfl
theorem negFloat_flip32 (x : Nat) : Op.negFloat .f32 x = flip single x := rfl
end Fl
