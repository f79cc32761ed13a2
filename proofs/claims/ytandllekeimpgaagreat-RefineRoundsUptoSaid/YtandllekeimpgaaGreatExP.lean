/- Exact numbers of 72 limbs: the limbs of an integer, in two's complement. -/
import Derived.Test.YtandllekeimpgaaGreatFlA
namespace Fl
open Go
set_option maxRecDepth 20000
/-- Limb i of an integer. -/
def limb (z : Int) (i : Nat) : Int := z / (2 ^ (64 * i) : Nat) % 18446744073709551616
theorem limb_nonneg (z : Int) (i : Nat) : 0 ≤ limb z i := Int.emod_nonneg _ (by decide)
theorem limb_lt (z : Int) (i : Nat) : limb z i < 18446744073709551616 := Int.emod_lt_of_pos _ (by decide)
/-- What is carried into limb i. -/
def car (a b : Int) (i : Nat) : Int := (a % (2 ^ (64 * i) : Nat) + b % (2 ^ (64 * i) : Nat)) / (2 ^ (64 * i) : Nat)
theorem pw_pos (i : Nat) : (0 : Int) < (2 ^ (64 * i) : Nat) := by
  have := Nat.two_pow_pos (64 * i); omega
theorem car_zero (a b : Int) : car a b 0 = 0 := by
  unfold car
  simp [Int.emod_one]
theorem car_le (a b : Int) (i : Nat) : 0 ≤ car a b i ∧ car a b i ≤ 1 := by
  have hM := pw_pos i
  unfold car
  generalize ((2 ^ (64 * i) : Nat) : Int) = M at *
  have h1 := Int.emod_nonneg a (Int.ne_of_gt hM)
  have h2 := Int.emod_lt_of_pos a hM
  have h3 := Int.emod_nonneg b (Int.ne_of_gt hM)
  have h4 := Int.emod_lt_of_pos b hM
  constructor
  · exact Int.ediv_nonneg (by omega) (by omega)
  · have : (a % M + b % M) / M < 2 := Int.ediv_lt_of_lt_mul hM (by omega)
    omega
theorem pw_succ (i : Nat) : ((2 ^ (64 * (i + 1)) : Nat) : Int) = (2 ^ (64 * i) : Nat) * 18446744073709551616 := by
  rw [Nat.mul_add, Nat.pow_add, Int.natCast_mul]
  congr 1
theorem mod_split (a M B : Int) (hM : 0 < M) (hB : 0 < B) : a % (M * B) = a % M + M * (a / M % B) := by
  have h1 := Int.emod_add_mul_ediv a M
  have h2 := Int.emod_add_mul_ediv (a / M) B
  have e : a = (a % M + M * (a / M % B)) + M * B * (a / M / B) := by
    calc a = a % M + M * (a / M) := h1.symm
      _ = a % M + M * (a / M % B + B * (a / M / B)) := by rw [h2]
      _ = _ := by rw [Int.mul_add, Int.mul_assoc, Int.add_assoc]
  have l1 := Int.emod_nonneg a (Int.ne_of_gt hM)
  have l2 := Int.emod_lt_of_pos a hM
  have l3 := Int.emod_nonneg (a / M) (Int.ne_of_gt hB)
  have l4 := Int.emod_lt_of_pos (a / M) hB
  have b1 : 0 ≤ a % M + M * (a / M % B) := Int.add_nonneg l1 (Int.mul_nonneg (Int.le_of_lt hM) l3)
  have b2 : a % M + M * (a / M % B) < M * B := by
    have : M * (a / M % B) ≤ M * (B - 1) := Int.mul_le_mul_of_nonneg_left (by omega) (Int.le_of_lt hM)
    rw [Int.mul_sub, Int.mul_one] at this
    omega
  conv => lhs; rw [e]
  rw [Int.add_mul_emod_self_left]
  exact Int.emod_eq_of_lt b1 b2
theorem add_ediv (a b M : Int) (hM : 0 < M) : (a + b) / M = a / M + b / M + (a % M + b % M) / M := by
  have h1 := Int.emod_add_mul_ediv a M
  have h2 := Int.emod_add_mul_ediv b M
  have e : a + b = (a % M + b % M) + M * (a / M + b / M) := by
    rw [Int.mul_add]; omega
  conv => lhs; rw [e]
  rw [Int.add_mul_ediv_left _ _ (Int.ne_of_gt hM)]
  omega
/-- A sum's limb, and what is carried on. -/
theorem limb_add (a b : Int) (i : Nat) : limb (a + b) i = (limb a i + limb b i + car a b i) % 18446744073709551616 := by
  have hM := pw_pos i
  unfold limb car
  generalize ((2 ^ (64 * i) : Nat) : Int) = M at *
  rw [add_ediv a b M hM]
  omega
theorem car_succ (a b : Int) (i : Nat) : car a b (i + 1) = (limb a i + limb b i + car a b i) / 18446744073709551616 := by
  have hM := pw_pos i
  unfold limb car
  rw [pw_succ]
  generalize ((2 ^ (64 * i) : Nat) : Int) = M at *
  rw [mod_split a M _ hM (by decide), mod_split b M _ hM (by decide)]
  have e : a % M + M * (a / M % 18446744073709551616) + (b % M + M * (b / M % 18446744073709551616)) = (a % M + b % M) + M * (a / M % 18446744073709551616 + b / M % 18446744073709551616) := by
    rw [Int.mul_add]; omega
  rw [e, ← Int.ediv_ediv_of_nonneg (Int.le_of_lt hM), Int.add_mul_ediv_left _ _ (Int.ne_of_gt hM)]
  congr 1
  omega
/-- The limb of what is no bit of z. -/
theorem limb_not (z : Int) (i : Nat) : limb (-1 - z) i = 18446744073709551615 - limb z i := by
  have hM := pw_pos i
  unfold limb
  generalize ((2 ^ (64 * i) : Nat) : Int) = M at *
  have h1 := Int.emod_add_mul_ediv z M
  have l1 := Int.emod_nonneg z (Int.ne_of_gt hM)
  have l2 := Int.emod_lt_of_pos z hM
  have e : -1 - z = (M - 1 - z % M) + M * (-(z / M) - 1) := by
    rw [Int.mul_sub, Int.mul_neg, Int.mul_one]; omega
  have e2 : (-1 - z) / M = -(z / M) - 1 := by
    rw [e, Int.add_mul_ediv_left _ _ (Int.ne_of_gt hM), Int.ediv_eq_zero_of_lt (by omega) (by omega)]
    omega
  rw [e2]
  omega
/-- The limbs of an integer, as an array; those below k of another one. -/
def mixL (s a : Int) (k : Nat) : Array Value := Array.ofFn fun i : Fin 72 => .int .u64 (if i.val < k then limb s i.val else limb a i.val)
def lim (a : Int) : Array Value := mixL a a 0
theorem mixL_size (s a : Int) (k : Nat) : (mixL s a k).size = 72 := by simp [mixL]
theorem mixL_at {s a : Int} {k i : Nat} (h : i < 72) : (mixL s a k)[i]? = some (.int .u64 (if i < k then limb s i else limb a i)) := by
  simp [mixL, h]
theorem lim_at {a : Int} {i : Nat} (h : i < 72) : (lim a)[i]? = some (.int .u64 (limb a i)) := by
  unfold lim; rw [mixL_at h]; simp
theorem lim_size (a : Int) : (lim a).size = 72 := mixL_size _ _ _
theorem mixL_zero (s a : Int) : mixL s a 0 = lim a := by
  unfold lim mixL; simp
theorem mixL_end {s a : Int} {k : Nat} (h : 72 ≤ k) : mixL s a k = lim s := by
  unfold lim mixL
  congr 1
  funext i
  rw [if_pos (by omega), if_neg (by omega)]
theorem mixL_set {s a : Int} {k : Nat} (h : k < 72) : (mixL s a k).setIfInBounds k (.int .u64 (limb s k)) = mixL s a (k + 1) := by
  apply Array.ext_getElem?
  intro j
  rw [Array.getElem?_setIfInBounds, mixL_size]
  by_cases e : k = j
  · subst e
    rw [if_pos rfl, if_pos h, mixL_at h, if_pos (by omega)]
  · rw [if_neg e]
    by_cases hj : j < 72
    · rw [mixL_at hj, mixL_at hj]
      by_cases h2 : j < k
      · rw [if_pos h2, if_pos (by omega)]
      · rw [if_neg h2, if_neg (by omega)]
    · rw [Array.getElem?_eq_none (by rw [mixL_size]; omega), Array.getElem?_eq_none (by rw [mixL_size]; omega)]
theorem mixL_one (s a : Int) (k : Nat) : (mixL s a k).all (·.oneCell') = true := by
  rw [Array.all_eq_true]
  intro i hi
  rw [mixL_size] at hi
  have h := mixL_at (s := s) (a := a) (k := k) hi
  rw [Array.getElem?_eq_getElem (by rw [mixL_size]; exact hi)] at h
  rw [Option.some.inj h]
  rfl
end Fl
