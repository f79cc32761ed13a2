/- The limbs of a number of 128 bits that is shifted (pure). -/
import Derived.Test.YtandllekeimpgaaGreatExP
namespace Fl
open Go
theorem limb_nat (v j : Nat) : limb (v : Int) j = ((v / 2 ^ (64 * j) % 18446744073709551616 : Nat) : Int) := by
  unfold limb
  rw [← Int.natCast_ediv]
  omega
theorem shl_low {v k n j : Nat} (h : j < k) : v * 2 ^ (64 * k + n) / 2 ^ (64 * j) % 18446744073709551616 = 0 := by
  obtain ⟨d, rfl⟩ : ∃ d, k = j + 1 + d := ⟨k - j - 1, by omega⟩
  have e : v * 2 ^ (64 * (j + 1 + d) + n) = v * 2 ^ (64 * d + n) * 18446744073709551616 * 2 ^ (64 * j) := by
    rw [show (18446744073709551616 : Nat) = 2 ^ 64 by decide, Nat.mul_assoc, Nat.mul_assoc, ← Nat.pow_add, ← Nat.pow_add]
    congr 2; omega
  rw [e, Nat.mul_div_cancel _ (Nat.two_pow_pos _)]
  omega
theorem shl_high (v k n d : Nat) : v * 2 ^ (64 * k + n) / 2 ^ (64 * (k + d)) = v * 2 ^ n / 2 ^ (64 * d) := by
  have e1 : v * 2 ^ (64 * k + n) = 2 ^ (64 * k) * (v * 2 ^ n) := by rw [Nat.pow_add]; ac_rfl
  have e2 : 2 ^ (64 * (k + d)) = 2 ^ (64 * k) * 2 ^ (64 * d) := by rw [← Nat.pow_add]; congr 1; omega
  rw [e1, e2, Nat.mul_div_mul_left _ _ (Nat.two_pow_pos _)]
theorem split64 {n : Nat} (h : n < 64) : 2 ^ (64 - n) * 2 ^ n = 18446744073709551616 := by
  rw [← Nat.pow_add, show 64 - n + n = 64 by omega]
theorem shr_eq {lo n : Nat} (h : n < 64) : lo / 2 ^ (64 - n) = lo * 2 ^ n / 18446744073709551616 := by
  rw [← split64 h, Nat.mul_div_mul_right _ _ (Nat.two_pow_pos _)]
theorem or_shl {hi lo n : Nat} (h : n < 64) (hl : lo < 18446744073709551616) : (hi * 2 ^ n % 18446744073709551616) ||| (lo / 2 ^ (64 - n)) = (hi * 2 ^ n + lo / 2 ^ (64 - n)) % 18446744073709551616 := by
  have hs := split64 h
  have hlt : lo / 2 ^ (64 - n) < 2 ^ n := Nat.div_lt_of_lt_mul (by rw [hs]; exact hl)
  have e1 : hi * 2 ^ n % 18446744073709551616 = 2 ^ n * (hi % 2 ^ (64 - n)) := by
    rw [← hs, Nat.mul_mod_mul_right, Nat.mul_comm]
  have e2 : hi * 2 ^ n = 2 ^ n * (hi % 2 ^ (64 - n)) + 2 ^ (64 - n) * 2 ^ n * (hi / 2 ^ (64 - n)) := by
    have h := Nat.mod_add_div hi (2 ^ (64 - n))
    calc hi * 2 ^ n = 2 ^ n * (hi % 2 ^ (64 - n) + 2 ^ (64 - n) * (hi / 2 ^ (64 - n))) := by rw [h, Nat.mul_comm]
      _ = _ := by rw [Nat.mul_add]; congr 1; ac_rfl
  rw [e1, ← Nat.two_pow_add_eq_or_of_lt hlt, e2, Nat.add_right_comm, ← hs, Nat.add_mul_mod_self_left]
  refine (Nat.mod_eq_of_lt ?_).symm
  have h2 : hi % 2 ^ (64 - n) + 1 ≤ 2 ^ (64 - n) := Nat.mod_lt _ (Nat.two_pow_pos _)
  calc 2 ^ n * (hi % 2 ^ (64 - n)) + lo / 2 ^ (64 - n) < 2 ^ n * (hi % 2 ^ (64 - n)) + 2 ^ n := Nat.add_lt_add_left hlt _
    _ = 2 ^ n * (hi % 2 ^ (64 - n) + 1) := by rw [Nat.mul_add, Nat.mul_one]
    _ ≤ 2 ^ n * 2 ^ (64 - n) := Nat.mul_le_mul_left _ h2
    _ = 2 ^ (64 - n) * 2 ^ n := Nat.mul_comm _ _
/-- The limbs of what is laid. -/
theorem laid_limbs {hi lo k n : Nat} (hn : n < 64) (hl : lo < 18446744073709551616) (hh : hi < 18446744073709551616) :
    (∀ j, j < k → limb (((hi * 18446744073709551616 + lo) * 2 ^ (64 * k + n) : Nat) : Int) j = 0) ∧
    limb (((hi * 18446744073709551616 + lo) * 2 ^ (64 * k + n) : Nat) : Int) k = ((lo * 2 ^ n % 18446744073709551616 : Nat) : Int) ∧
    limb (((hi * 18446744073709551616 + lo) * 2 ^ (64 * k + n) : Nat) : Int) (k + 1) = (((hi * 2 ^ n % 18446744073709551616) ||| (lo / 2 ^ (64 - n)) : Nat) : Int) ∧
    limb (((hi * 18446744073709551616 + lo) * 2 ^ (64 * k + n) : Nat) : Int) (k + 2) = ((hi / 2 ^ (64 - n) : Nat) : Int) ∧
    (∀ j, k + 3 ≤ j → limb (((hi * 18446744073709551616 + lo) * 2 ^ (64 * k + n) : Nat) : Int) j = 0) := by
  have hs := split64 hn
  have hN := Nat.two_pow_pos n
  have e1 : (hi * 18446744073709551616 + lo) * 2 ^ n = hi * 2 ^ n * 18446744073709551616 + lo * 2 ^ n := by rw [Nat.add_mul]; congr 1; ac_rfl
  have hlt : lo / 2 ^ (64 - n) < 2 ^ n := Nat.div_lt_of_lt_mul (by rw [hs]; exact hl)
  have hlt2 : hi / 2 ^ (64 - n) < 2 ^ n := Nat.div_lt_of_lt_mul (by rw [hs]; exact hh)
  have hN64 : 2 ^ n ≤ 18446744073709551616 := by rw [← hs]; exact Nat.le_mul_of_pos_left _ (Nat.two_pow_pos _)
  have q1 : (hi * 2 ^ n * 18446744073709551616 + lo * 2 ^ n) / 18446744073709551616 = hi * 2 ^ n + lo / 2 ^ (64 - n) := by
    rw [shr_eq hn]; omega
  have q2 : (hi * 2 ^ n + lo / 2 ^ (64 - n)) / 18446744073709551616 = hi / 2 ^ (64 - n) := by
    rw [← hs, Nat.mul_comm (2 ^ (64 - n)) (2 ^ n), ← Nat.div_div_eq_div_mul, Nat.mul_comm hi, Nat.mul_add_div hN, Nat.div_eq_of_lt hlt, Nat.add_zero]
  refine ⟨fun j hj => ?_, ?_, ?_, ?_, fun j hj => ?_⟩
  · rw [limb_nat, shl_low hj]; rfl
  · have := shl_high (hi * 18446744073709551616 + lo) k n 0
    rw [limb_nat, show 64 * k = 64 * (k + 0) by omega, show 64 * (k + 0) + n = 64 * k + n by omega, this, e1]
    congr 1
    rw [show 2 ^ (64 * 0) = 1 by decide, Nat.div_one]
    omega
  · rw [limb_nat, shl_high, e1, or_shl hn hl, show 2 ^ (64 * 1) = 18446744073709551616 by decide, q1]
  · rw [limb_nat, shl_high, e1, show 2 ^ (64 * 2) = 18446744073709551616 * 18446744073709551616 by decide, ← Nat.div_div_eq_div_mul, q1, q2]
    congr 1
    exact Nat.mod_eq_of_lt (by omega)
  · obtain ⟨d, rfl⟩ : ∃ d, j = k + (3 + d) := ⟨j - k - 3, by omega⟩
    rw [limb_nat, shl_high, e1, show 64 * (3 + d) = 64 + (64 + (64 + 64 * d)) by omega, Nat.pow_add, Nat.pow_add, Nat.pow_add, show 2 ^ 64 = 18446744073709551616 by decide, ← Nat.div_div_eq_div_mul, q1, ← Nat.div_div_eq_div_mul, q2, ← Nat.div_div_eq_div_mul, Nat.div_eq_of_lt (show hi / 2 ^ (64 - n) < 18446744073709551616 by omega), Nat.zero_div]
    rfl
end Fl
