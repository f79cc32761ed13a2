/- A turn's 24ths as words. -/
import Derived.Test.YtajdfbjjgjpicaaFlS
namespace Fl
open Ieee Go
/-- The cosine of 0 to 6 steps. -/
def conT (k : Int) : Nat :=
  if k = 0 then 4607182418800017408 else if k = 1 then 4606875505927962389 else if k = 2 then 4605975682916830378 else if k = 3 then 4604544271217802189
  else if k = 4 then 4602678819172646912 else if k = 5 then 4598334089338226320 else 0
/-- The cosine of 0 to 23 steps. -/
def cosT (k : Int) : Nat :=
  if k > 17 then conT (24 - k) else if k > 12 then flip double (conT (k - 12)) else if k > 6 then flip double (conT (12 - k)) else conT k
def rootT (k : Int) : C := (cosT (k % 24), cosT ((k + 18) % 24))
theorem twenty_four {P : Int → Prop} (h : P 0 ∧ P 1 ∧ P 2 ∧ P 3 ∧ P 4 ∧ P 5 ∧ P 6 ∧ P 7 ∧ P 8 ∧ P 9 ∧ P 10 ∧ P 11 ∧ P 12 ∧ P 13 ∧ P 14 ∧ P 15 ∧ P 16 ∧ P 17 ∧ P 18 ∧ P 19 ∧ P 20 ∧ P 21 ∧ P 22 ∧ P 23)
    (m : Int) (h0 : 0 ≤ m) (h1 : m < 24) : P m := by
  have e : m = 0 ∨ m = 1 ∨ m = 2 ∨ m = 3 ∨ m = 4 ∨ m = 5 ∨ m = 6 ∨ m = 7 ∨ m = 8 ∨ m = 9 ∨ m = 10 ∨ m = 11 ∨ m = 12 ∨ m = 13 ∨ m = 14 ∨ m = 15 ∨ m = 16 ∨ m = 17 ∨ m = 18 ∨ m = 19 ∨ m = 20 ∨ m = 21 ∨ m = 22 ∨ m = 23 := by omega
  rcases e with rfl | rfl | rfl | rfl | rfl | rfl | rfl | rfl | rfl | rfl | rfl | rfl | rfl | rfl | rfl | rfl | rfl | rfl | rfl | rfl | rfl | rfl | rfl | rfl <;> simp only [h]
theorem cosT_good (m : Int) (h0 : 0 ≤ m) (h1 : m < 24) : cosT m < 18446744073709551616 ∧ isNaN double (cosT m) = false :=
  twenty_four (P := fun m => cosT m < 18446744073709551616 ∧ isNaN double (cosT m) = false) (by decide +kernel) m h0 h1
theorem rootT_fst_lt (k : Int) : (rootT k).1 < 18446744073709551616 := (cosT_good _ (by omega) (by omega)).1
theorem rootT_snd_lt (k : Int) : (rootT k).2 < 18446744073709551616 := (cosT_good _ (by omega) (by omega)).1
theorem cn_rootT (k : Int) : (cn .f64 (rootT k).1, cn .f64 (rootT k).2) = rootT k := by
  have h1 : cn .f64 (rootT k).1 = (rootT k).1 := cn_of_not (k := .f64) (cosT_good _ (by omega) (by omega)).2
  have h2 : cn .f64 (rootT k).2 = (rootT k).2 := cn_of_not (k := .f64) (cosT_good _ (by omega) (by omega)).2
  rw [h1, h2]
theorem tmod_range (k : Int) : -24 < k.tmod 24 ∧ k.tmod 24 < 24 := by
  have h1 := Int.tmod_lt_of_pos k (b := 24) (by omega)
  have h2 := Int.tmod_lt_of_pos (-k) (b := 24) (by omega)
  rw [Int.neg_tmod] at h2
  exact ⟨by omega, h1⟩
theorem tmod_emod (k : Int) : (k.tmod 24) % 24 = k % 24 := by
  have h := Int.tmod_add_mul_tdiv k 24
  generalize k.tmod 24 = r at *
  omega
end Fl
