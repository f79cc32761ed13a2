/- Layer 11: no more is left: the plain law. -/
import Derived.Test.YtandllekeimpgaaRf9
namespace Go.Proofs.Ytandllekeimpgaa
open Go.RowKit Fl Ieee
set_option maxRecDepth 20000
theorem untilF_zero (n : Nat) (S : El) (r c : Int) (m b x : List C) : untilF n S r c m b 0 x = (x, 0) := rfl
theorem untilF_yes {n : Nat} {S : El} {r c : Int} {m b x : List C} (k : Nat) (h : better n S r c m b x) : untilF n S r c m b (k + 1) x = ((untilF n S r c m b k (onceR n S r c m x b)).1, (untilF n S r c m b k (onceR n S r c m x b)).2 + 1) := by
  conv => lhs; unfold untilF
  rw [if_pos h]
theorem untilF_le (n : Nat) (S : El) (r c : Int) (m b : List C) : ∀ (k : Nat) (x : List C), (untilF n S r c m b k x).2 ≤ k
  | 0, x => Nat.le_refl _
  | k + 1, x => by
    by_cases h : better n S r c m b x
    · rw [untilF_yes k h]
      have := untilF_le n S r c m b k (onceR n S r c m x b)
      exact Nat.succ_le_succ this
    · rw [untilF_stop _ h]; exact Nat.zero_le _
theorem untilF_left (n : Nat) (S : El) (r c : Int) (m b : List C) : ∀ (k : Nat) (x : List C), leftE r c m x b = 0 → leftE r c m (untilF n S r c m b k x).1 b = 0
  | 0, x, hx => hx
  | k + 1, x, hx => by
    by_cases h : better n S r c m b x
    · rw [untilF_yes k h]
      exact untilF_left n S r c m b k _ h.2.1
    · rw [untilF_stop _ h]; exact hx
/-- One round more. -/
theorem untilF_more (n : Nat) (S : El) (r c : Int) (m b : List C) : ∀ (k : Nat) (x : List C),
    untilF n S r c m b (k + 1) x = untilF n S r c m b k x ∨ ((untilF n S r c m b k x).2 = k ∧ better n S r c m b (untilF n S r c m b k x).1 ∧ (untilF n S r c m b (k + 1) x).1 = onceR n S r c m (untilF n S r c m b k x).1 b ∧ (untilF n S r c m b (k + 1) x).2 = k + 1)
  | 0, x => by
    by_cases h : better n S r c m b x
    · right
      rw [untilF_yes 0 h]
      exact ⟨rfl, h, rfl, rfl⟩
    · left; rw [untilF_stop _ h, untilF_stop _ h]
  | k + 1, x => by
    by_cases h : better n S r c m b x
    · rcases untilF_more n S r c m b k (onceR n S r c m x b) with h1 | ⟨h1, h2, h3, h4⟩
      · left
        rw [untilF_yes (k + 1) h, untilF_yes k h, h1]
      · right
        rw [untilF_yes (k + 1) h, untilF_yes k h]
        exact ⟨by rw [h1], h2, h3, by rw [h4]⟩
    · left; rw [untilF_stop _ h, untilF_stop _ h]
theorem flt_asym (x y : Nat) (h : flt .f64 x y = true) : flt .f64 y x = false := by
  rw [flt_def] at h ⊢
  simp only [Bool.and_eq_true, decide_eq_true_eq] at h
  have : ¬ (key FloatKind.f64.format y < key FloatKind.f64.format x) := by omega
  simp [this]
theorem flt_irr (x : Nat) : flt .f64 x x = false := by
  rw [flt_def]
  simp
theorem feq_of_flt (x y : Nat) (h : flt .f64 x y = true) : feq .f64 x y = false := by
  rw [flt_def] at h
  rw [feq_def]
  simp only [Bool.and_eq_true, decide_eq_true_eq] at h
  have : ¬ (key FloatKind.f64.format x = key FloatKind.f64.format y) := by omega
  simp [this]
/-- NO MORE IS LEFT. -/
theorem less_law (n : Nat) (S : El) (r c : Int) (m b x : List C) (k : Nat) :
    flt .f64 (normL r c m b (untilF n S r c m b (k - 1) x).1) (normL r c m b (untilF n S r c m b k x).1) = false ∧
    (0 < k → (untilF n S r c m b k x).2 = k → flt .f64 (normL r c m b (untilF n S r c m b k x).1) (normL r c m b (untilF n S r c m b (k - 1) x).1) = true) := by
  cases k with
  | zero => exact ⟨flt_irr _, fun h => absurd h (Nat.lt_irrefl _)⟩
  | succ k =>
    rw [Nat.add_sub_cancel]
    rcases untilF_more n S r c m b k x with h1 | ⟨h1, h2, h3, h4⟩
    · rw [h1]
      refine ⟨flt_irr _, fun _ h => ?_⟩
      have := untilF_le n S r c m b k x
      omega
    · have h5 := h2.2.2
      rw [← h3] at h5
      exact ⟨flt_asym _ _ h5, fun _ _ => h5⟩
end Go.Proofs.Ytandllekeimpgaa
