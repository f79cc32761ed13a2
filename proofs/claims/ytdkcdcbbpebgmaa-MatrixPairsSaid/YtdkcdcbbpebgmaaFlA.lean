/- Pure theory of binary floats: rungs, their values, rounding to nearest even as a relation; no program in sight. -/
import Ieee.Arith
namespace Fl
open Ieee

/-- A format of at least one fraction bit. -/
def val (f : Format) (r : Nat) : Nat := if r < f.binade then r else (f.binade + r % f.binade) * 2 ^ (r / f.binade - 1)
def gap (f : Format) (r : Nat) : Nat := 2 ^ (r / f.binade - 1)

theorem binade_pos (f : Format) : 0 < f.binade := Nat.two_pow_pos _

theorem gap_pos (f : Format) (r : Nat) : 0 < gap f r := Nat.two_pow_pos _

theorem val_small {f : Format} {r : Nat} (h : r < f.binade) : val f r = r := by simp [val, h]

theorem val_mul_add {f : Format} {q m : Nat} (hm : m < f.binade) : val f (f.binade * (q + 1) + m) = (f.binade + m) * 2 ^ q := by
  have hB := binade_pos f
  have h1 : ¬ (f.binade * (q + 1) + m < f.binade) := by
    rw [Nat.mul_add]; omega
  have h2 : (f.binade * (q + 1) + m) % f.binade = m := by rw [Nat.mul_add_mod, Nat.mod_eq_of_lt hm]
  have h3 : (f.binade * (q + 1) + m) / f.binade = q + 1 := by
    rw [Nat.mul_add_div hB, Nat.div_eq_of_lt hm, Nat.add_zero]
  simp only [val, h1, if_false, h2, h3, Nat.add_sub_cancel]

theorem gap_mul_add {f : Format} {q m : Nat} (hm : m < f.binade) : gap f (f.binade * (q + 1) + m) = 2 ^ q := by
  have hB := binade_pos f
  have h3 : (f.binade * (q + 1) + m) / f.binade = q + 1 := by
    rw [Nat.mul_add_div hB, Nat.div_eq_of_lt hm, Nat.add_zero]
  simp only [gap, h3, Nat.add_sub_cancel]

theorem gap_small {f : Format} {r : Nat} (h : r < f.binade) : gap f r = 1 := by
  simp [gap, Nat.div_eq_of_lt h]

/-- Each rung is below its binade, or stands in one. -/
theorem rung_cases (f : Format) (r : Nat) : r < f.binade ∨ ∃ q m, m < f.binade ∧ r = f.binade * (q + 1) + m := by
  have hB := binade_pos f
  by_cases h : r < f.binade
  · exact .inl h
  · refine .inr ⟨r / f.binade - 1, r % f.binade, Nat.mod_lt _ hB, ?_⟩
    have h1 : 1 ≤ r / f.binade := (Nat.le_div_iff_mul_le hB).2 (by omega)
    have h2 := Nat.div_add_mod r f.binade
    rw [Nat.sub_add_cancel h1]; omega

theorem val_succ (f : Format) (r : Nat) : val f (r + 1) = val f r + gap f r := by
  have hB := binade_pos f
  rcases rung_cases f r with h | ⟨q, m, hm, rfl⟩
  · rw [gap_small h, val_small h]
    by_cases h' : r + 1 < f.binade
    · rw [val_small h']
    · have : r + 1 = f.binade * (0 + 1) + 0 := by omega
      rw [this, val_mul_add hB]; omega
  · rw [val_mul_add hm, gap_mul_add hm]
    by_cases h' : m + 1 < f.binade
    · rw [Nat.add_assoc, val_mul_add h', ← Nat.add_assoc, Nat.add_mul (f.binade + m) 1, Nat.one_mul]
    · have e : f.binade * (q + 1) + m + 1 = f.binade * (q + 1 + 1) + 0 := by
        have h1 : m + 1 = f.binade := by omega
        rw [Nat.mul_add f.binade (q + 1) 1]; omega
      have h1 : m + 1 = f.binade := by omega
      rw [e, val_mul_add hB, Nat.pow_succ, Nat.add_zero]
      have h2 : (f.binade + m) * 2 ^ q + 2 ^ q = (f.binade + m + 1) * 2 ^ q := by rw [Nat.add_mul (f.binade + m) 1, Nat.one_mul]
      rw [h2, Nat.add_assoc, h1, ← Nat.two_mul, Nat.mul_comm 2, Nat.mul_assoc, Nat.mul_comm 2]

theorem val_lt_succ (f : Format) (r : Nat) : val f r < val f (r + 1) := by
  have := val_succ f r; have := gap_pos f r; omega

theorem val_lt {f : Format} {a b : Nat} (h : a < b) : val f a < val f b := by
  induction b with
  | zero => omega
  | succ b ih =>
    have := val_lt_succ f b
    by_cases e : a = b
    · subst e; exact this
    · have := ih (by omega); omega

theorem val_le {f : Format} {a b : Nat} (h : a ≤ b) : val f a ≤ val f b := by
  by_cases e : a = b
  · subst e; exact Nat.le_refl _
  · exact Nat.le_of_lt (val_lt (by omega))

theorem val_lt_iff {f : Format} {a b : Nat} : val f a < val f b ↔ a < b :=
  ⟨fun h => Nat.lt_of_not_le fun h' => by have := val_le (f := f) h'; omega, val_lt⟩
theorem val_le_iff {f : Format} {a b : Nat} : val f a ≤ val f b ↔ a ≤ b :=
  ⟨fun h => Nat.le_of_not_lt fun h' => by have := val_lt (f := f) h'; omega, val_le⟩
theorem val_inj {f : Format} {a b : Nat} (h : val f a = val f b) : a = b := by
  have h1 := (val_le_iff (f := f)).1 (Nat.le_of_eq h)
  have h2 := (val_le_iff (f := f)).1 (Nat.le_of_eq h.symm)
  omega
theorem val_zero (f : Format) : val f 0 = 0 := val_small (binade_pos f)
theorem val_one (f : Format) : val f 1 = 1 := by rw [val_succ, val_zero, gap_small (binade_pos f)]
theorem le_val (f : Format) (r : Nat) : r ≤ val f r := by
  induction r with
  | zero => omega
  | succ r ih => have := val_lt_succ f r; omega

/-- 'N / D' is rounded to rung 'r': it lies between the middles beside it, and is on one only if r is even. -/
def Rne (f : Format) (N D r : Nat) : Prop :=
  (2 * N < (val f r + val f (r + 1)) * D ∨ (2 * N = (val f r + val f (r + 1)) * D ∧ r % 2 = 0)) ∧
  (∀ q, r = q + 1 → ((val f q + val f r) * D < 2 * N ∨ ((val f q + val f r) * D = 2 * N ∧ r % 2 = 0)))

theorem Rne.mono {f : Format} {N D r N' D' r' : Nat} (hD : 0 < D) (hD' : 0 < D') (hle : N * D' ≤ N' * D) (h : Rne f N D r) (h' : Rne f N' D' r') : r ≤ r' := by
  refine Nat.le_of_not_lt fun hlt => ?_
  obtain ⟨q, rfl⟩ : ∃ q, r = q + 1 := ⟨r - 1, by omega⟩
  have h1 := h.2 q rfl
  have h2 := h'.1
  have a1 : val f r' ≤ val f q := val_le (by omega)
  have a2 : val f (r' + 1) ≤ val f (q + 1) := val_le (by omega)
  have hS : val f r' + val f (r' + 1) ≤ val f q + val f (q + 1) := by omega
  generalize hs : val f q + val f (q + 1) = S at *
  generalize hs' : val f r' + val f (r' + 1) = S' at *
  have b1 : S' * D * D' ≤ S * D * D' := Nat.mul_le_mul_right _ (Nat.mul_le_mul_right _ hS)
  have b0 : 0 < D * D' := Nat.mul_pos hD hD'
  have e1 : 2 * N' * D = 2 * (N' * D) := by rw [Nat.mul_assoc]
  have e2 : 2 * N * D' = 2 * (N * D') := by rw [Nat.mul_assoc]
  have e3 : S' * D' * D = S' * D * D' := Nat.mul_right_comm _ _ _
  have c1 : S * D * D' ≤ 2 * N * D' := by
    rcases h1 with h1 | ⟨h1, _⟩
    · exact Nat.mul_le_mul_right _ (Nat.le_of_lt h1)
    · rw [h1]; exact Nat.le_refl _
  have c2 : 2 * N' * D ≤ S' * D' * D := by
    rcases h2 with h2 | ⟨h2, _⟩
    · exact Nat.mul_le_mul_right _ (Nat.le_of_lt h2)
    · rw [h2]; exact Nat.le_refl _
  rcases h1 with h1 | ⟨h1, p1⟩
  · have := Nat.mul_lt_mul_of_pos_right h1 hD'
    omega
  · rcases h2 with h2 | ⟨h2, p2⟩
    · have := Nat.mul_lt_mul_of_pos_right h2 hD
      omega
    · have hSS : S * (D * D') = S' * (D * D') := by
        rw [← Nat.mul_assoc, ← Nat.mul_assoc]; omega
      have hSS := Nat.eq_of_mul_eq_mul_right b0 hSS
      have : val f r' = val f q := by omega
      have := val_inj this
      omega

theorem Rne.unique {f : Format} {N D r r' : Nat} (hD : 0 < D) (h : Rne f N D r) (h' : Rne f N D r') : r = r' :=
  Nat.le_antisymm (h.mono hD hD (Nat.le_refl _) h') (h'.mono hD hD (Nat.le_refl _) h)

theorem Rne.congr {f : Format} {N D N' D' r r' : Nat} (hD : 0 < D) (hD' : 0 < D') (e : N * D' = N' * D) (h : Rne f N D r) (h' : Rne f N' D' r') : r = r' :=
  Nat.le_antisymm (h.mono hD hD' (Nat.le_of_eq e) h') (h'.mono hD' hD (Nat.le_of_eq e.symm) h)

theorem Rne.scale {f : Format} {N D r : Nat} (c : Nat) (hc : 0 < c) : Rne f (N * c) (D * c) r ↔ Rne f N D r := by
  unfold Rne
  have k1 : ∀ S : Nat, 2 * (N * c) < S * (D * c) ↔ 2 * N < S * D := fun S => by
    rw [← Nat.mul_assoc, ← Nat.mul_assoc]; exact Nat.mul_lt_mul_right hc
  have k2 : ∀ S : Nat, 2 * (N * c) = S * (D * c) ↔ 2 * N = S * D := fun S => by
    rw [← Nat.mul_assoc, ← Nat.mul_assoc]; exact Nat.mul_left_inj (by omega)
  have k3 : ∀ S : Nat, S * (D * c) < 2 * (N * c) ↔ S * D < 2 * N := fun S => by
    rw [← Nat.mul_assoc, ← Nat.mul_assoc]; exact Nat.mul_lt_mul_right hc
  have k4 : ∀ S : Nat, S * (D * c) = 2 * (N * c) ↔ S * D = 2 * N := fun S => by
    rw [← Nat.mul_assoc, ← Nat.mul_assoc]; exact Nat.mul_left_inj (by omega)
  simp only [k1, k2, k3, k4]

/-- What is on a rung is rounded to it. -/
theorem Rne.exact (f : Format) (D r : Nat) (hD : 0 < D) : Rne f (val f r * D) D r := by
  refine ⟨.inl ?_, fun q hq => .inl ?_⟩
  · rw [← Nat.mul_assoc]
    exact Nat.mul_lt_mul_of_pos_right (by have := val_lt_succ f r; omega) hD
  · subst hq
    rw [← Nat.mul_assoc]
    exact Nat.mul_lt_mul_of_pos_right (by have := val_lt_succ f q; omega) hD

theorem Rne.eq_of_exact {f : Format} {N D r s : Nat} (hD : 0 < D) (h : Rne f N D r) (e : N = val f s * D) : r = s := by
  subst e; exact h.unique hD (Rne.exact f D s hD)
end Fl
