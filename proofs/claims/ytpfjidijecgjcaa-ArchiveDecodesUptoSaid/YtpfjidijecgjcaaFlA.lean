/- Pure theory of binary floats: rungs, their values, rounding to nearest even as a relation; no program in sight. -/
import Ieee.Arith
import Derived.Laws.FloatArith
import Derived.Laws.BitsAllLaws
import Derived.WalkKit
import Derived.WalkLawsBesides
import Derived.Laws.Cover3
import Derived.Deep.Draws
namespace Fl
open Ieee

/-- A format of at least one fraction bit. -/
def val (f : Format) (r : Nat) : Nat := if r < f.binade then r else (f.binade + r % f.binade) * 2 ^ (r / f.binade - 1)
def gap (f : Format) (r : Nat) : Nat := 2 ^ (r / f.binade - 1)

theorem binade_pos (f : Format) : 0 < f.binade := Nat.two_pow_pos _

theorem gap_pos (f : Format) (r : Nat) : 0 < gap f r := Nat.two_pow_pos _

theorem val_small {f : Format} {r : Nat} (h : r < f.binade) : val f r = r := by simp [val, h]

theorem val_mul_add {f : Format} {q m : Nat} (hm : m < f.binade) : val f (f.binade * (q + 1) + m) = (f.binade + m) * 2 ^ q := by
  have hB := binade_pos f
  have h1 : ¬ (f.binade * (q + 1) + m < f.binade) := by
    rw [Nat.mul_add]; omega
  have h2 : (f.binade * (q + 1) + m) % f.binade = m := by rw [Nat.mul_add_mod, Nat.mod_eq_of_lt hm]
  have h3 : (f.binade * (q + 1) + m) / f.binade = q + 1 := by
    rw [Nat.mul_add_div hB, Nat.div_eq_of_lt hm, Nat.add_zero]
  simp only [val, h1, if_false, h2, h3, Nat.add_sub_cancel]

theorem gap_mul_add {f : Format} {q m : Nat} (hm : m < f.binade) : gap f (f.binade * (q + 1) + m) = 2 ^ q := by
  have hB := binade_pos f
  have h3 : (f.binade * (q + 1) + m) / f.binade = q + 1 := by
    rw [Nat.mul_add_div hB, Nat.div_eq_of_lt hm, Nat.add_zero]
  simp only [gap, h3, Nat.add_sub_cancel]

theorem gap_small {f : Format} {r : Nat} (h : r < f.binade) : gap f r = 1 := by
  simp [gap, Nat.div_eq_of_lt h]

/-- Each rung is below its binade, or stands in one. -/
theorem rung_cases (f : Format) (r : Nat) : r < f.binade ∨ ∃ q m, m < f.binade ∧ r = f.binade * (q + 1) + m := by
  have hB := binade_pos f
  by_cases h : r < f.binade
  · exact .inl h
  · refine .inr ⟨r / f.binade - 1, r % f.binade, Nat.mod_lt _ hB, ?_⟩
    have h1 : 1 ≤ r / f.binade := (Nat.le_div_iff_mul_le hB).2 (by omega)
    have h2 := Nat.div_add_mod r f.binade
    rw [Nat.sub_add_cancel h1]; omega

theorem val_succ (f : Format) (r : Nat) : val f (r + 1) = val f r + gap f r := by
  have hB := binade_pos f
  rcases rung_cases f r with h | ⟨q, m, hm, rfl⟩
  · rw [gap_small h, val_small h]
    by_cases h' : r + 1 < f.binade
    · rw [val_small h']
    · have : r + 1 = f.binade * (0 + 1) + 0 := by omega
      rw [this, val_mul_add hB]; omega
  · rw [val_mul_add hm, gap_mul_add hm]
    by_cases h' : m + 1 < f.binade
    · rw [Nat.add_assoc, val_mul_add h', ← Nat.add_assoc, Nat.add_mul (f.binade + m) 1, Nat.one_mul]
    · have e : f.binade * (q + 1) + m + 1 = f.binade * (q + 1 + 1) + 0 := by
        have h1 : m + 1 = f.binade := by omega
        rw [Nat.mul_add f.binade (q + 1) 1]; omega
      have h1 : m + 1 = f.binade := by omega
      rw [e, val_mul_add hB, Nat.pow_succ, Nat.add_zero]
      have h2 : (f.binade + m) * 2 ^ q + 2 ^ q = (f.binade + m + 1) * 2 ^ q := by rw [Nat.add_mul (f.binade + m) 1, Nat.one_mul]
      rw [h2, Nat.add_assoc, h1, ← Nat.two_mul, Nat.mul_comm 2, Nat.mul_assoc, Nat.mul_comm 2]

theorem val_lt_succ (f : Format) (r : Nat) : val f r < val f (r + 1) := by
  have := val_succ f r; have := gap_pos f r; omega

theorem val_lt {f : Format} {a b : Nat} (h : a < b) : val f a < val f b := by
  induction b with
  | zero => omega
  | succ b ih =>
    have := val_lt_succ f b
    by_cases e : a = b
    · subst e; exact this
    · have := ih (by omega); omega

theorem val_le {f : Format} {a b : Nat} (h : a ≤ b) : val f a ≤ val f b := by
  by_cases e : a = b
  · subst e; exact Nat.le_refl _
  · exact Nat.le_of_lt (val_lt (by omega))

theorem val_lt_iff {f : Format} {a b : Nat} : val f a < val f b ↔ a < b :=
  ⟨fun h => Nat.lt_of_not_le fun h' => by have := val_le (f := f) h'; omega, val_lt⟩
theorem val_le_iff {f : Format} {a b : Nat} : val f a ≤ val f b ↔ a ≤ b :=
  ⟨fun h => Nat.le_of_not_lt fun h' => by have := val_lt (f := f) h'; omega, val_le⟩
theorem val_inj {f : Format} {a b : Nat} (h : val f a = val f b) : a = b := by
  have h1 := (val_le_iff (f := f)).1 (Nat.le_of_eq h)
  have h2 := (val_le_iff (f := f)).1 (Nat.le_of_eq h.symm)
  omega
theorem val_zero (f : Format) : val f 0 = 0 := val_small (binade_pos f)
theorem val_one (f : Format) : val f 1 = 1 := by rw [val_succ, val_zero, gap_small (binade_pos f)]
theorem le_val (f : Format) (r : Nat) : r ≤ val f r := by
  induction r with
  | zero => omega
  | succ r ih => have := val_lt_succ f r; omega

/-- 'N / D' is rounded to rung 'r': it lies between the middles beside it, and is on one only if r is even. -/
def Rne (f : Format) (N D r : Nat) : Prop :=
  (2 * N < (val f r + val f (r + 1)) * D ∨ (2 * N = (val f r + val f (r + 1)) * D ∧ r % 2 = 0)) ∧
  (∀ q, r = q + 1 → ((val f q + val f r) * D < 2 * N ∨ ((val f q + val f r) * D = 2 * N ∧ r % 2 = 0)))

theorem Rne.mono {f : Format} {N D r N' D' r' : Nat} (hD : 0 < D) (hD' : 0 < D') (hle : N * D' ≤ N' * D) (h : Rne f N D r) (h' : Rne f N' D' r') : r ≤ r' := by
  refine Nat.le_of_not_lt fun hlt => ?_
  obtain ⟨q, rfl⟩ : ∃ q, r = q + 1 := ⟨r - 1, by omega⟩
  have h1 := h.2 q rfl
  have h2 := h'.1
  have a1 : val f r' ≤ val f q := val_le (by omega)
  have a2 : val f (r' + 1) ≤ val f (q + 1) := val_le (by omega)
  have hS : val f r' + val f (r' + 1) ≤ val f q + val f (q + 1) := by omega
  generalize hs : val f q + val f (q + 1) = S at *
  generalize hs' : val f r' + val f (r' + 1) = S' at *
  have b1 : S' * D * D' ≤ S * D * D' := Nat.mul_le_mul_right _ (Nat.mul_le_mul_right _ hS)
  have b0 : 0 < D * D' := Nat.mul_pos hD hD'
  have e1 : 2 * N' * D = 2 * (N' * D) := by rw [Nat.mul_assoc]
  have e2 : 2 * N * D' = 2 * (N * D') := by rw [Nat.mul_assoc]
  have e3 : S' * D' * D = S' * D * D' := Nat.mul_right_comm _ _ _
  have c1 : S * D * D' ≤ 2 * N * D' := by
    rcases h1 with h1 | ⟨h1, _⟩
    · exact Nat.mul_le_mul_right _ (Nat.le_of_lt h1)
    · rw [h1]; exact Nat.le_refl _
  have c2 : 2 * N' * D ≤ S' * D' * D := by
    rcases h2 with h2 | ⟨h2, _⟩
    · exact Nat.mul_le_mul_right _ (Nat.le_of_lt h2)
    · rw [h2]; exact Nat.le_refl _
  rcases h1 with h1 | ⟨h1, p1⟩
  · have := Nat.mul_lt_mul_of_pos_right h1 hD'
    omega
  · rcases h2 with h2 | ⟨h2, p2⟩
    · have := Nat.mul_lt_mul_of_pos_right h2 hD
      omega
    · have hSS : S * (D * D') = S' * (D * D') := by
        rw [← Nat.mul_assoc, ← Nat.mul_assoc]; omega
      have hSS := Nat.eq_of_mul_eq_mul_right b0 hSS
      have : val f r' = val f q := by omega
      have := val_inj this
      omega

theorem Rne.unique {f : Format} {N D r r' : Nat} (hD : 0 < D) (h : Rne f N D r) (h' : Rne f N D r') : r = r' :=
  Nat.le_antisymm (h.mono hD hD (Nat.le_refl _) h') (h'.mono hD hD (Nat.le_refl _) h)

theorem Rne.congr {f : Format} {N D N' D' r r' : Nat} (hD : 0 < D) (hD' : 0 < D') (e : N * D' = N' * D) (h : Rne f N D r) (h' : Rne f N' D' r') : r = r' :=
  Nat.le_antisymm (h.mono hD hD' (Nat.le_of_eq e) h') (h'.mono hD' hD (Nat.le_of_eq e.symm) h)

theorem Rne.scale {f : Format} {N D r : Nat} (c : Nat) (hc : 0 < c) : Rne f (N * c) (D * c) r ↔ Rne f N D r := by
  unfold Rne
  have k1 : ∀ S : Nat, 2 * (N * c) < S * (D * c) ↔ 2 * N < S * D := fun S => by
    rw [← Nat.mul_assoc, ← Nat.mul_assoc]; exact Nat.mul_lt_mul_right hc
  have k2 : ∀ S : Nat, 2 * (N * c) = S * (D * c) ↔ 2 * N = S * D := fun S => by
    rw [← Nat.mul_assoc, ← Nat.mul_assoc]; exact Nat.mul_left_inj (by omega)
  have k3 : ∀ S : Nat, S * (D * c) < 2 * (N * c) ↔ S * D < 2 * N := fun S => by
    rw [← Nat.mul_assoc, ← Nat.mul_assoc]; exact Nat.mul_lt_mul_right hc
  have k4 : ∀ S : Nat, S * (D * c) = 2 * (N * c) ↔ S * D = 2 * N := fun S => by
    rw [← Nat.mul_assoc, ← Nat.mul_assoc]; exact Nat.mul_left_inj (by omega)
  simp only [k1, k2, k3, k4]

/-- What is on a rung is rounded to it. -/
theorem Rne.exact (f : Format) (D r : Nat) (hD : 0 < D) : Rne f (val f r * D) D r := by
  refine ⟨.inl ?_, fun q hq => .inl ?_⟩
  · rw [← Nat.mul_assoc]
    exact Nat.mul_lt_mul_of_pos_right (by have := val_lt_succ f r; omega) hD
  · subst hq
    rw [← Nat.mul_assoc]
    exact Nat.mul_lt_mul_of_pos_right (by have := val_lt_succ f q; omega) hD

theorem Rne.eq_of_exact {f : Format} {N D r s : Nat} (hD : 0 < D) (h : Rne f N D r) (e : N = val f s * D) : r = s := by
  subst e; exact h.unique hD (Rne.exact f D s hD)
end Fl
namespace Fl
open Ieee

/-- 'n / g' is rounded to the whole number k. -/
def CutTo (n g k : Nat) : Prop :=
  (2 * n < (2 * k + 1) * g ∨ (2 * n = (2 * k + 1) * g ∧ k % 2 = 0)) ∧
  (1 ≤ k → ((2 * k - 1) * g < 2 * n ∨ ((2 * k - 1) * g = 2 * n ∧ k % 2 = 0)))

theorem cut_even (neg : Bool) (n drop : Nat) : CutTo n (2 ^ drop) (Toward.even.cut neg n drop) := by
  have hcut : ∀ g : Nat, 0 < g → CutTo n g (n / g + (decide (g < 2 * (n % g)) || (g == 2 * (n % g) && n / g % 2 == 1)).toNat) := by
    intro g hg
    have hd := Nat.div_add_mod n g
    have hr := Nat.mod_lt n hg
    generalize n / g = l at *
    generalize n % g = r at *
    have hm : g * l = l * g := Nat.mul_comm _ _
    have x1 : (2 * l + 1) * g = 2 * (l * g) + g := by rw [Nat.add_mul, Nat.mul_assoc, Nat.one_mul]
    have x2 : (2 * (l + 1) + 1) * g = 2 * (l * g) + 3 * g := by rw [Nat.add_mul, Nat.mul_assoc, Nat.add_mul, Nat.one_mul]; omega
    have x3 : 1 ≤ l → (2 * l - 1) * g = 2 * (l * g) - g := by intro _; rw [Nat.sub_mul, Nat.mul_assoc, Nat.one_mul]
    have x4 : (2 * (l + 1) - 1) * g = 2 * (l * g) + g := by
      have : 2 * (l + 1) - 1 = 2 * l + 1 := by omega
      rw [this, x1]
    have x5 : 1 ≤ l → g ≤ l * g := fun h => Nat.le_mul_of_pos_left g h
    by_cases c1 : g < 2 * r
    · simp only [c1, decide_true, Bool.true_or, Bool.toNat_true]
      unfold CutTo
      rw [x2, x4]
      exact ⟨.inl (by omega), fun _ => .inl (by omega)⟩
    · by_cases c2 : g = 2 * r
      · by_cases c3 : l % 2 = 1
        · have e : (decide (g < 2 * r) || (g == 2 * r && l % 2 == 1)) = true := by simp [c2, c3]
          rw [e, Bool.toNat_true]
          unfold CutTo
          rw [x2, x4]
          exact ⟨.inl (by omega), fun _ => .inr ⟨by omega, by omega⟩⟩
        · have e : (decide (g < 2 * r) || (g == 2 * r && l % 2 == 1)) = false := by simp [c1, c3]
          rw [e, Bool.toNat_false, Nat.add_zero]
          unfold CutTo
          rw [x1]
          refine ⟨.inr ⟨by omega, by omega⟩, fun h => .inl ?_⟩
          rw [x3 h]; have := x5 h; omega
      · have e : (decide (g < 2 * r) || (g == 2 * r && l % 2 == 1)) = false := by simp [c1, c2]
        rw [e, Bool.toNat_false, Nat.add_zero]
        unfold CutTo
        rw [x1]
        refine ⟨.inl (by omega), fun h => .inl ?_⟩
        rw [x3 h]; have := x5 h; omega
  unfold Toward.cut
  by_cases hd : drop ≤ n.log2 + 2
  · have h := hcut (2 ^ drop) (Nat.two_pow_pos _)
    simp only [Nat.min_eq_left hd, Nat.one_shiftLeft]
    exact h
  · have hlt : 2 * n < 2 ^ (n.log2 + 2) := by
      by_cases h0 : n = 0
      · subst h0; simp
      · have := Nat.lt_log2_self (n := n)
        rw [Nat.pow_succ]
        omega
    have hle : 2 ^ (n.log2 + 2) ≤ 2 ^ drop := Nat.pow_le_pow_right (by omega) (by omega)
    simp only [Nat.min_eq_right (Nat.le_of_lt (Nat.lt_of_not_le hd)), Nat.one_shiftLeft]
    have hlow : n / 2 ^ (n.log2 + 2) = 0 := Nat.div_eq_of_lt (by omega)
    have hmod : n % 2 ^ (n.log2 + 2) = n := Nat.mod_eq_of_lt (by omega)
    rw [hlow, hmod]
    have e : (decide (2 ^ (n.log2 + 2) < 2 * n) || (2 ^ (n.log2 + 2) == 2 * n && 0 % 2 == 1)) = false := by
      have : ¬ 2 ^ (n.log2 + 2) < 2 * n := by omega
      simp [this]
    rw [e]
    simp only [Bool.toNat_false, Nat.add_zero]
    unfold CutTo
    refine ⟨.inl ?_, fun h => by omega⟩
    simp only [Nat.mul_zero, Nat.zero_add, Nat.one_mul]
    omega

/-- The rung of 'nearest', before it is held against infinity's. -/
def rungOf (f : Format) (neg : Bool) (mag : Nat) (place : Int) : Nat :=
  if mag = 0 then 0 else
  let last := max (place + mag.log2 - f.fractionBits) f.leastPlace
  (last - f.leastPlace).toNat * f.binade + Toward.even.cut neg (mag <<< (place - last).toNat) (last - place).toNat

theorem nearest_eq (f : Format) (neg : Bool) (mag : Nat) (place : Int) : f.nearest neg mag place = f.word neg (min (rungOf f neg mag place) f.infRung) := by
  unfold Format.nearest rungOf
  by_cases h : mag = 0 <;> simp [h]

theorem rne_of_cut {f : Format} (hp : 1 ≤ f.fractionBits) {N D n g E k : Nat} (hD : 0 < D) (hg : 0 < g) (hx : n * 2 ^ E * D = N * g)
    (hk : CutTo n g k) (hhi : n < 2 * f.binade * g) (hlo : E = 0 ∨ f.binade * g ≤ n) : Rne f N D (E * f.binade + k) := by
  have hB := binade_pos f
  have hBe : f.binade % 2 = 0 := by
    obtain ⟨p, hp'⟩ : ∃ p, f.fractionBits = p + 1 := ⟨f.fractionBits - 1, by omega⟩
    unfold Format.binade; rw [hp', Nat.pow_succ]; omega
  have hE := Nat.two_pow_pos E
  -- bounds on k
  have hk2 : k ≤ 2 * f.binade := by
    refine Nat.le_of_not_lt fun h => ?_
    have h1 := hk.2 (by omega)
    have h2 : 2 * (2 * f.binade * g) ≤ (2 * k - 1) * g := by
      rw [← Nat.mul_assoc]; exact Nat.mul_le_mul_right _ (by omega)
    rcases h1 with h1 | ⟨h1, _⟩ <;> omega
  have hkB : E = 0 ∨ f.binade ≤ k := by
    rcases hlo with h | h
    · exact .inl h
    · refine .inr (Nat.le_of_not_lt fun h' => ?_)
      have h1 := hk.1
      have h2 : (2 * k + 1) * g ≤ (2 * f.binade - 1) * g := Nat.mul_le_mul_right _ (by omega)
      have h3 : (2 * f.binade - 1) * g = 2 * (f.binade * g) - g := by rw [Nat.sub_mul, Nat.mul_assoc, Nat.one_mul]
      have h4 := Nat.le_mul_of_pos_left g hB
      rcases h1 with h1 | ⟨h1, _⟩ <;> omega
  -- values
  have hval : ∀ j, j ≤ 2 * f.binade → (E = 0 ∨ f.binade ≤ j) → val f (E * f.binade + j) = j * 2 ^ E := by
    intro j hj hjE
    by_cases hj1 : j < f.binade
    · have : E = 0 := by omega
      subst this
      simp only [Nat.zero_mul, Nat.zero_add, Nat.pow_zero, Nat.mul_one]
      exact val_small hj1
    · by_cases hj2 : j = 2 * f.binade
      · subst hj2
        have e : E * f.binade + 2 * f.binade = f.binade * (E + 1 + 1) + 0 := by
          rw [Nat.mul_comm E, Nat.mul_add, Nat.mul_add]; omega
        rw [e, val_mul_add hB, Nat.pow_succ, Nat.add_zero, Nat.mul_comm 2 f.binade, Nat.mul_assoc, Nat.mul_comm 2]
      · have e : E * f.binade + j = f.binade * (E + 1) + (j - f.binade) := by
          rw [Nat.mul_comm E, Nat.mul_add]; omega
        rw [e, val_mul_add (by omega)]
        congr 1; omega
  have hgap : 2 ^ E ≤ gap f (E * f.binade + k) := by
    unfold gap
    refine Nat.pow_le_pow_right (by omega) ?_
    rcases hkB with h | h
    · omega
    · have : E + 1 ≤ (E * f.binade + k) / f.binade := (Nat.le_div_iff_mul_le hB).2 (by rw [Nat.add_mul]; omega)
      omega
  have hpar : (E * f.binade + k) % 2 = k % 2 := by
    obtain ⟨c, hc⟩ : ∃ c, f.binade = 2 * c := ⟨f.binade / 2, by omega⟩
    rw [hc, show E * (2 * c) = 2 * (E * c) from by rw [← Nat.mul_assoc, Nat.mul_comm E 2, Nat.mul_assoc]]
    omega
  have hv := hval k hk2 hkB
  -- comparisons are carried over
  have key : ∀ S : Nat, (2 * n < S * g → 2 * N < S * 2 ^ E * D) ∧ (2 * n = S * g → 2 * N = S * 2 ^ E * D) ∧ (S * g < 2 * n → S * 2 ^ E * D < 2 * N) ∧ (S * g = 2 * n → S * 2 ^ E * D = 2 * N) := by
    intro S
    have hc : 0 < 2 ^ E * D := Nat.mul_pos hE hD
    have e1 : 2 * n * (2 ^ E * D) = 2 * N * g := by rw [Nat.mul_assoc, ← Nat.mul_assoc n, hx, Nat.mul_assoc]
    have e2 : S * g * (2 ^ E * D) = S * 2 ^ E * D * g := by
      rw [Nat.mul_assoc, Nat.mul_comm g, ← Nat.mul_assoc, ← Nat.mul_assoc]
    refine ⟨fun h => ?_, fun h => ?_, fun h => ?_, fun h => ?_⟩
    · refine Nat.lt_of_mul_lt_mul_right (a := g) ?_
      rw [← e1, ← e2]; exact Nat.mul_lt_mul_of_pos_right h hc
    · refine Nat.eq_of_mul_eq_mul_right hg ?_
      rw [← e1, ← e2, h]
    · refine Nat.lt_of_mul_lt_mul_right (a := g) ?_
      rw [← e1, ← e2]; exact Nat.mul_lt_mul_of_pos_right h hc
    · refine Nat.eq_of_mul_eq_mul_right hg ?_
      rw [← e1, ← e2, h]
  constructor
  · -- above
    rw [val_succ, hv]
    have hsum : (2 * k + 1) * 2 ^ E ≤ k * 2 ^ E + (k * 2 ^ E + gap f (E * f.binade + k)) := by
      rw [Nat.add_mul, Nat.one_mul, Nat.mul_assoc]; omega
    have hsum' := Nat.mul_le_mul_right D hsum
    by_cases he : gap f (E * f.binade + k) = 2 ^ E
    · have e : k * 2 ^ E + (k * 2 ^ E + gap f (E * f.binade + k)) = (2 * k + 1) * 2 ^ E := by
        rw [he, Nat.add_mul, Nat.one_mul, Nat.mul_assoc]; omega
      rw [e, hpar]
      rcases hk.1 with h | ⟨h, hpe⟩
      · exact .inl ((key _).1 h)
      · exact .inr ⟨(key _).2.1 h, hpe⟩
    · refine .inl ?_
      have hsum2 : (2 * k + 1) * 2 ^ E < k * 2 ^ E + (k * 2 ^ E + gap f (E * f.binade + k)) := by
        rw [Nat.add_mul, Nat.one_mul, Nat.mul_assoc]; omega
      have hsum3 := Nat.mul_lt_mul_of_pos_right hsum2 hD
      rcases hk.1 with h | ⟨h, _⟩
      · have := (key _).1 h; omega
      · have := (key _).2.1 h; omega
  · intro q hq
    by_cases hk0 : k = f.binade ∧ E ≠ 0
    · refine .inl ?_
      obtain ⟨rfl, hE0⟩ := hk0
      have hlo' : f.binade * g ≤ n := by rcases hlo with h | h; exact absurd h hE0; exact h
      have h1 : val f q < val f (E * f.binade + f.binade) := by rw [hq]; exact val_lt_succ f q
      have h2 : val f (E * f.binade + f.binade) * D ≤ N := by
        rw [hv]
        refine Nat.le_of_mul_le_mul_right ?_ hg
        rw [← hx]
        have := Nat.mul_le_mul_right (2 ^ E * D) hlo'
        calc f.binade * 2 ^ E * D * g = f.binade * g * (2 ^ E * D) := by
              rw [Nat.mul_assoc f.binade g, Nat.mul_comm g, ← Nat.mul_assoc, ← Nat.mul_assoc]
          _ ≤ n * (2 ^ E * D) := this
          _ = n * 2 ^ E * D := by rw [← Nat.mul_assoc]
      have h3 := Nat.mul_lt_mul_of_pos_right h1 hD
      rw [Nat.add_mul]; omega
    · have hk1 : 1 ≤ k := by
        refine Nat.pos_of_ne_zero fun h => ?_
        subst h
        rcases hkB with h | h
        · subst h; simp at hq
        · omega
      have hq' : q = E * f.binade + (k - 1) := by omega
      have hv' := hval (k - 1) (by omega) (by omega)
      have e : val f q + val f (E * f.binade + k) = (2 * k - 1) * 2 ^ E := by
        rw [hq', hv', hv, ← Nat.add_mul]
        congr 1; omega
      rw [e, hpar]
      rcases hk.2 hk1 with h | ⟨h, hpe⟩
      · exact .inl ((key _).2.2.1 h)
      · exact .inr ⟨(key _).2.2.2 h, hpe⟩

theorem Rne.zero (f : Format) (D : Nat) (hD : 0 < D) : Rne f 0 D 0 := by
  have := Rne.exact f D 0 hD
  rwa [val_zero, Nat.zero_mul] at this

/-- THE MODEL'S NEAREST WORD IS ROUNDED TO NEAREST EVEN. -/
theorem rungOf_rne {f : Format} (hp : 1 ≤ f.fractionBits) (neg : Bool) (mag : Nat) (place : Int) :
    Rne f (mag * 2 ^ (place - f.leastPlace).toNat) (2 ^ (f.leastPlace - place).toNat) (rungOf f neg mag place) := by
  have hD : 0 < 2 ^ (f.leastPlace - place).toNat := Nat.two_pow_pos _
  by_cases h0 : mag = 0
  · subst h0
    rw [Nat.zero_mul]
    exact Rne.zero f _ hD
  · unfold rungOf
    rw [if_neg h0]
    dsimp only
    generalize hL : f.leastPlace = L at *
    generalize hl : max (place + (mag.log2 : Int) - (f.fractionBits : Int)) L = last
    have hlL : L ≤ last := by omega
    have hl1 : place + (mag.log2 : Int) - (f.fractionBits : Int) ≤ last := by omega
    have hl2 : last = L ∨ last = place + (mag.log2 : Int) - (f.fractionBits : Int) := by omega
    have m1 : mag < 2 ^ (mag.log2 + 1) := Nat.lt_log2_self
    have m2 : 2 ^ mag.log2 ≤ mag := Nat.log2_self_le h0
    rw [Nat.shiftLeft_eq]
    by_cases hc : last ≤ place
    · have e1 : (last - place).toNat = 0 := by omega
      rw [e1]
      have hk := cut_even neg (mag * 2 ^ (place - last).toNat) 0
      refine rne_of_cut hp hD (by simp) ?_ hk ?_ ?_
      · have e2 : (place - L).toNat = (place - last).toNat + (last - L).toNat := by omega
        have e3 : (L - place).toNat = 0 := by omega
        rw [e2, e3, Nat.pow_add, Nat.pow_zero, Nat.mul_one, Nat.mul_one, Nat.mul_assoc]
      · rw [Nat.pow_zero, Nat.mul_one]
        calc mag * 2 ^ (place - last).toNat < 2 ^ (mag.log2 + 1) * 2 ^ (place - last).toNat := Nat.mul_lt_mul_of_pos_right m1 (Nat.two_pow_pos _)
          _ = 2 ^ (mag.log2 + 1 + (place - last).toNat) := (Nat.pow_add 2 (mag.log2 + 1) _).symm
          _ ≤ 2 ^ (f.fractionBits + 1) := Nat.pow_le_pow_right (by omega) (by omega)
          _ = 2 * f.binade := by unfold Format.binade; rw [Nat.pow_succ, Nat.mul_comm]
      · rcases hl2 with h | h
        · left; omega
        · right
          rw [Nat.pow_zero, Nat.mul_one]
          calc f.binade = 2 ^ f.fractionBits := rfl
            _ = 2 ^ (mag.log2 + (place - last).toNat) := by congr 1; omega
            _ = 2 ^ mag.log2 * 2 ^ (place - last).toNat := by rw [Nat.pow_add]
            _ ≤ mag * 2 ^ (place - last).toNat := Nat.mul_le_mul_right _ m2
    · have e1 : (place - last).toNat = 0 := by omega
      rw [e1, Nat.pow_zero, Nat.mul_one]
      have hk := cut_even neg mag (last - place).toNat
      refine rne_of_cut hp hD (Nat.two_pow_pos _) ?_ hk ?_ ?_
      · rw [Nat.mul_assoc, Nat.mul_assoc, ← Nat.pow_add, ← Nat.pow_add]
        congr 2; omega
      · calc mag < 2 ^ (mag.log2 + 1) := m1
          _ ≤ 2 ^ (f.fractionBits + 1 + (last - place).toNat) := Nat.pow_le_pow_right (by omega) (by omega)
          _ = 2 * f.binade * 2 ^ (last - place).toNat := by rw [Nat.pow_add, Nat.pow_succ, Nat.mul_comm 2]; rfl
      · rcases hl2 with h | h
        · left; omega
        · right
          calc f.binade * 2 ^ (last - place).toNat = 2 ^ (f.fractionBits + (last - place).toNat) := by rw [Nat.pow_add]; rfl
            _ = 2 ^ mag.log2 := by congr 1; omega
            _ ≤ mag := m2
end Fl
namespace Fl
open Ieee

/-- A format with at least two bits of each field. -/
structure Ok (f : Format) : Prop where
  hp : 2 ≤ f.fractionBits
  he : 2 ≤ f.exponentBits
theorem ok_double : Ok double := ⟨by decide, by decide⟩
theorem ok_single : Ok single := ⟨by decide, by decide⟩

/-- The rung and the sign of a word. -/
def rung (f : Format) (x : Nat) : Nat := x % f.signWeight
def sgn (f : Format) (x : Nat) : Bool := x / f.signWeight % 2 == 1
def fin (f : Format) (x : Nat) : Prop := rung f x < f.infRung
/-- A finite word's value, in units of the least place. -/
def sval (f : Format) (x : Nat) : Int := if sgn f x then -(val f (rung f x) : Int) else (val f (rung f x) : Int)

theorem signWeight_pos (f : Format) : 0 < f.signWeight := Nat.two_pow_pos _
theorem width_two (f : Format) : 2 ^ f.width = 2 * f.signWeight := by
  unfold Format.width Format.signWeight
  rw [Nat.add_assoc, Nat.add_comm 1, Nat.pow_succ, Nat.mul_comm]

theorem infRung_add (f : Format) : f.infRung + f.binade = f.signWeight := by
  have h : 0 < 2 ^ f.exponentBits := Nat.two_pow_pos _
  unfold Format.infRung Format.signWeight
  rw [Nat.pow_add, ← Nat.succ_mul]
  exact congrArg (· * f.binade) (by omega)

theorem infRung_lt (f : Format) : f.infRung < f.signWeight := by
  have := infRung_add f; have := binade_pos f; omega

theorem binade_le_inf {f : Format} (ok : Ok f) : 3 * f.binade ≤ f.infRung := by
  have : 4 ≤ 2 ^ f.exponentBits := by
    calc 4 = 2 ^ 2 := rfl
      _ ≤ 2 ^ f.exponentBits := Nat.pow_le_pow_right (by omega) ok.he
  exact Nat.mul_le_mul_right f.binade (show 3 ≤ 2 ^ f.exponentBits - 1 by omega)

theorem rung_lt (f : Format) (x : Nat) : rung f x < f.signWeight := Nat.mod_lt _ (signWeight_pos f)

theorem rung_word {f : Format} (s : Bool) {r : Nat} (h : r < f.signWeight) : rung f (f.word s r) = r := by
  unfold rung Format.word
  cases s
  · simp [Nat.mod_eq_of_lt h]
  · simp [Nat.mod_eq_of_lt h]

theorem sgn_word {f : Format} (s : Bool) {r : Nat} (h : r < f.signWeight) : sgn f (f.word s r) = s := by
  have := signWeight_pos f
  unfold sgn Format.word
  cases s
  · simp [Nat.div_eq_of_lt h]
  · simp [Nat.add_div_left, this, Nat.div_eq_of_lt h]

theorem word_lt {f : Format} (s : Bool) {r : Nat} (h : r < f.signWeight) : f.word s r < 2 ^ f.width := by
  rw [width_two]; unfold Format.word; cases s <;> simp <;> omega

theorem word_split {f : Format} {x : Nat} (h : x < 2 ^ f.width) : x = f.word (sgn f x) (rung f x) := by
  have hp := signWeight_pos f
  rw [width_two] at h
  have hd := Nat.div_add_mod x f.signWeight
  have hlt : x / f.signWeight < 2 := by
    rw [Nat.div_lt_iff_lt_mul hp]; omega
  unfold sgn rung Format.word
  generalize x / f.signWeight = q at *
  rcases (show q = 0 ∨ q = 1 by omega) with rfl | rfl
  · simp; omega
  · simp; omega

theorem word_inj {f : Format} {x y : Nat} (hx : x < 2 ^ f.width) (hy : y < 2 ^ f.width) (hs : sgn f x = sgn f y) (hr : rung f x = rung f y) : x = y := by
  rw [word_split hx, word_split hy, hs, hr]

theorem read_eq (f : Format) (x : Nat) : f.read x = (if rung f x < f.binade then Datum.number (sgn f x) (rung f x) f.leastPlace
    else if rung f x < f.infRung then Datum.number (sgn f x) (f.binade + rung f x % f.binade) (f.leastPlace + (rung f x / f.binade - 1 : Nat))
    else if rung f x = f.infRung then Datum.infinity (sgn f x) else Datum.nan (sgn f x) (rung f x - f.infRung)) := rfl

/-- A finite word reads as a number of its value. -/
theorem read_fin {f : Format} {x : Nat} (h : fin f x) : ∃ m e, f.read x = .number (sgn f x) m e ∧ f.leastPlace ≤ e ∧ m * 2 ^ (e - f.leastPlace).toNat = val f (rung f x) := by
  unfold fin at h
  rw [read_eq]
  by_cases h1 : rung f x < f.binade
  · refine ⟨rung f x, f.leastPlace, by rw [if_pos h1], Int.le_refl _, ?_⟩
    rw [val_small h1]; simp
  · refine ⟨_, _, by rw [if_neg h1, if_pos h], by omega, ?_⟩
    unfold val
    rw [if_neg h1]
    congr 2
    omega

theorem read_inf {f : Format} (ok : Ok f) {x : Nat} (h : rung f x = f.infRung) : f.read x = .infinity (sgn f x) := by
  have h1 := binade_le_inf ok
  have h2 := binade_pos f
  rw [read_eq, if_neg (by omega), if_neg (by omega), if_pos h]

theorem read_nan {f : Format} (ok : Ok f) {x : Nat} (h : f.infRung < rung f x) : f.read x = .nan (sgn f x) (rung f x - f.infRung) := by
  have h1 := binade_le_inf ok
  have h2 := binade_pos f
  rw [read_eq, if_neg (by omega), if_neg (by omega), if_neg (by omega)]

/-- The three kinds of words. -/
theorem kinds (f : Format) (x : Nat) : fin f x ∨ rung f x = f.infRung ∨ f.infRung < rung f x := by unfold fin; omega

def isNaN (f : Format) (x : Nat) : Bool := decide (f.infRung < rung f x)
def isInf (f : Format) (x : Nat) : Bool := decide (rung f x = f.infRung)
def isFin (f : Format) (x : Nat) : Bool := decide (rung f x < f.infRung)

theorem isNaN_read {f : Format} (ok : Ok f) (x : Nat) : (f.read x).isNaN = isNaN f x := by
  unfold isNaN
  rcases kinds f x with h | h | h
  · obtain ⟨m, e, hr, _⟩ := read_fin h
    rw [hr]; unfold fin at h
    have : ¬ f.infRung < rung f x := by omega
    simp [Datum.isNaN, this]
  · rw [read_inf ok h]; simp [Datum.isNaN, h]
  · rw [read_nan ok h]; simp [Datum.isNaN, h]

theorem signed_eq (s : Bool) (m up : Nat) : signed s m up = if s then -((m * 2 ^ up : Nat) : Int) else ((m * 2 ^ up : Nat) : Int) := by
  unfold signed; rw [Nat.shiftLeft_eq]

theorem sval_eq {f : Format} {x m : Nat} {e base : Int} (hb : f.leastPlace ≤ base) (he : base ≤ e) (h : m * 2 ^ (e - f.leastPlace).toNat = val f (rung f x)) :
    signed (sgn f x) m (e - base).toNat * (2 : Int) ^ (base - f.leastPlace).toNat = sval f x := by
  have h1 : (e - f.leastPlace).toNat = (e - base).toNat + (base - f.leastPlace).toNat := by omega
  rw [h1, Nat.pow_add, ← Nat.mul_assoc] at h
  rw [signed_eq, sval, ← h]
  cases sgn f x
  · simp
  · simp [Int.neg_mul]

/-- 'b' is 'N / D' with a sign, rounded. -/
def Rounds (f : Format) (s : Bool) (N D b : Nat) : Prop := ∃ r, Rne f N D r ∧ b = f.word s (min r f.infRung)

theorem Rounds.congr {f : Format} {s : Bool} {N D N' D' b b' : Nat} (hD : 0 < D) (hD' : 0 < D') (e : N * D' = N' * D) (h : Rounds f s N D b) (h' : Rounds f s N' D' b') : b = b' := by
  obtain ⟨r, h1, rfl⟩ := h
  obtain ⟨r', h1', rfl⟩ := h'
  rw [h1.congr hD hD' e h1']

theorem Rounds.lt {f : Format} {s : Bool} {N D b : Nat} (h : Rounds f s N D b) : b < 2 ^ f.width := by
  obtain ⟨r, _, rfl⟩ := h
  have := infRung_lt f
  exact word_lt s (by omega)

theorem Rounds.sgn {f : Format} {s : Bool} {N D b : Nat} (h : Rounds f s N D b) : Fl.sgn f b = s := by
  obtain ⟨r, _, rfl⟩ := h
  have := infRung_lt f
  exact sgn_word s (by omega)

theorem Rounds.rung {f : Format} {s : Bool} {N D b : Nat} (h : Rounds f s N D b) : ∃ r, Rne f N D r ∧ Fl.rung f b = min r f.infRung := by
  obtain ⟨r, h1, rfl⟩ := h
  have := infRung_lt f
  exact ⟨r, h1, rung_word s (by omega)⟩

theorem nearest_rounds {f : Format} (ok : Ok f) (neg : Bool) (mag : Nat) (place : Int) :
    Rounds f neg (mag * 2 ^ (place - f.leastPlace).toNat) (2 ^ (f.leastPlace - place).toNat) (f.nearest neg mag place) :=
  ⟨_, rungOf_rne (by have := ok.hp; omega) neg mag place, nearest_eq f neg mag place⟩

theorem natAbs_mul_pow (a : Int) (k : Nat) : (a * (2 : Int) ^ k).natAbs = a.natAbs * 2 ^ k := by
  rw [Int.natAbs_mul, Int.natAbs_pow]; rfl

/-- THE SUM of two finite words: the exact sum, rounded once. -/
theorem add_fin {f : Format} (ok : Ok f) {x y : Nat} (hx : fin f x) (hy : fin f y) :
    ∃ b, f.add x y = some b ∧ Rounds f (if sval f x + sval f y = 0 then sgn f x && sgn f y else decide (sval f x + sval f y < 0)) (sval f x + sval f y).natAbs 1 b := by
  obtain ⟨m, i, hrx, hi, hvx⟩ := read_fin hx
  obtain ⟨n, j, hry, hj, hvy⟩ := read_fin hy
  refine ⟨_, by rw [Format.add, hrx, hry]; rfl, ?_⟩
  have hb : f.leastPlace ≤ min i j := by omega
  have e1 := sval_eq (x := x) hb (Int.min_le_left i j) hvx
  have e2 := sval_eq (x := y) hb (Int.min_le_right i j) hvy
  have hsum : (signed (sgn f x) m (i - min i j).toNat + signed (sgn f y) n (j - min i j).toNat) * (2 : Int) ^ (min i j - f.leastPlace).toNat = sval f x + sval f y := by
    rw [Int.add_mul, e1, e2]
  generalize signed (sgn f x) m (i - min i j).toNat + signed (sgn f y) n (j - min i j).toNat = T at *
  have hpos : (0 : Int) < (2 : Int) ^ (min i j - f.leastPlace).toNat := Int.pow_pos (by omega)
  have hz : (T = 0) ↔ (sval f x + sval f y = 0) := by
    rw [← hsum]; constructor
    · intro h; rw [h, Int.zero_mul]
    · intro h; rcases Int.mul_eq_zero.1 h with h | h
      · exact h
      · omega
  have hn : (T < 0) ↔ (sval f x + sval f y < 0) := by
    rw [← hsum]; constructor
    · intro h; exact Int.mul_neg_of_neg_of_pos h hpos
    · intro h; refine Int.lt_of_not_ge fun h' => ?_
      have := Int.mul_nonneg h' (Int.le_of_lt hpos); omega
  have hr := nearest_rounds ok (if T = 0 then sgn f x && sgn f y else decide (T < 0)) T.natAbs (min i j)
  have e3 : (f.leastPlace - min i j).toNat = 0 := by omega
  rw [e3, ← natAbs_mul_pow, hsum] at hr
  simp only [hz, hn] at hr
  simp only [Format.write, hz, hn]
  exact hr
end Fl
namespace Fl
open Ieee

/-- A word with its sign bit turned. -/
def flip (f : Format) (x : Nat) : Nat := x ^^^ f.signWeight

theorem flip_eq {f : Format} {x : Nat} (h : x < 2 ^ f.width) : flip f x = f.word (!sgn f x) (rung f x) := by
  have e1 : flip f x / f.signWeight = x / f.signWeight ^^^ 1 := by
    unfold flip
    have := Nat.xor_div_two_pow (a := x) (b := f.signWeight) (n := f.exponentBits + f.fractionBits)
    unfold Format.signWeight at *
    rw [this, Nat.div_self (Nat.two_pow_pos _)]
  have e2 : flip f x % f.signWeight = x % f.signWeight := by
    unfold flip
    have := Nat.xor_mod_two_pow (a := x) (b := f.signWeight) (n := f.exponentBits + f.fractionBits)
    unfold Format.signWeight at *
    rw [this, Nat.mod_self, Nat.xor_zero]
  have hlt : flip f x < 2 ^ f.width := by
    refine Nat.xor_lt_two_pow h ?_
    rw [width_two]; have := signWeight_pos f; omega
  rw [word_split hlt]
  have hx : x / f.signWeight < 2 := by
    rw [Nat.div_lt_iff_lt_mul (signWeight_pos f), ← width_two]; exact h
  have s1 : sgn f (flip f x) = !sgn f x := by
    unfold sgn
    rw [e1]
    generalize x / f.signWeight = q at *
    rcases (show q = 0 ∨ q = 1 by omega) with rfl | rfl <;> decide
  rw [s1]
  unfold rung
  rw [e2]

theorem flip_lt {f : Format} {x : Nat} (h : x < 2 ^ f.width) : flip f x < 2 ^ f.width := by
  rw [flip_eq h]; exact word_lt _ (rung_lt f x)
theorem rung_flip {f : Format} {x : Nat} (h : x < 2 ^ f.width) : rung f (flip f x) = rung f x := by
  rw [flip_eq h, rung_word _ (rung_lt f x)]
theorem sgn_flip {f : Format} {x : Nat} (h : x < 2 ^ f.width) : sgn f (flip f x) = !sgn f x := by
  rw [flip_eq h, sgn_word _ (rung_lt f x)]
theorem flip_flip (f : Format) (x : Nat) : flip f (flip f x) = x := by
  unfold flip; rw [Nat.xor_assoc, Nat.xor_self, Nat.xor_zero]
theorem sval_flip {f : Format} {x : Nat} (h : x < 2 ^ f.width) : sval f (flip f x) = -sval f x := by
  unfold sval; rw [sgn_flip h, rung_flip h]; cases sgn f x <;> simp

theorem read_flip {f : Format} {x : Nat} (h : x < 2 ^ f.width) : f.read (flip f x) = (f.read x).opposite := by
  rw [read_eq, read_eq, rung_flip h, sgn_flip h]
  split
  · rfl
  · split
    · rfl
    · split <;> rfl

/-- A difference is a sum with the opposite. -/
theorem sub_eq {f : Format} {x y : Nat} (hy : y < 2 ^ f.width) : f.sub x y = f.add x (flip f y) := by
  unfold Format.sub Format.add
  rw [read_flip hy]

theorem least_le {f : Format} (ok : Ok f) : f.leastPlace ≤ 0 := by
  have h := ok.he
  unfold Format.leastPlace
  have : 2 ≤ (2 : Int) ^ (f.exponentBits - 1) := by
    obtain ⟨k, hk⟩ : ∃ k, f.exponentBits - 1 = k + 1 := ⟨f.exponentBits - 2, by omega⟩
    rw [hk, Int.pow_succ]
    have : (0 : Int) < 2 ^ k := Int.pow_pos (by omega)
    omega
  omega

/-- Units in one. -/
def one_ (f : Format) : Nat := 2 ^ (-f.leastPlace).toNat
theorem one_pos (f : Format) : 0 < one_ f := Nat.two_pow_pos _

theorem Rne.of_eq {f : Format} {N D N' D' r : Nat} (hD : 0 < D) (hD' : 0 < D') (e : N * D' = N' * D) (h : Rne f N D r) : Rne f N' D' r := by
  rw [← Rne.scale D hD, ← e, Nat.mul_comm D' D, Rne.scale D' hD']
  exact h

theorem Rounds.of_eq {f : Format} {s : Bool} {N D N' D' b : Nat} (hD : 0 < D) (hD' : 0 < D') (e : N * D' = N' * D) (h : Rounds f s N D b) : Rounds f s N' D' b := by
  obtain ⟨r, h1, h2⟩ := h
  exact ⟨r, h1.of_eq hD hD' e, h2⟩

/-- THE PRODUCT of two finite words: the exact product, rounded once. -/
theorem mul_fin {f : Format} (ok : Ok f) {x y : Nat} (hx : fin f x) (hy : fin f y) :
    ∃ b, f.mul x y = some b ∧ Rounds f (sgn f x ^^ sgn f y) (val f (rung f x) * val f (rung f y)) (one_ f) b := by
  obtain ⟨m, i, hrx, hi, hvx⟩ := read_fin hx
  obtain ⟨n, j, hry, hj, hvy⟩ := read_fin hy
  refine ⟨_, by rw [Format.mul, hrx, hry]; rfl, ?_⟩
  have hr := nearest_rounds ok (sgn f x ^^ sgn f y) (m * n) (i + j)
  have hl := least_le ok
  refine hr.of_eq (Nat.two_pow_pos _) (one_pos f) ?_
  rw [← hvx, ← hvy]
  unfold one_
  generalize f.leastPlace = L at *
  have e1 : m * 2 ^ (i - L).toNat * (n * 2 ^ (j - L).toNat) * 2 ^ (L - (i + j)).toNat = m * n * 2 ^ ((i - L).toNat + (j - L).toNat + (L - (i + j)).toNat) := by
    rw [Nat.pow_add, Nat.pow_add]
    ac_rfl
  have e2 : m * n * 2 ^ (i + j - L).toNat * 2 ^ (-L).toNat = m * n * 2 ^ ((i + j - L).toNat + (-L).toNat) := by
    rw [Nat.pow_add]; ac_rfl
  rw [e1, e2]
  congr 2
  omega

/-- The two neighbours' sum is a number of few digits times a power of two. -/
theorem mid_form (f : Format) (r : Nat) : ∃ c e, val f r + val f (r + 1) = c * 2 ^ e ∧ c < 4 * f.binade := by
  rw [val_succ]
  rcases rung_cases f r with h | ⟨q, m, hm, rfl⟩
  · refine ⟨2 * r + 1, 0, ?_, by omega⟩
    rw [val_small h, gap_small h]; omega
  · refine ⟨2 * (f.binade + m) + 1, q, ?_, by omega⟩
    rw [val_mul_add hm, gap_mul_add hm, Nat.add_mul (2 * (f.binade + m)), Nat.one_mul, Nat.mul_assoc]; omega

/-- A quotient cut off, with one digit more that tells whether anything was left, is rounded as the quotient itself. -/
theorem rne_sticky {f : Format} {A n a b r : Nat} (hn : 0 < n) (hq : 2 * f.binade ≤ A / n)
    (h : Rne f ((2 * (A / n) + (A % n != 0).toNat) * 2 ^ a) (2 * 2 ^ b) r) : Rne f (A * 2 ^ a) (n * 2 ^ b) r := by
  have hd := Nat.div_add_mod A n
  have hm := Nat.mod_lt A hn
  have hst : (A % n != 0).toNat = if A % n = 0 then 0 else 1 := by by_cases h0 : A % n = 0 <;> simp [h0]
  rw [hst] at h
  have ha := Nat.two_pow_pos a
  have hb := Nat.two_pow_pos b
  -- at each sum of neighbours the two stand alike
  have key : ∀ c e : Nat, c < 4 * f.binade →
      (2 * ((2 * (A / n) + if A % n = 0 then 0 else 1) * 2 ^ a) < c * 2 ^ e * (2 * 2 ^ b) → 2 * (A * 2 ^ a) < c * 2 ^ e * (n * 2 ^ b)) ∧
      (2 * ((2 * (A / n) + if A % n = 0 then 0 else 1) * 2 ^ a) = c * 2 ^ e * (2 * 2 ^ b) → 2 * (A * 2 ^ a) = c * 2 ^ e * (n * 2 ^ b)) ∧
      (c * 2 ^ e * (2 * 2 ^ b) < 2 * ((2 * (A / n) + if A % n = 0 then 0 else 1) * 2 ^ a) → c * 2 ^ e * (n * 2 ^ b) < 2 * (A * 2 ^ a)) := by
    intro c e hc
    generalize hQ : A / n = Q at *
    generalize hR : A % n = R at *
    have hA : A = n * Q + R := hd.symm
    have hsle : (if R = 0 then 0 else 1) ≤ 1 := by split <;> omega
    by_cases hbig : e + b ≤ a
    · -- the sum lies below both
      have l1 : c * 2 ^ e * 2 ^ b < 4 * f.binade * 2 ^ a := by
        rw [Nat.mul_assoc, ← Nat.pow_add]
        exact Nat.lt_of_lt_of_le (Nat.mul_lt_mul_of_pos_right hc (Nat.two_pow_pos _)) (Nat.mul_le_mul_left _ (Nat.pow_le_pow_right (by omega) hbig))
      have l2 : 4 * f.binade * 2 ^ a ≤ 2 * Q * 2 ^ a := Nat.mul_le_mul_right _ (by omega)
      have l3 : c * 2 ^ e * (2 * 2 ^ b) < 2 * ((2 * Q + if R = 0 then 0 else 1) * 2 ^ a) := by
        have : c * 2 ^ e * (2 * 2 ^ b) = 2 * (c * 2 ^ e * 2 ^ b) := by ac_rfl
        rw [this, Nat.add_mul]
        omega
      have l4 : c * 2 ^ e * (n * 2 ^ b) < 2 * (A * 2 ^ a) := by
        have e1 : c * 2 ^ e * (n * 2 ^ b) = n * (c * 2 ^ e * 2 ^ b) := by ac_rfl
        have e2 : n * (2 * Q * 2 ^ a) ≤ 2 * (A * 2 ^ a) := by
          have : n * (2 * Q * 2 ^ a) = 2 * ((n * Q) * 2 ^ a) := by ac_rfl
          rw [this, hA]
          exact Nat.mul_le_mul_left _ (Nat.mul_le_mul_right _ (by omega))
        rw [e1]
        exact Nat.lt_of_lt_of_le (Nat.mul_lt_mul_of_pos_left (Nat.lt_of_lt_of_le l1 l2) hn) e2
      exact ⟨fun h => by omega, fun h => by omega, fun _ => l4⟩
    · -- it is a whole number of units
      obtain ⟨k, hk⟩ : ∃ k, e + b = a + 1 + k := ⟨e + b - (a + 1), by omega⟩
      have ht : c * 2 ^ e * 2 ^ b = 2 * (c * 2 ^ k) * 2 ^ a := by
        rw [Nat.mul_assoc, ← Nat.pow_add, hk, Nat.pow_add, Nat.pow_succ]; ac_rfl
      generalize c * 2 ^ k = T at ht
      have t1 : c * 2 ^ e * (2 * 2 ^ b) = 2 * (2 * T * 2 ^ a) := by rw [← ht]; ac_rfl
      have t2 : c * 2 ^ e * (n * 2 ^ b) = 2 * (n * T * 2 ^ a) := by
        have : c * 2 ^ e * (n * 2 ^ b) = n * (c * 2 ^ e * 2 ^ b) := by ac_rfl
        rw [this, ht]; ac_rfl
      rw [t1, t2]
      have c1 : ∀ u v : Nat, 2 * (u * 2 ^ a) < 2 * (v * 2 ^ a) ↔ u < v := fun u v => by
        rw [Nat.mul_lt_mul_left (by omega)]; exact Nat.mul_lt_mul_right ha
      have c2 : ∀ u v : Nat, 2 * (u * 2 ^ a) = 2 * (v * 2 ^ a) ↔ u = v := fun u v => by
        rw [Nat.mul_right_inj (by omega)]; exact Nat.mul_left_inj (by omega)
      rw [c1, c2, c1, c1, c2, c1, hA]
      have lt_or : ∀ u v : Nat, u < v → n * u + n ≤ n * v := fun u v h => by
        rw [← Nat.mul_succ]; exact Nat.mul_le_mul_left _ h
      refine ⟨fun h => ?_, fun h => ?_, fun h => ?_⟩
      · have := lt_or Q T (by omega); omega
      · by_cases hR0 : R = 0
        · rw [if_pos hR0] at h; have : Q = T := by omega
          rw [hR0, this]; omega
        · rw [if_neg hR0] at h; omega
      · by_cases hQT : T < Q
        · have := lt_or T Q hQT; omega
        · by_cases hR0 : R = 0
          · rw [if_pos hR0] at h; omega
          · have : Q = T := by rw [if_neg hR0] at h; omega
            rw [this]; omega
  constructor
  · obtain ⟨c, e, hS, hc⟩ := mid_form f r
    have k := key c e hc
    have h1 := h.1
    rw [hS] at h1 ⊢
    rcases h1 with h1 | ⟨h1, hp⟩
    · exact .inl (k.1 h1)
    · exact .inr ⟨k.2.1 h1, hp⟩
  · rintro q rfl
    obtain ⟨c, e, hS, hc⟩ := mid_form f q
    have k := key c e hc
    have h1 := h.2 q rfl
    rw [hS] at h1 ⊢
    rcases h1 with h1 | ⟨h1, hp⟩
    · exact .inl (k.2.2 h1)
    · exact .inr ⟨(k.2.1 h1.symm).symm, hp⟩

/-- THE QUOTIENT of two finite words, the second not 0: the exact quotient, rounded once. -/
theorem div_fin {f : Format} (ok : Ok f) {x y : Nat} (hx : fin f x) (hy : fin f y) (h0 : rung f y ≠ 0) :
    ∃ b, f.div x y = some b ∧ Rounds f (sgn f x ^^ sgn f y) (val f (rung f x) * one_ f) (val f (rung f y)) b := by
  obtain ⟨m, i, hrx, hi, hvx⟩ := read_fin hx
  obtain ⟨n, j, hry, hj, hvy⟩ := read_fin hy
  have hvpos : 0 < val f (rung f y) := by have := le_val f (rung f y); omega
  have hn : n ≠ 0 := by
    intro h; rw [h, Nat.zero_mul] at hvy; omega
  have hnp : 0 < n := by omega
  refine ⟨_, by rw [Format.div, hrx, hry]; simp only [Datum.quotient, hn, if_false]; rfl, ?_⟩
  have hl := least_le ok
  generalize hmore : f.fractionBits + 2 + n.log2 - m.log2 = more
  rw [Nat.shiftLeft_eq]
  generalize hA : m * 2 ^ more = A
  obtain ⟨r, hrne, hb⟩ := nearest_rounds ok (sgn f x ^^ sgn f y) (2 * (A / n) + (A % n != 0).toNat) (i - j - more - 1)
  refine ⟨r, ?_, hb⟩
  by_cases hm0 : m = 0
  · subst hm0
    have hA0 : A = 0 := by rw [← hA, Nat.zero_mul]
    subst hA0
    rw [Nat.zero_mul] at hvx
    rw [← hvx]
    refine Rne.of_eq (Nat.two_pow_pos _) hvpos ?_ hrne
    simp
  · -- the digits suffice
    have hq : 2 * f.binade ≤ A / n := by
      rw [Nat.le_div_iff_mul_le hnp, ← hA]
      have m1 : 2 ^ m.log2 ≤ m := Nat.log2_self_le hm0
      have n1 : n < 2 ^ (n.log2 + 1) := Nat.lt_log2_self
      calc 2 * f.binade * n ≤ 2 * f.binade * 2 ^ (n.log2 + 1) := Nat.mul_le_mul_left _ (Nat.le_of_lt n1)
        _ = 2 ^ (f.fractionBits + 2 + n.log2) := by
          unfold Format.binade
          rw [show f.fractionBits + 2 + n.log2 = 1 + f.fractionBits + (n.log2 + 1) from by omega, Nat.pow_add 2 (1 + f.fractionBits), Nat.pow_add 2 1]
        _ ≤ 2 ^ (m.log2 + more) := Nat.pow_le_pow_right (by omega) (by omega)
        _ = 2 ^ m.log2 * 2 ^ more := Nat.pow_add _ _ _
        _ ≤ m * 2 ^ more := Nat.mul_le_mul_right _ m1
    generalize hL : f.leastPlace = L at *
    -- the word's place as two powers
    have hrne2 : Rne f ((2 * (A / n) + (A % n != 0).toNat) * 2 ^ (i - j - more - L).toNat) (2 * 2 ^ (L - (i - j - more)).toNat) r := by
      refine Rne.of_eq (Nat.two_pow_pos _) (Nat.mul_pos (by omega) (Nat.two_pow_pos _)) ?_ hrne
      generalize 2 * (A / n) + (A % n != 0).toNat = G
      have e1 : G * 2 ^ (i - j - more - 1 - L).toNat * (2 * 2 ^ (L - (i - j - more)).toNat) = G * 2 ^ ((i - j - more - 1 - L).toNat + (1 + (L - (i - j - more)).toNat)) := by
        rw [Nat.pow_add, Nat.pow_add, Nat.pow_one]; ac_rfl
      have e2 : G * 2 ^ (i - j - more - L).toNat * 2 ^ (L - (i - j - more - 1)).toNat = G * 2 ^ ((i - j - more - L).toNat + (L - (i - j - more - 1)).toNat) := by
        rw [Nat.pow_add]; ac_rfl
      rw [e1, e2]
      congr 2
      omega
    have h3 := rne_sticky hnp hq hrne2
    refine Rne.of_eq (Nat.mul_pos hnp (Nat.two_pow_pos _)) hvpos ?_ h3
    rw [← hvx, ← hvy, ← hA]
    unfold one_
    rw [hL]
    have e1 : m * 2 ^ more * 2 ^ (i - j - more - L).toNat * (n * 2 ^ (j - L).toNat) = m * n * 2 ^ (more + (i - j - more - L).toNat + (j - L).toNat) := by
      rw [Nat.pow_add, Nat.pow_add]; ac_rfl
    have e2 : m * 2 ^ (i - L).toNat * 2 ^ (-L).toNat * (n * 2 ^ (L - (i - j - more)).toNat) = m * n * 2 ^ ((i - L).toNat + (-L).toNat + (L - (i - j - more)).toNat) := by
      rw [Nat.pow_add, Nat.pow_add]; ac_rfl
    rw [e1, e2]
    congr 2
    omega
end Fl
namespace Fl
open Ieee Go

theorem ok_kind (k : FloatKind) : Ok k.format := by cases k; exact ok_single; exact ok_double

/-- The one NaN. -/
def qn (k : FloatKind) : Nat := k.format.infRung + 1
/-- A word, all NaNs being one. -/
def cn (k : FloatKind) (x : Nat) : Nat := if isNaN k.format x then qn k else x

theorem isNaN_qn (k : FloatKind) : isNaN k.format (qn k) = true := by cases k <;> decide
theorem qn_lt (k : FloatKind) : qn k < 2 ^ k.format.width := by cases k <;> decide
theorem cn_of_nan {k : FloatKind} {x : Nat} (h : isNaN k.format x = true) : cn k x = qn k := by simp [cn, h]
theorem cn_of_not {k : FloatKind} {x : Nat} (h : isNaN k.format x = false) : cn k x = x := by simp [cn, h]
theorem cn_cn (k : FloatKind) (x : Nat) : cn k (cn k x) = cn k x := by
  by_cases h : isNaN k.format x = true
  · rw [cn_of_nan h, cn_of_nan (isNaN_qn k)]
  · have h' : isNaN k.format x = false := by simpa using h
    rw [cn_of_not h', cn_of_not h']
theorem isNaN_cn (k : FloatKind) (x : Nat) : isNaN k.format (cn k x) = isNaN k.format x := by
  by_cases h : isNaN k.format x = true
  · rw [cn_of_nan h, isNaN_qn, h]
  · rw [cn_of_not (by simpa using h)]
theorem cn_lt {k : FloatKind} {x : Nat} (h : x < 2 ^ k.format.width) : cn k x < 2 ^ k.format.width := by
  unfold cn; split
  · exact qn_lt k
  · exact h
/-- Two words are one up to NaN just if their bits are the same, or both are NaN. -/
theorem cn_eq_iff {k : FloatKind} {x y : Nat} : cn k x = cn k y ↔ x = y ∨ (isNaN k.format x = true ∧ isNaN k.format y = true) := by
  by_cases hx : isNaN k.format x = true <;> by_cases hy : isNaN k.format y = true
  · simp [cn_of_nan hx, cn_of_nan hy, hx, hy]
  · rw [cn_of_nan hx, cn_of_not (by simpa using hy)]
    constructor
    · intro h; rw [← h, isNaN_qn] at hy; simp at hy
    · rintro (rfl | ⟨_, h⟩)
      · exact absurd hx hy
      · exact absurd h hy
  · rw [cn_of_nan hy, cn_of_not (by simpa using hx)]
    constructor
    · intro h; rw [h, isNaN_qn] at hx; simp at hx
    · rintro (rfl | ⟨h, _⟩)
      · exact absurd hy hx
      · exact absurd h hx
  · rw [cn_of_not (by simpa using hx), cn_of_not (by simpa using hy)]
    simp [hx]

/-- A NaN reads as a NaN; else a word and its canonical one are one. -/
theorem read_cn_cases (k : FloatKind) (x : Nat) : cn k x = x ∨ (∃ s t s' t', k.format.read x = .nan s t ∧ k.format.read (cn k x) = .nan s' t') := by
  by_cases h : isNaN k.format x = true
  · right
    have h1 := read_nan (ok_kind k) (x := x) (by simpa [isNaN] using h)
    have h2 := read_nan (ok_kind k) (x := cn k x) (by have := isNaN_cn k x; rw [h] at this; simpa [isNaN] using this)
    exact ⟨_, _, _, _, h1, h2⟩
  · left; exact cn_of_not (by simpa using h)

theorem sum_nan_l (s t d) : Datum.sum (.nan s t) d = none := by simp [Datum.sum]
theorem sum_nan_r (s t d) : Datum.sum d (.nan s t) = none := by cases d <;> simp [Datum.sum]
theorem product_nan_l (s t d) : Datum.product (.nan s t) d = none := by simp [Datum.product]
theorem product_nan_r (s t d) : Datum.product d (.nan s t) = none := by cases d <;> simp [Datum.product]
theorem quotient_nan_l (g s t d) : Datum.quotient g (.nan s t) d = none := by simp [Datum.quotient]
theorem quotient_nan_r (g s t d) : Datum.quotient g d (.nan s t) = none := by cases d <;> simp [Datum.quotient]

/-- An operation hangs on its operands up to NaN. -/
theorem floatBits_cn (op : BinOp) (k : FloatKind) (x y : Nat) : floatBits op k (cn k x) (cn k y) = floatBits op k x y := by
  have hx := read_cn_cases k x
  have hy := read_cn_cases k y
  rcases hx with hx | ⟨s, t, s', t', h1, h2⟩
  · rcases hy with hy | ⟨s, t, s', t', h1, h2⟩
    · rw [hx, hy]
    · rw [hx]
      cases op <;> simp only [floatBits, Format.add, Format.sub, Format.mul, Format.div, h1, h2, Datum.opposite, sum_nan_r, product_nan_r, quotient_nan_r]
  · cases op <;> simp only [floatBits, Format.add, Format.sub, Format.mul, Format.div, h1, h2, sum_nan_l, product_nan_l, quotient_nan_l]

/-- The operation as a function, the one NaN where it has no answer. -/
def fop (op : BinOp) (k : FloatKind) (x y : Nat) : Nat := (floatBits op k x y).getD (qn k)

theorem fop_cn (op : BinOp) (k : FloatKind) (x y : Nat) : fop op k (cn k x) (cn k y) = fop op k x y := by
  unfold fop; rw [floatBits_cn]

theorem nearest_not_nan (k : FloatKind) (s : Bool) (m : Nat) (e : Int) : isNaN k.format (k.format.nearest s m e) = false := by
  obtain ⟨r, _, h⟩ := (nearest_rounds (ok_kind k) s m e).rung
  simp [isNaN, h]; omega

theorem write_not_nan (k : FloatKind) {d : Datum} (h : d.isNaN = false) : isNaN k.format (k.format.write d) = false := by
  cases d with
  | number s m e => exact nearest_not_nan k s m e
  | infinity s =>
    have := infRung_lt k.format
    simp [Format.write, isNaN, rung_word s this]
  | nan s t => simp [Datum.isNaN] at h

theorem sum_not_nan {a b d : Datum} (h : a.sum b = some d) : d.isNaN = false := by
  cases a <;> cases b <;> simp [Datum.sum] at h
  · subst h; rfl
  · subst h; rfl
  · subst h; rfl
  · obtain ⟨_, rfl⟩ := h; rfl
theorem product_not_nan {a b d : Datum} (h : a.product b = some d) : d.isNaN = false := by
  cases a <;> cases b <;> simp [Datum.product] at h
  · subst h; rfl
  · obtain ⟨_, rfl⟩ := h; rfl
  · obtain ⟨_, rfl⟩ := h; rfl
  · subst h; rfl
theorem quotient_not_nan {g : Nat} {a b d : Datum} (h : Datum.quotient g a b = some d) : d.isNaN = false := by
  cases a with
  | nan => simp [quotient_nan_l] at h
  | infinity s =>
    cases b with
    | nan => simp [quotient_nan_r] at h
    | infinity t => simp [Datum.quotient] at h
    | number t n j => simp [Datum.quotient] at h; subst h; rfl
  | number s m i =>
    cases b with
    | nan => simp [quotient_nan_r] at h
    | infinity t => simp [Datum.quotient] at h; subst h; rfl
    | number t n j =>
      simp only [Datum.quotient] at h
      split at h
      · split at h
        · cases h
        · cases h; rfl
      · cases h; rfl

theorem map_write_not_nan (k : FloatKind) {o : Option Datum} {r : Nat} (h : o.map k.format.write = some r) (hn : ∀ d, o = some d → d.isNaN = false) : isNaN k.format r = false := by
  obtain ⟨d, hd, rfl⟩ := Option.map_eq_some_iff.1 h
  exact write_not_nan k (hn d hd)

theorem floatBits_not_nan {op : BinOp} {k : FloatKind} {x y r : Nat} (h : floatBits op k x y = some r) : isNaN k.format r = false := by
  unfold floatBits at h
  cases op <;> simp only at h <;> first | (cases h; done) | skip
  · exact map_write_not_nan k h fun d hd => sum_not_nan hd
  · exact map_write_not_nan k h fun d hd => sum_not_nan hd
  · exact map_write_not_nan k h fun d hd => product_not_nan hd
  · exact map_write_not_nan k h fun d hd => quotient_not_nan hd

theorem cn_fop (op : BinOp) (k : FloatKind) (x y : Nat) : cn k (fop op k x y) = fop op k x y := by
  unfold fop
  cases h : floatBits op k x y with
  | none => simp [cn_of_nan (isNaN_qn k)]
  | some r => simp [cn_of_not (floatBits_not_nan h)]

theorem floatBits_lt {op : BinOp} {k : FloatKind} {x y r : Nat} (h : floatBits op k x y = some r) : r < 2 ^ k.format.width := by
  have := floatBits_wf h
  cases k
  · have h' : r < 4294967296 := by simpa [Lit.wf] using this
    exact h'
  · have h' : r < 18446744073709551616 := by simpa [Lit.wf] using this
    exact h'

theorem fop_lt (op : BinOp) (k : FloatKind) (x y : Nat) : fop op k x y < 2 ^ k.format.width := by
  unfold fop
  cases h : floatBits op k x y with
  | none => exact qn_lt k
  | some r => exact floatBits_lt h

/-- How two words stand to each other hangs on them up to NaN. -/
theorem order_cn (k : FloatKind) (x y : Nat) : k.format.order (cn k x) (cn k y) = k.format.order x y := by
  have hx := read_cn_cases k x
  have hy := read_cn_cases k y
  unfold Format.order
  rcases hx with hx | ⟨s, t, s', t', h1, h2⟩
  · rcases hy with hy | ⟨s, t, s', t', h1, h2⟩
    · rw [hx, hy]
    · rw [hx, h1, h2]
      cases k.format.read x <;> simp [Datum.order]
  · rw [h1, h2]; simp [Datum.order]

/-- The square root as a function. -/
def fsqrt (x : Nat) : Nat := (FloatKind.f64.format.sqrt x).getD (qn .f64)
theorem fsqrt_cn (x : Nat) : fsqrt (cn .f64 x) = fsqrt x := by
  unfold fsqrt Format.sqrt
  rcases read_cn_cases .f64 x with h | ⟨s, t, s', t', h1, h2⟩
  · rw [h]
  · rw [h1, h2]; simp [Datum.root]
theorem root_not_nan {g : Nat} {a d : Datum} (h : Datum.root g a = some d) : d.isNaN = false := by
  cases a with
  | nan => simp [Datum.root] at h
  | infinity s => simp [Datum.root] at h; obtain ⟨_, rfl⟩ := h; rfl
  | number s m i =>
    simp only [Datum.root] at h
    split at h
    · cases h; rfl
    · split at h
      · cases h
      · cases h; rfl
theorem cn_fsqrt (x : Nat) : cn .f64 (fsqrt x) = fsqrt x := by
  unfold fsqrt
  cases h : FloatKind.f64.format.sqrt x with
  | none => exact cn_of_nan (isNaN_qn .f64)
  | some r => exact cn_of_not (map_write_not_nan .f64 h fun d hd => root_not_nan hd)
theorem fsqrt_lt (x : Nat) : fsqrt x < 2 ^ 64 := by
  unfold fsqrt
  cases h : FloatKind.f64.format.sqrt x with
  | none => exact qn_lt .f64
  | some r => exact FloatKind.f64.format.sqrt_lt h

/-- What a NaN that the tape draws comes to. -/
theorem nan_cut (k : FloatKind) (x y t : Nat) : isNaN k.format ((Question.nanBits k x y).cut t) = true ∧ (Question.nanBits k x y).cut t < 2 ^ k.format.width := by
  cases k
  · have h1 : (t / 2) % (2 ^ 23 - 1) < 2 ^ 23 - 1 := Nat.mod_lt _ (by decide)
    have h2 : t % 2 < 2 := Nat.mod_lt _ (by decide)
    have e : (Question.nanBits .f32 x y).cut t = (t % 2) * 2 ^ 31 + 0x7f800000 + 1 + (t / 2) % (2 ^ 23 - 1) := rfl
    have s : FloatKind.f32.format.signWeight = 2147483648 := by decide
    have i : FloatKind.f32.format.infRung = 2139095040 := by decide
    have wd : 2 ^ FloatKind.f32.format.width = 4294967296 := by decide
    rw [e, wd]; unfold isNaN rung; rw [s, i]
    generalize (t / 2) % (2 ^ 23 - 1) = a at *
    generalize t % 2 = b at *
    simp only [decide_eq_true_eq]
    omega
  · have h1 : (t / 2) % (2 ^ 52 - 1) < 2 ^ 52 - 1 := Nat.mod_lt _ (by decide)
    have h2 : t % 2 < 2 := Nat.mod_lt _ (by decide)
    have e : (Question.nanBits .f64 x y).cut t = (t % 2) * 2 ^ 63 + 0x7ff0000000000000 + 1 + (t / 2) % (2 ^ 52 - 1) := rfl
    have s : FloatKind.f64.format.signWeight = 9223372036854775808 := by decide
    have i : FloatKind.f64.format.infRung = 9218868437227405312 := by decide
    have wd : 2 ^ FloatKind.f64.format.width = 18446744073709551616 := by decide
    rw [e, wd]; unfold isNaN rung; rw [s, i]
    generalize (t / 2) % (2 ^ 52 - 1) = a at *
    generalize t % 2 = b at *
    simp only [decide_eq_true_eq]
    omega
theorem nanConv_cut (k : FloatKind) (x t : Nat) : isNaN k.format ((Question.nanConv k x).cut t) = true ∧ (Question.nanConv k x).cut t < 2 ^ k.format.width := by
  have := nan_cut k 0 0 t
  cases k <;> exact this
end Fl
namespace Fl
open Ieee Go

theorem compare_signed (s t : Bool) (m n a b : Nat) : compare (signed s m a) (signed t n b) =
    compare (if s then -((m * 2 ^ a : Nat) : Int) else ((m * 2 ^ a : Nat) : Int)) (if t then -((n * 2 ^ b : Nat) : Int) else ((n * 2 ^ b : Nat) : Int)) := by
  rw [signed_eq, signed_eq]

theorem compare_scale (a b c : Int) (hc : 0 < c) : compare (a * c) (b * c) = compare a b := by
  have h1 : a * c < b * c ↔ a < b := ⟨fun h => Int.lt_of_mul_lt_mul_right h (Int.le_of_lt hc), fun h => Int.mul_lt_mul_of_pos_right h hc⟩
  have h2 : a * c = b * c ↔ a = b := ⟨fun h => Int.eq_of_mul_eq_mul_right (by omega) h, fun h => by rw [h]⟩
  simp only [compare, compareOfLessAndEq, h1, h2]

/-- Of two finite words: as their values. -/
theorem order_fin {f : Format} {x y : Nat} (hx : fin f x) (hy : fin f y) : f.order x y = some (compare (sval f x) (sval f y)) := by
  obtain ⟨m, i, hrx, hi, hvx⟩ := read_fin hx
  obtain ⟨n, j, hry, hj, hvy⟩ := read_fin hy
  have hb : f.leastPlace ≤ min i j := by omega
  have e1 := sval_eq (x := x) hb (Int.min_le_left i j) hvx
  have e2 := sval_eq (x := y) hb (Int.min_le_right i j) hvy
  unfold Format.order
  rw [hrx, hry, ← e1, ← e2, compare_scale _ _ _ (Int.pow_pos (by omega))]
  rfl

theorem compare_self (a : Int) : compare a a = .eq := by simp [compare, compareOfLessAndEq]

/-- A word is equal to itself just if it is no NaN. -/
theorem order_self (k : FloatKind) (x : Nat) : (k.format.order x x == some .eq) = !isNaN k.format x := by
  rcases kinds k.format x with h | h | h
  · have h' : isNaN k.format x = false := by unfold fin at h; simp [isNaN]; omega
    rw [order_fin h h, compare_self, h']; rfl
  · have h' : isNaN k.format x = false := by simp [isNaN, h]
    unfold Format.order
    rw [read_inf (ok_kind k) h, h']
    simp [Datum.order]
  · have h' : isNaN k.format x = true := by simp [isNaN, h]
    unfold Format.order
    rw [read_nan (ok_kind k) h, h']
    simp [Datum.order]
theorem order_self' (k : FloatKind) (x : Nat) : (k.format.order x x != some .eq) = isNaN k.format x := by
  have := order_self k x
  rw [bne, this]; simp

/-- A word's place among the words: its rung with its sign. -/
def key (f : Format) (x : Nat) : Int := if sgn f x then -(rung f x : Int) else (rung f x : Int)

theorem compare_congr {a b c d : Int} (h1 : a < b ↔ c < d) (h2 : a = b ↔ c = d) : compare a b = compare c d := by
  simp only [compare, compareOfLessAndEq, h1, h2]

theorem sval_key_lt {f : Format} {x y : Nat} : sval f x < sval f y ↔ key f x < key f y := by
  have h1 := @val_lt_iff f (rung f x) (rung f y)
  have h2 := @val_lt_iff f (rung f y) (rung f x)
  have z1 : 0 < val f (rung f x) ↔ 0 < rung f x := by have := @val_lt_iff f 0 (rung f x); rwa [val_zero] at this
  have z2 : 0 < val f (rung f y) ↔ 0 < rung f y := by have := @val_lt_iff f 0 (rung f y); rwa [val_zero] at this
  unfold sval key
  cases sgn f x <;> cases sgn f y <;> simp only [if_true, if_false, Bool.false_eq_true] <;> omega
theorem sval_key_eq {f : Format} {x y : Nat} : sval f x = sval f y ↔ key f x = key f y := by
  have h1 := @sval_key_lt f x y
  have h2 := @sval_key_lt f y x
  omega

/-- Of words that are no NaN: as their places. -/
theorem order_key {k : FloatKind} {x y : Nat} (hx : isNaN k.format x = false) (hy : isNaN k.format y = false) : k.format.order x y = some (compare (key k.format x) (key k.format y)) := by
  have hx' : ¬ k.format.infRung < rung k.format x := by simpa [isNaN] using hx
  have hy' : ¬ k.format.infRung < rung k.format y := by simpa [isNaN] using hy
  rcases kinds k.format x with h | h | h
  · rcases kinds k.format y with g | g | g
    · rw [order_fin h g, compare_congr sval_key_lt sval_key_eq]
    · obtain ⟨m, i, hrx, hi, hvx⟩ := read_fin h
      unfold Format.order fin at *
      rw [hrx, read_inf (ok_kind k) g]
      unfold key
      cases sgn k.format x <;> cases sgn k.format y <;> simp [Datum.order, compare, compareOfLessAndEq] <;> (try split) <;> (try split) <;> simp_all <;> omega
    · omega
  · rcases kinds k.format y with g | g | g
    · obtain ⟨m, i, hry, hi, hvy⟩ := read_fin g
      unfold Format.order fin at *
      rw [hry, read_inf (ok_kind k) h]
      unfold key
      cases sgn k.format x <;> cases sgn k.format y <;> simp [Datum.order, compare, compareOfLessAndEq] <;> (try split) <;> (try split) <;> simp_all <;> omega
    · have := binade_le_inf (ok_kind k)
      have := binade_pos k.format
      unfold Format.order
      rw [read_inf (ok_kind k) h, read_inf (ok_kind k) g]
      unfold key
      cases sgn k.format x <;> cases sgn k.format y <;> simp [Datum.order, compare, compareOfLessAndEq] <;> (try split) <;> (try split) <;> simp_all <;> omega
    · omega
  · omega
theorem order_nan_l {k : FloatKind} {x y : Nat} (hx : isNaN k.format x = true) : k.format.order x y = none := by
  have h : k.format.infRung < rung k.format x := by simpa [isNaN] using hx
  unfold Format.order
  rw [read_nan (ok_kind k) h]; simp [Datum.order]
theorem order_nan_r {k : FloatKind} {x y : Nat} (hy : isNaN k.format y = true) : k.format.order x y = none := by
  have h : k.format.infRung < rung k.format y := by simpa [isNaN] using hy
  unfold Format.order
  rw [read_nan (ok_kind k) h]; cases k.format.read x <;> simp [Datum.order]

/-- ==, <, <= of floats. -/
def feq (k : FloatKind) (x y : Nat) : Bool := k.format.order x y == some .eq
def flt (k : FloatKind) (x y : Nat) : Bool := k.format.order x y == some .lt
def fle (k : FloatKind) (x y : Nat) : Bool := k.format.order x y == some .lt || k.format.order x y == some .eq
theorem order_eq (k : FloatKind) (x y : Nat) : (k.format.order x y == some .eq) = feq k x y := rfl
theorem order_ne (k : FloatKind) (x y : Nat) : (k.format.order x y != some .eq) = !feq k x y := rfl
theorem order_lt (k : FloatKind) (x y : Nat) : (k.format.order x y == some .lt) = flt k x y := rfl
theorem order_le (k : FloatKind) (x y : Nat) : (k.format.order x y == some .lt || k.format.order x y == some .eq) = fle k x y := rfl

theorem feq_def (k : FloatKind) (x y : Nat) : feq k x y = (!isNaN k.format x && !isNaN k.format y && decide (key k.format x = key k.format y)) := by
  unfold feq
  cases hx : isNaN k.format x
  · cases hy : isNaN k.format y
    · rw [order_key hx hy]
      simp only [compare, compareOfLessAndEq]
      split <;> (try split) <;> simp <;> omega
    · rw [order_nan_r hy]; simp
  · rw [order_nan_l hx]; simp
theorem flt_def (k : FloatKind) (x y : Nat) : flt k x y = (!isNaN k.format x && !isNaN k.format y && decide (key k.format x < key k.format y)) := by
  unfold flt
  cases hx : isNaN k.format x
  · cases hy : isNaN k.format y
    · rw [order_key hx hy]
      simp only [compare, compareOfLessAndEq]
      split <;> (try split) <;> simp <;> omega
    · rw [order_nan_r hy]; simp
  · rw [order_nan_l hx]; simp
theorem fle_def (k : FloatKind) (x y : Nat) : fle k x y = (!isNaN k.format x && !isNaN k.format y && decide (key k.format x ≤ key k.format y)) := by
  have h1 := flt_def k x y
  have h2 := feq_def k x y
  have h : fle k x y = (flt k x y || feq k x y) := rfl
  rw [h, h1, h2]
  cases isNaN k.format x <;> cases isNaN k.format y <;> simp
  rw [Bool.eq_iff_iff]; simp; omega
theorem order_gt (k : FloatKind) (x y : Nat) : (k.format.order x y == some .gt) = flt k y x := by
  rw [flt_def]
  cases hx : isNaN k.format x
  · cases hy : isNaN k.format y
    · rw [order_key hx hy]
      simp only [compare, compareOfLessAndEq]
      split <;> (try split) <;> simp <;> omega
    · rw [order_nan_r hy]; simp
  · rw [order_nan_l hx]; simp
theorem order_ge (k : FloatKind) (x y : Nat) : (k.format.order x y == some .gt || k.format.order x y == some .eq) = fle k y x := by
  rw [order_gt, order_eq, flt_def, feq_def, fle_def]
  cases isNaN k.format x <;> cases isNaN k.format y <;> simp
  rw [Bool.eq_iff_iff]; simp; omega
theorem fle_fold (k : FloatKind) (x y : Nat) : (flt k x y || feq k x y) = fle k x y := rfl
theorem fge_fold (k : FloatKind) (x y : Nat) : (flt k y x || feq k x y) = fle k y x := by
  have := order_ge k x y
  rwa [order_gt, order_eq] at this
theorem feq_self (k : FloatKind) (x : Nat) : feq k x x = !isNaN k.format x := order_self k x
theorem feq_cn (k : FloatKind) (x y : Nat) : feq k (cn k x) (cn k y) = feq k x y := by unfold feq; rw [order_cn]
theorem flt_cn (k : FloatKind) (x y : Nat) : flt k (cn k x) (cn k y) = flt k x y := by unfold flt; rw [order_cn]
theorem fle_cn (k : FloatKind) (x y : Nat) : fle k (cn k x) (cn k y) = fle k x y := by unfold fle; rw [order_cn]
end Fl
namespace Fl
open Ieee Go

theorem sw64 : double.signWeight = 9223372036854775808 := by decide
theorem sw32 : single.signWeight = 2147483648 := by decide
theorem and_two_pow_one (x i : Nat) : x &&& 2 ^ i = if x / 2 ^ i % 2 == 1 then 2 ^ i else 0 := by
  have h : x.testBit i = (x / 2 ^ i % 2 == 1) := by
    rw [Nat.testBit_eq_decide_div_mod_eq]; rw [Bool.eq_iff_iff]; simp
  apply Nat.eq_of_testBit_eq
  intro j
  rw [Nat.testBit_and, Nat.testBit_two_pow, ← h]
  by_cases e : i = j
  · subst e
    cases hx : x.testBit i <;> simp
  · cases hx : x.testBit i <;> simp [e]
theorem or_two_pow_of_lt {x i : Nat} (h : x < 2 ^ i) : x ||| 2 ^ i = 2 ^ i + x := by
  have := Nat.two_pow_add_eq_or_of_lt h 1
  rw [Nat.or_comm]; simpa using this.symm

theorem u64_clear (x : Nat) (hx : x < 18446744073709551616) : bits .andNot .u64 (x : Int) 9223372036854775808 = ((rung double x : Nat) : Int) := by
  have h := u64_andNot_nat x 9223372036854775808 hx (by omega)
  have e : x &&& (18446744073709551615 - 9223372036854775808) = rung double x := by
    have := Nat.and_two_pow_sub_one_eq_mod x 63
    unfold rung; rw [sw64]; exact this
  rw [e] at h; exact h
theorem u64_sign (x : Nat) (hx : x < 18446744073709551616) : bits .and .u64 (x : Int) 9223372036854775808 = ((if sgn double x then 9223372036854775808 else 0 : Nat) : Int) := by
  have h := u64_and_nat x 9223372036854775808 hx (by omega)
  have e := and_two_pow_one x 63
  have e2 : x &&& 9223372036854775808 = if sgn double x then 9223372036854775808 else 0 := by
    unfold sgn; rw [sw64]; exact e
  rw [e2] at h; exact h
theorem u64_flip (x : Nat) (hx : x < 18446744073709551616) : bits .xor .u64 (x : Int) 9223372036854775808 = ((flip double x : Nat) : Int) := by
  have h := u64_xor_nat x 9223372036854775808 hx (by omega)
  unfold flip; rw [sw64]; exact h
theorem u64_or_sign (x : Nat) (s : Bool) (hx : x < 9223372036854775808) :
    bits .or .u64 (x : Int) ((if s then 9223372036854775808 else 0 : Nat) : Int) = ((double.word s x : Nat) : Int) := by
  have h := u64_or_nat x (if s then 9223372036854775808 else 0) (by omega) (by split <;> omega)
  rw [h]
  unfold Format.word; rw [sw64]
  cases s
  · simp
  · have := or_two_pow_of_lt (x := x) (i := 63) hx
    simpa using congrArg (fun n : Nat => (n : Int)) this

theorem ofInt_u32 (a : Nat) (ha : a < 4294967296) : (BitVec.ofInt 32 (a : Int)).toNat = a := by
  rw [BitVec.ofInt_natCast, BitVec.toNat_ofNat]; exact Nat.mod_eq_of_lt (by omega)
theorem u32_andNot_nat (a b : Nat) (ha : a < 4294967296) (hb : b < 4294967296) : bits .andNot .u32 (a : Int) (b : Int) = ((a &&& (4294967295 - b) : Nat) : Int) := by
  have hx : a &&& (4294967295 - b) < 2 ^ 32 := Nat.and_lt_two_pow _ (by omega)
  show IntKind.u32.wrap ((BitVec.ofInt 32 (a : Int) &&& ~~~BitVec.ofInt 32 (b : Int)).toNat : Int) = _
  rw [BitVec.toNat_and, BitVec.toNat_not, ofInt_u32 a ha, ofInt_u32 b hb]
  show (((a &&& 2 ^ 32 - 1 - b : Nat) : Int) % 4294967296) = _
  have e : 2 ^ 32 - 1 - b = 4294967295 - b := by omega
  rw [e]; omega
theorem u32_clear (x : Nat) (hx : x < 4294967296) : bits .andNot .u32 (x : Int) 2147483648 = ((rung single x : Nat) : Int) := by
  have h := u32_andNot_nat x 2147483648 hx (by omega)
  have e : x &&& (4294967295 - 2147483648) = rung single x := by
    have := Nat.and_two_pow_sub_one_eq_mod x 31
    unfold rung; rw [sw32]; exact this
  rw [e] at h; exact h
theorem rung_rung (f : Format) (x : Nat) : rung f (rung f x) = rung f x := Nat.mod_eq_of_lt (rung_lt f x)
theorem sgn_rung (f : Format) (x : Nat) : sgn f (rung f x) = false := by
  unfold sgn; rw [Nat.div_eq_of_lt (rung_lt f x)]; rfl
theorem key_rung (f : Format) (x : Nat) : key f (rung f x) = rung f x := by
  unfold key; rw [sgn_rung, rung_rung]; rfl
theorem flt_max (x : Nat) : flt .f64 9218868437227405311 (rung double x) = isInf double x := by
  have h1 : isNaN double 9218868437227405311 = false := by decide
  have h2 : key double 9218868437227405311 = 9218868437227405311 := by decide
  have h3 : double.infRung = 9218868437227405312 := by decide
  have e := flt_def .f64 9218868437227405311 (rung double x)
  rw [e]
  show (!isNaN double 9218868437227405311 && !isNaN double (rung double x) && decide (key double 9218868437227405311 < key double (rung double x))) = isInf double x
  rw [h1, h2, key_rung]
  unfold isNaN isInf
  rw [rung_rung, h3, Bool.eq_iff_iff]
  simp; omega
theorem key_zero (f : Format) : key f 0 = 0 := by
  have h1 : rung f 0 = 0 := Nat.zero_mod _
  have h2 : sgn f 0 = false := by unfold sgn; simp
  unfold key; rw [h1, h2]; rfl
theorem isNaN_zero (k : FloatKind) : isNaN k.format 0 = false := by cases k <;> decide
theorem feq_zero (k : FloatKind) (x : Nat) : feq k x 0 = (!isNaN k.format x && decide (rung k.format x = 0)) := by
  rw [feq_def, isNaN_zero, key_zero]
  unfold key
  cases isNaN k.format x <;> simp
  cases sgn k.format x <;> simp
theorem flt_zero_l (k : FloatKind) (x : Nat) : flt k 0 x = (!isNaN k.format x && !sgn k.format x && decide (rung k.format x ≠ 0)) := by
  rw [flt_def, isNaN_zero, key_zero]
  unfold key
  cases isNaN k.format x <;> cases sgn k.format x <;> simp
  · rw [Bool.eq_iff_iff]; simp; omega
theorem flt_zero_r (k : FloatKind) (x : Nat) : flt k x 0 = (!isNaN k.format x && sgn k.format x && decide (rung k.format x ≠ 0)) := by
  rw [flt_def, isNaN_zero, key_zero]
  unfold key
  cases isNaN k.format x <;> cases sgn k.format x <;> simp
  · rw [Bool.eq_iff_iff]; simp; omega
/-- The sign bit turned, of a float. -/
theorem negFloat_flip (x : Nat) : Op.negFloat .f64 x = flip double x := rfl
theorem negFloat_flip32 (x : Nat) : Op.negFloat .f32 x = flip single x := rfl
end Fl
namespace Fl
open Ieee Go

theorem unary_neg_float (k : FloatKind) (b : Nat) : Op.unary .neg (.float k b) = pure (.float k (Op.negFloat k b)) := rfl
theorem unary_neg_complex (k : FloatKind) (a b : Nat) : Op.unary .neg (.complex k a b) = pure (.complex k (Op.negFloat k a) (Op.negFloat k b)) := rfl
attribute [go_sem] unary_neg_float unary_neg_complex
/-- 'r' is what the operation gives, up to NaN. -/
def IsOp (op : BinOp) (k : FloatKind) (x y r : Nat) : Prop := cn k r = fop op k (cn k x) (cn k y) ∧ r < 2 ^ k.format.width
def IsSqrt (x r : Nat) : Prop := cn .f64 r = fsqrt (cn .f64 x) ∧ r < 2 ^ 64

section
variable {P : Program} {o : Oper} {a : Act} {K : Act → World → Prop} {Q : Exit → Act → World → Prop} {w : World}

theorem run_arith (op : BinOp) (h4 : op = .add ∨ op = .sub ∨ op = .mul ∨ op = .quo) (t : TypeId) (k : FloatKind) (x y : Nat) :
    ∃ r n, (binOp op t (.float k x) (.float k y)).run P w = .ok (.float k r) (w.drewN n) ∧ IsOp op k x y r := by
  cases h : floatBits op k x y with
  | some r =>
    refine ⟨r, 0, run_float_arith w op t k x y r h, ?_, floatBits_lt h⟩
    rw [fop_cn, cn_of_not (floatBits_not_nan h)]
    simp [fop, h]
  | none =>
    refine ⟨(Question.nanBits k x y).cut (w.tape w.drawn (.nanBits k x y)), 1, ?_, ?_, (nan_cut k x y _).2⟩
    · unfold floatBits at h
      rcases h4 with rfl | rfl | rfl | rfl <;> simp only at h <;>
        simp [binOp, Op.floatArith, h, choose, Sem.run, Question.forced, World.drewN]
    · rw [fop_cn, cn_of_nan (nan_cut k x y _).1]
      simp [fop, h]

theorem upon_arith (op : BinOp) (h4 : op = .add ∨ op = .sub ∨ op = .mul ∨ op = .quo) (t : TypeId) (k : FloatKind) (x y : Nat)
    (h : ∀ r n, IsOp op k x y r → K (a.put o.dst (.float k r)) (w.drewN n)) :
    o.upon P a K Q (((binOp op t (.float k x) (.float k y)).run P w).andThen fun v w' => .ok (.value v) w') := by
  obtain ⟨r, n, h1, h2⟩ := run_arith (P := P) (w := w) op h4 t k x y
  rw [h1]
  exact h r n h2
theorem upon_add (t : TypeId) (k : FloatKind) (x y : Nat) (h : ∀ r n, IsOp .add k x y r → K (a.put o.dst (.float k r)) (w.drewN n)) :
    o.upon P a K Q (((binOp .add t (.float k x) (.float k y)).run P w).andThen fun v w' => .ok (.value v) w') := upon_arith .add (by simp) t k x y h
theorem upon_sub (t : TypeId) (k : FloatKind) (x y : Nat) (h : ∀ r n, IsOp .sub k x y r → K (a.put o.dst (.float k r)) (w.drewN n)) :
    o.upon P a K Q (((binOp .sub t (.float k x) (.float k y)).run P w).andThen fun v w' => .ok (.value v) w') := upon_arith .sub (by simp) t k x y h
theorem upon_mul (t : TypeId) (k : FloatKind) (x y : Nat) (h : ∀ r n, IsOp .mul k x y r → K (a.put o.dst (.float k r)) (w.drewN n)) :
    o.upon P a K Q (((binOp .mul t (.float k x) (.float k y)).run P w).andThen fun v w' => .ok (.value v) w') := upon_arith .mul (by simp) t k x y h
theorem upon_quo (t : TypeId) (k : FloatKind) (x y : Nat) (h : ∀ r n, IsOp .quo k x y r → K (a.put o.dst (.float k r)) (w.drewN n)) :
    o.upon P a K Q (((binOp .quo t (.float k x) (.float k y)).run P w).andThen fun v w' => .ok (.value v) w') := upon_arith .quo (by simp) t k x y h

theorem sqrt_eq (x : Nat) : Extern.MathSqrt.sqrt #[.float .f64 x] = (match FloatKind.f64.format.sqrt x with
    | some r => pure (.float .f64 r)
    | none => do pure (.float .f64 (← choose (.nanBits .f64 x x)))) := rfl
/-- math.sqrt. -/
theorem run_sqrt (x : Nat) : ∃ r n, (Extern.MathSqrt.sqrt #[.float .f64 x]).run P w = .ok (.float .f64 r) (w.drewN n) ∧ IsSqrt x r := by
  cases h : FloatKind.f64.format.sqrt x with
  | some r =>
    refine ⟨r, 0, by rw [sqrt_eq, h]; simp [World.drewN], ?_, FloatKind.f64.format.sqrt_lt h⟩
    rw [fsqrt_cn, cn_of_not (map_write_not_nan .f64 h fun d hd => root_not_nan hd)]
    simp [fsqrt, h]
  | none =>
    refine ⟨(Question.nanBits .f64 x x).cut (w.tape w.drawn (.nanBits .f64 x x)), 1, ?_, ?_, (nan_cut .f64 x x _).2⟩
    · rw [sqrt_eq, h]; simp [choose, Sem.run, Question.forced, World.drewN]
    · rw [fsqrt_cn, cn_of_nan (nan_cut .f64 x x _).1]
      simp [fsqrt, h]
theorem upon_sqrt {f : FuncId} {x : Nat} (hf : ∀ W : World, (callFunc f #[.float .f64 x]).run P W = ((Extern.MathSqrt.sqrt #[.float .f64 x]).run P W).andThen fun v w' => .ok (.value v) w')
    (h : ∀ r n, IsSqrt x r → K (a.put o.dst (.float .f64 r)) (w.drewN n)) :
    o.upon P a K Q ((callFunc f #[.float .f64 x]).run P w) := by
  obtain ⟨r, n, h1, h2⟩ := run_sqrt (P := P) (w := w) x
  rw [hf, h1]
  exact h r n h2
end
end Fl
namespace Fl
open Ieee Go

/-- What has few digits is on a rung. -/
theorem repr (f : Format) (t : Nat) : ∀ c, c ≤ 2 * f.binade → ∃ q, val f q = c * 2 ^ t := by
  have hB := binade_pos f
  induction t with
  | zero =>
    intro c hc
    by_cases h : c < f.binade
    · exact ⟨c, by rw [val_small h]; simp⟩
    · by_cases h2 : c = 2 * f.binade
      · refine ⟨f.binade * (1 + 1) + 0, ?_⟩
        rw [val_mul_add hB, h2]; omega
      · refine ⟨f.binade * (0 + 1) + (c - f.binade), ?_⟩
        rw [val_mul_add (by omega)]; congr 1; omega
  | succ t ih =>
    intro c hc
    by_cases h : c < f.binade
    · obtain ⟨q, hq⟩ := ih (2 * c) (by omega)
      refine ⟨q, ?_⟩
      rw [hq, Nat.pow_succ, Nat.mul_comm 2, Nat.mul_assoc, Nat.mul_comm 2]
    · by_cases h2 : c = 2 * f.binade
      · refine ⟨f.binade * (t + 2 + 1) + 0, ?_⟩
        rw [val_mul_add hB, h2, Nat.pow_succ, Nat.pow_succ, Nat.add_zero]
        rw [Nat.mul_comm 2 f.binade]
        simp only [Nat.mul_assoc]
        congr 1
        omega
      · refine ⟨f.binade * (t + 1 + 1) + (c - f.binade), ?_⟩
        rw [val_mul_add (by omega)]; congr 1; omega

/-- A rung's value is of few digits. -/
theorem val_form (f : Format) (r : Nat) : ∃ c e, val f r = c * 2 ^ e ∧ c < 2 * f.binade ∧ e ≤ r / f.binade := by
  have hB := binade_pos f
  rcases rung_cases f r with h | ⟨q, m, hm, rfl⟩
  · exact ⟨r, 0, by rw [val_small h]; simp, by omega, Nat.zero_le _⟩
  · refine ⟨f.binade + m, q, val_mul_add hm, by omega, ?_⟩
    exact (Nat.le_div_iff_mul_le hB).2 (by rw [Nat.mul_comm q, Nat.mul_add]; omega)

theorem mul_pow_lt {v a b c : Nat} (h : v < 2 ^ a) (hc : a + b ≤ c) : v * 2 ^ b < 2 ^ c :=
  Nat.lt_of_lt_of_le (Nat.mul_lt_mul_of_pos_right h (Nat.two_pow_pos b)) (by rw [← Nat.pow_add]; exact Nat.pow_le_pow_right (by omega) hc)

/-- The wider word. -/
def fwide (x : Nat) : Nat := (floatToFloatBits .f32 x .f64).getD (qn .f64)
/-- The narrower word, an infinity where it is too great. -/
def fnarrow (x : Nat) : Nat := if isNaN double x then qn .f32 else single.write (double.read x)
/-- Finite, but too great for a float32. -/
def over (x : Nat) : Bool := isFin double x && !isFin single (fnarrow x)

def IsWide (x r : Nat) : Prop := cn .f64 r = fwide (cn .f32 x) ∧ r < 18446744073709551616
def IsNarrow (x r : Nat) : Prop := (over x = false → cn .f32 r = fnarrow (cn .f64 x)) ∧ r < 4294967296

theorem val_inf_single : val single single.infRung = 2 ^ 277 := by decide +kernel
theorem val_inf_double : val double double.infRung = 2 ^ 2098 := by decide +kernel

/-- A finite narrow word is widened exactly. -/
theorem fwide_fin {x : Nat} (h : fin single x) : floatToFloatBits .f32 x .f64 = some (fwide x) ∧ fin double (fwide x) ∧ sgn double (fwide x) = sgn single x ∧
    val double (rung double (fwide x)) = val single (rung single x) * 2 ^ 925 ∧ fwide x < 18446744073709551616 := by
  obtain ⟨m, e, hr, hl, hv⟩ := read_fin h
  have hlS : single.leastPlace = -149 := by decide
  have hlD : double.leastPlace = -1074 := by decide
  rw [hlS] at hl hv
  have hround := nearest_rounds ok_double (sgn single x) m e
  rw [hlD] at hround
  have e1 : (-1074 - e).toNat = 0 := by omega
  have e2 : (e - -1074).toNat = (e - -149).toNat + 925 := by omega
  rw [e1, e2, Nat.pow_add, ← Nat.mul_assoc, hv, Nat.pow_zero] at hround
  -- it is on a rung
  obtain ⟨c, t, hc, hc2, _⟩ := val_form single (rung single x)
  obtain ⟨q, hq⟩ := repr double (t + 925) c (by
    have h1 : single.binade = 8388608 := by decide
    have h2 : double.binade = 4503599627370496 := by decide
    omega)
  have hq' : val double q = val single (rung single x) * 2 ^ 925 := by
    rw [hq, hc, Nat.pow_add, Nat.mul_assoc]
  have hqlt : q < double.infRung := by
    have h1 : val single (rung single x) < val single single.infRung := val_lt h
    rw [val_inf_single] at h1
    refine (val_lt_iff (f := double)).1 ?_
    rw [val_inf_double, hq']
    have h2 := mul_pow_lt (b := 925) (c := 2098) h1 (by omega)
    exact h2
  obtain ⟨r, hr1, hr2⟩ := hround.rung
  have hrq : r = q := hr1.eq_of_exact (by omega) (by rw [hq']; omega)
  subst hrq
  have hmin : min r double.infRung = r := by omega
  rw [hmin] at hr2
  have hbits : floatToFloatBits .f32 x .f64 = some (double.nearest (sgn single x) m e) := by
    have hr' : FloatKind.decode .f32 x = .number (sgn single x) m e := hr
    have hni : (FloatKind.decode .f64 (FloatKind.encode .f64 (.number (sgn single x) m e))).isInfinity = false := by
      have hf : fin double (double.nearest (sgn single x) m e) := by unfold fin; rw [hr2]; exact hqlt
      obtain ⟨m', e', h', _⟩ := read_fin hf
      show (double.read (double.nearest (sgn single x) m e)).isInfinity = false
      rw [h']; rfl
    unfold floatToFloatBits
    rw [if_neg (by decide), hr']
    simp only [hni]
    rfl
  have hw : fwide x = double.nearest (sgn single x) m e := by unfold fwide; rw [hbits]; rfl
  rw [hw]
  refine ⟨hbits, ?_, hround.sgn, ?_, hround.lt⟩
  · unfold fin; rw [hr2]; exact hqlt
  · rw [hr2, hq']

theorem fwide_inf {x : Nat} (h : rung single x = single.infRung) : floatToFloatBits .f32 x .f64 = some (fwide x) ∧ fwide x = double.word (sgn single x) double.infRung := by
  have hr : FloatKind.decode .f32 x = .infinity (sgn single x) := read_inf ok_single h
  have hb : floatToFloatBits .f32 x .f64 = some (double.word (sgn single x) double.infRung) := by
    unfold floatToFloatBits
    rw [if_neg (by decide), hr]
    rfl
  exact ⟨by rw [fwide, hb]; rfl, by rw [fwide, hb]; rfl⟩

theorem fwide_nan {x : Nat} (h : isNaN single x = true) : floatToFloatBits .f32 x .f64 = none ∧ fwide x = qn .f64 := by
  have hr : FloatKind.decode .f32 x = .nan (sgn single x) (rung single x - single.infRung) := read_nan ok_single (by simpa [isNaN] using h)
  have hb : floatToFloatBits .f32 x .f64 = none := by
    unfold floatToFloatBits
    rw [if_neg (by decide), hr]
  exact ⟨hb, by rw [fwide, hb]; rfl⟩

theorem fwide_cn (x : Nat) : fwide (cn .f32 x) = fwide x := by
  by_cases h : isNaN single x = true
  · rw [(fwide_nan h).2, (fwide_nan (by have := isNaN_cn .f32 x; exact this.trans h)).2]
  · rw [cn_of_not (k := .f32) (Bool.eq_false_iff.2 h)]

theorem isNaN_fwide (x : Nat) : isNaN double (fwide x) = isNaN single x := by
  have i1 := infRung_lt double
  rcases kinds single x with h | h | h
  · have h1 := (fwide_fin h).2.1
    unfold fin at h h1
    simp only [isNaN]; rw [decide_eq_false (by omega), decide_eq_false (by omega)]
  · rw [(fwide_inf h).2]
    simp only [isNaN]; rw [rung_word _ i1, decide_eq_false (by omega), decide_eq_false (by omega)]
  · have h' : isNaN single x = true := by simp [isNaN, h]
    rw [(fwide_nan h').2, h']; exact isNaN_qn .f64
theorem isInf_fwide (x : Nat) : isInf double (fwide x) = isInf single x := by
  have i1 := infRung_lt double
  rcases kinds single x with h | h | h
  · have h1 := (fwide_fin h).2.1
    unfold fin at h h1
    simp only [isInf]; rw [decide_eq_false (by omega), decide_eq_false (by omega)]
  · rw [(fwide_inf h).2]
    simp only [isInf]; rw [rung_word _ i1, h]; rfl
  · have h' : isNaN single x = true := by simp [isNaN, h]
    rw [(fwide_nan h').2]
    simp only [isInf]; rw [decide_eq_false (p := rung single x = single.infRung) (by omega)]; decide
theorem cn_fwide (x : Nat) : cn .f64 (fwide x) = fwide x := by
  by_cases h : isNaN single x = true
  · rw [(fwide_nan h).2]; exact cn_of_nan (isNaN_qn .f64)
  · exact cn_of_not (by have := isNaN_fwide x; simp at h; exact this.trans h)
theorem fwide_lt (x : Nat) : fwide x < 18446744073709551616 := by
  rcases kinds single x with h | h | h
  · exact (fwide_fin h).2.2.2.2
  · rw [(fwide_inf h).2]; exact word_lt _ (infRung_lt double)
  · rw [(fwide_nan (by simp [isNaN, h])).2]; exact qn_lt .f64

section
variable {P : Program} {o : Oper} {a : Act} {K : Act → World → Prop} {Q : Exit → Act → World → Prop} {w : World}
theorem run_widen {src dst : TypeId} (hs : (P.underlying src).isSome = true) (hd : P.underlying dst = some (.float .f64)) (x : Nat) :
    ∃ r n, (convert src dst (.float .f32 x)).run P w = .ok (.float .f64 r) (w.drewN n) ∧ IsWide x r := by
  by_cases h : isNaN single x = true
  · obtain ⟨u, hs'⟩ := Option.isSome_iff_exists.1 hs
    have hr : FloatKind.decode .f32 x = .nan (sgn single x) (rung single x - single.infRung) := read_nan ok_single (by simpa [isNaN] using h)
    refine ⟨(Question.nanConv .f64 x).cut (w.tape w.drawn (.nanConv .f64 x)), 1, ?_, ?_, (nanConv_cut .f64 x _).2⟩
    · cases u <;> simp [convert, run_underlying hs', run_underlying hd, Conv.floatToFloat, hr, choose, Sem.run, Question.forced, World.drewN]
    · rw [fwide_cn, (fwide_nan h).2, cn_of_nan (nanConv_cut .f64 x _).1]
  · have hb : floatToFloatBits .f32 x .f64 = some (fwide x) := by
      rcases kinds single x with g | g | g
      · exact (fwide_fin g).1
      · exact (fwide_inf g).1
      · exact absurd (by simp [isNaN, g]) h
    exact ⟨fwide x, 0, run_convert_float_float w src dst .f32 .f64 x _ hs hd hb, by rw [fwide_cn, cn_fwide], fwide_lt x⟩
theorem upon_widen {src dst : TypeId} (hs : (P.underlying src).isSome = true) (hd : P.underlying dst = some (.float .f64)) (x : Nat)
    (h : ∀ r n, IsWide x r → K (a.put o.dst (.float .f64 r)) (w.drewN n)) :
    o.upon P a K Q (((convert src dst (.float .f32 x)).run P w).andThen fun v w' => .ok (.value v) w') := by
  obtain ⟨r, n, h1, h2⟩ := run_widen (P := P) (w := w) hs hd x
  rw [h1]
  exact h r n h2
end
end Fl
namespace Fl
open Ieee Go

abbrev fadd (x y : Nat) : Nat := fop .add .f64 x y
abbrev fsub (x y : Nat) : Nat := fop .sub .f64 x y
abbrev fmul (x y : Nat) : Nat := fop .mul .f64 x y
abbrev fdiv (x y : Nat) : Nat := fop .quo .f64 x y
/-- The size and the opposite of a word up to NaN. -/
def fabs (x : Nat) : Nat := if isNaN double x then qn .f64 else rung double x
def fneg (x : Nat) : Nat := if isNaN double x then qn .f64 else flip double x

theorem isNaN_rung (f : Format) (x : Nat) : isNaN f (rung f x) = isNaN f x := by unfold isNaN; rw [rung_rung]
theorem cn_rung (x : Nat) : cn .f64 (rung double x) = fabs (cn .f64 x) := by
  by_cases h : isNaN double x = true
  · have h1 : isNaN double (rung double x) = true := by rw [isNaN_rung, h]
    have h2 : isNaN double (cn .f64 x) = true := (isNaN_cn .f64 x).trans h
    rw [cn_of_nan (k := .f64) h1, fabs, if_pos h2]
  · have h0 := Bool.eq_false_iff.2 h
    have h1 : isNaN double (rung double x) = false := by rw [isNaN_rung, h0]
    rw [cn_of_not (k := .f64) h1, cn_of_not (k := .f64) h0, fabs, if_neg h]
theorem isNaN_flip {x : Nat} (hx : x < 18446744073709551616) : isNaN double (flip double x) = isNaN double x := by
  unfold isNaN; rw [rung_flip (f := double) hx]
theorem cn_flip {x : Nat} (hx : x < 18446744073709551616) : cn .f64 (flip double x) = fneg (cn .f64 x) := by
  by_cases h : isNaN double x = true
  · have h1 : isNaN double (flip double x) = true := by rw [isNaN_flip hx, h]
    have h2 : isNaN double (cn .f64 x) = true := (isNaN_cn .f64 x).trans h
    rw [cn_of_nan (k := .f64) h1, fneg, if_pos h2]
  · have h0 := Bool.eq_false_iff.2 h
    have h1 : isNaN double (flip double x) = false := by rw [isNaN_flip hx, h0]
    rw [cn_of_not (k := .f64) h1, cn_of_not (k := .f64) h0, fneg, if_neg h]
theorem rung_lt64 (x : Nat) : rung double x < 9223372036854775808 := by have := rung_lt double x; rwa [sw64] at this
theorem rung_lt64' (x : Nat) : rung double x < 18446744073709551616 := by have := rung_lt64 x; omega
theorem flip_lt64 {x : Nat} (h : x < 18446744073709551616) : flip double x < 18446744073709551616 := flip_lt (f := double) h

abbrev C := Nat × Nat
def pAdd (a b : C) : C := (fadd a.1 b.1, fadd a.2 b.2)
def pSub (a b : C) : C := (fsub a.1 b.1, fsub a.2 b.2)
def pMul (a b : C) : C := (fsub (fmul a.1 b.1) (fmul a.2 b.2), fadd (fmul a.1 b.2) (fmul a.2 b.1))
def pDiv (a b : C) : C :=
  if fle .f64 (fabs b.2) (fabs b.1) then
    let r := fdiv b.2 b.1
    let t := fadd b.1 (fmul b.2 r)
    (fdiv (fadd a.1 (fmul a.2 r)) t, fdiv (fsub a.2 (fmul a.1 r)) t)
  else
    let r := fdiv b.1 b.2
    let t := fadd (fmul b.1 r) b.2
    (fdiv (fadd (fmul a.1 r) a.2) t, fdiv (fsub (fmul a.2 r) a.1) t)
def fone : Nat := 4607182418800017408
def ftwo : Nat := 4611686018427387904
def pInv (z : C) : C := pDiv (fone, 0) z
def pNeg (z : C) : C := (fneg z.1, fneg z.2)
def pConj (z : C) : C := (z.1, fneg z.2)
def pScale (x : Nat) (z : C) : C := (fmul x z.1, fmul x z.2)
def pSize1 (z : C) : Nat := fadd (fabs z.1) (fabs z.2)
def pSize2 (z : C) : Nat := fadd (fmul z.1 z.1) (fmul z.2 z.2)
def finf : Nat := 9218868437227405312
/-- The greater and the less of two sizes go in. -/
def absOf (g l : Nat) : Nat := fmul g (fsqrt (fadd fone (fmul (fdiv l g) (fdiv l g))))
def pAbs (z : C) : Nat :=
  let a := fabs z.1
  let b := fabs z.2
  if isInf double z.1 || isInf double z.2 then finf
  else if isNaN double z.1 || isNaN double z.2 then qn .f64
  else if a = 0 ∧ b = 0 then 0
  else if flt .f64 a b then absOf b a else absOf a b
def pZero (z : C) : Bool := feq .f64 z.1 0 && feq .f64 z.2 0
def pSqrt (z : C) : C :=
  if isNaN double z.1 || isNaN double z.2 then (qn .f64, qn .f64)
  else if pZero z then (0, z.2)
  else if fle .f64 0 z.1 then
    let u := fsqrt (fadd (fdiv (pAbs z) ftwo) (fdiv z.1 ftwo))
    (u, fdiv z.2 (fmul ftwo u))
  else
    let v := fsqrt (fsub (fdiv (pAbs z) ftwo) (fdiv z.1 ftwo))
    (fabs (fdiv z.2 (fmul ftwo v)), if isNaN double v then qn .f64 else double.word (sgn double z.2) (rung double v))
def pFinite1 (x : Nat) : Bool := feq .f64 (fsub x x) 0
def pFinite (z : C) : Bool := isFin double z.1 && isFin double z.2
def pEqual (a b : C) : Bool := feq .f64 a.1 b.1 && feq .f64 a.2 b.2
def pSame (a b : C) : Bool := decide (a.1 = b.1) && decide (a.2 = b.2)

theorem isFin_cn (k : FloatKind) (x : Nat) : isFin k.format (cn k x) = isFin k.format x := by
  by_cases h : isNaN k.format x = true
  · have h1 := isNaN_qn k
    rw [cn_of_nan h]
    simp only [isNaN, isFin, decide_eq_true_eq] at *
    rw [decide_eq_false (by omega), decide_eq_false (by omega)]
  · rw [cn_of_not (Bool.eq_false_iff.2 h)]
theorem isInf_cn (k : FloatKind) (x : Nat) : isInf k.format (cn k x) = isInf k.format x := by
  by_cases h : isNaN k.format x = true
  · have h1 := isNaN_qn k
    rw [cn_of_nan h]
    simp only [isNaN, isInf, decide_eq_true_eq] at *
    rw [decide_eq_false (by omega), decide_eq_false (by omega)]
  · rw [cn_of_not (Bool.eq_false_iff.2 h)]

/-- x - x == 0 just if x is finite. -/
theorem sub_self_eq (x : Nat) (hx : x < 18446744073709551616) : feq .f64 (fop .sub .f64 x x) 0 = isFin double x := by
  have e : floatBits .sub .f64 x x = double.add x (flip double x) := sub_eq (f := double) hx
  rcases kinds double x with h | h | h
  · obtain ⟨b, h1, h2⟩ := add_fin ok_double h (show fin double (flip double x) by unfold fin; rw [rung_flip (f := double) hx]; exact h)
    rw [sval_flip (f := double) hx, show sval double x + -sval double x = 0 by omega] at h2
    have hb : fop .sub .f64 x x = b := by unfold fop; rw [e, h1]; rfl
    obtain ⟨r, hr, hr2⟩ := h2.rung
    have hr0 : r = 0 := hr.eq_of_exact (s := 0) (by omega) (by rw [val_zero]; rfl)
    subst hr0
    have hz : rung double b = 0 := by rw [hr2]; omega
    have hfin : isFin double x = true := by simp [isFin]; exact h
    have hi : 0 < double.infRung := by decide
    rw [hb, hfin]
    have := feq_zero .f64 b
    rw [this]
    show (!isNaN double b && decide (rung double b = 0)) = true
    unfold isNaN; rw [hz]; simp
  · have hs := sgn_flip (f := double) hx
    have hr1 := read_inf ok_double h
    have hr2 := read_inf ok_double (x := flip double x) (by rw [rung_flip (f := double) hx]; exact h)
    have hb : fop .sub .f64 x x = qn .f64 := by
      unfold fop; rw [e, Format.add, hr1, hr2, hs]; cases sgn double x <;> rfl
    have hfin : isFin double x = false := by simp [isFin]; omega
    rw [hb, hfin]; decide
  · have hn : isNaN double x = true := by simp [isNaN, h]
    have hr1 := read_nan ok_double h
    have hb : fop .sub .f64 x x = qn .f64 := by
      unfold fop; rw [e, Format.add, hr1, sum_nan_l]; rfl
    have hfin : isFin double x = false := by simp [isFin]; omega
    rw [hb, hfin]; decide
end Fl
namespace Fl
open Ieee Go
theorem floatBits_nan_l {op : BinOp} {k : FloatKind} {x y : Nat} (h : isNaN k.format x = true) : floatBits op k x y = none := by
  have hr := read_nan (ok_kind k) (x := x) (by simpa [isNaN] using h)
  cases op <;> simp only [floatBits, Format.add, Format.sub, Format.mul, Format.div, hr, sum_nan_l, product_nan_l, quotient_nan_l, Option.map_none]
theorem floatBits_nan_r {op : BinOp} {k : FloatKind} {x y : Nat} (h : isNaN k.format y = true) : floatBits op k x y = none := by
  have hr := read_nan (ok_kind k) (x := y) (by simpa [isNaN] using h)
  cases op <;> simp only [floatBits, Format.add, Format.sub, Format.mul, Format.div, hr, Datum.opposite, sum_nan_r, product_nan_r, quotient_nan_r, Option.map_none]
theorem fop_nan_l {op : BinOp} {k : FloatKind} {x y : Nat} (h : isNaN k.format x = true) : fop op k x y = qn k := by unfold fop; rw [floatBits_nan_l h]; rfl
theorem fop_nan_r {op : BinOp} {k : FloatKind} {x y : Nat} (h : isNaN k.format y = true) : fop op k x y = qn k := by unfold fop; rw [floatBits_nan_r h]; rfl
theorem fsqrt_nan {x : Nat} (h : isNaN double x = true) : fsqrt x = qn .f64 := by
  have hr := read_nan ok_double (x := x) (by simpa [isNaN] using h)
  have h1 : FloatKind.f64.format.read x = .nan (sgn double x) (rung double x - double.infRung) := hr
  unfold fsqrt Format.sqrt
  rw [h1]; rfl
theorem qn_nan : isNaN double (qn .f64) = true := isNaN_qn .f64
/-- A NaN goes through. -/
theorem absOf_nan {g l : Nat} (h : isNaN double g = true ∨ isNaN double l = true) : absOf g l = qn .f64 := by
  unfold absOf
  rcases h with h | h
  · exact fop_nan_l h
  · have h1 : fdiv l g = qn .f64 := fop_nan_l h
    rw [h1]
    have h2 : fmul (qn .f64) (qn .f64) = qn .f64 := fop_nan_l qn_nan
    rw [h2]
    have h3 : fadd fone (qn .f64) = qn .f64 := fop_nan_r qn_nan
    rw [h3, fsqrt_nan qn_nan]
    exact fop_nan_r qn_nan
theorem isNaN_fabs (x : Nat) : isNaN double (fabs x) = isNaN double x := by
  unfold fabs
  by_cases h : isNaN double x = true
  · rw [if_pos h, h]; exact qn_nan
  · rw [if_neg h, isNaN_rung]
theorem isInf_rung (f : Format) (x : Nat) : isInf f (rung f x) = isInf f x := by unfold isInf; rw [rung_rung]
theorem fabs_cn (x : Nat) : fabs (cn .f64 x) = cn .f64 (rung double x) := (cn_rung x).symm
end Fl
namespace Fl
open Ieee Go

theorem neg_read (f : Format) (x : Nat) : (f.read x).neg = sgn f x := by
  rw [read_eq]; split
  · rfl
  · split
    · rfl
    · split <;> rfl
theorem sgn_write {f : Format} (ok : Ok f) (d : Datum) : sgn f (f.write d) = d.neg := by
  cases d with
  | number s m e => exact (nearest_rounds ok s m e).sgn
  | infinity s => exact sgn_word s (infRung_lt f)
  | nan s t =>
    refine sgn_word s ?_
    have h : t % f.binade < f.binade := Nat.mod_lt _ (binade_pos f)
    have := infRung_add f
    omega
theorem product_neg {a b d : Datum} (h : a.product b = some d) : d.neg = (a.neg ^^ b.neg) := by
  cases a <;> cases b <;> simp [Datum.product] at h
  · subst h; rfl
  · obtain ⟨_, rfl⟩ := h; simp [Datum.neg, Bool.xor_comm]
  · obtain ⟨_, rfl⟩ := h; rfl
  · subst h; rfl
theorem quotient_neg {g : Nat} {a b d : Datum} (h : Datum.quotient g a b = some d) : d.neg = (a.neg ^^ b.neg) := by
  cases a with
  | nan => simp [quotient_nan_l] at h
  | infinity s =>
    cases b with
    | nan => simp [quotient_nan_r] at h
    | infinity t => simp [Datum.quotient] at h
    | number t n j => simp [Datum.quotient] at h; subst h; rfl
  | number s m i =>
    cases b with
    | nan => simp [quotient_nan_r] at h
    | infinity t => simp [Datum.quotient] at h; subst h; rfl
    | number t n j =>
      simp only [Datum.quotient] at h
      split at h
      · split at h
        · cases h
        · cases h; rfl
      · cases h; rfl
theorem root_neg {g : Nat} {a d : Datum} (h : Datum.root g a = some d) : d.neg = a.neg ∨ d.neg = false := by
  cases a with
  | nan => simp [Datum.root] at h
  | infinity s => simp [Datum.root] at h; obtain ⟨_, rfl⟩ := h; exact .inl rfl
  | number s m i =>
    simp only [Datum.root] at h
    split at h
    · cases h; exact .inl rfl
    · split at h
      · cases h
      · cases h; exact .inr rfl
theorem sum_neg {a b d : Datum} (h : a.sum b = some d) (ha : a.neg = false) (hb : b.neg = false) : d.neg = false := by
  cases a <;> cases b <;> simp [Datum.sum] at h
  · rename_i s m i t n j
    simp only [Datum.neg] at ha hb
    subst ha; subst hb
    subst h
    simp only [Datum.neg, signed, Bool.false_eq_true, if_false]
    split
    · rfl
    · simp only [decide_eq_false_iff_not]
      exact Int.not_lt.2 (Int.add_nonneg (Int.natCast_nonneg _) (Int.natCast_nonneg _))
  · subst h; exact hb
  · subst h; exact ha
  · obtain ⟨_, rfl⟩ := h; exact ha

/-- Not a NaN: then its sign is not set. -/
def pos (x : Nat) : Prop := isNaN double x = false → sgn double x = false
theorem pos_qn : pos (qn .f64) := fun h => by rw [qn_nan] at h; cases h
theorem pos_rung (x : Nat) : pos (rung double x) := fun _ => sgn_rung double x
theorem pos_cn {x : Nat} (h : pos x) : pos (cn .f64 x) := by
  by_cases hn : isNaN double x = true
  · rw [cn_of_nan (k := .f64) hn]; exact pos_qn
  · rw [cn_of_not (k := .f64) (Bool.eq_false_iff.2 hn)]; exact h
theorem pos_fabs (x : Nat) : pos (fabs x) := by
  unfold fabs; split
  · exact pos_qn
  · exact pos_rung x
theorem sgn_fop {op : BinOp} (h2 : op = .mul ∨ op = .quo) {x y : Nat} (h : isNaN double (fop op .f64 x y) = false) : sgn double (fop op .f64 x y) = (sgn double x ^^ sgn double y) := by
  unfold fop at h ⊢
  cases hb : floatBits op .f64 x y with
  | none => rw [hb] at h; exact absurd (qn_nan.symm.trans h) (by simp)
  | some r =>
    show sgn double r = _
    rcases h2 with rfl | rfl
    · obtain ⟨d, hd, rfl⟩ := Option.map_eq_some_iff.1 (show ((double.read x).product (double.read y)).map double.write = some r from hb)
      rw [sgn_write ok_double, product_neg hd, neg_read, neg_read]
    · obtain ⟨d, hd, rfl⟩ := Option.map_eq_some_iff.1 (show (Datum.quotient 54 (double.read x) (double.read y)).map double.write = some r from hb)
      rw [sgn_write ok_double, quotient_neg hd, neg_read, neg_read]
/-- An operand that is a NaN makes a NaN. -/
theorem not_nan_of_fop {op : BinOp} {x y : Nat} (h : isNaN double (fop op .f64 x y) = false) : isNaN double x = false ∧ isNaN double y = false := by
  constructor
  · cases hx : isNaN double x
    · rfl
    · rw [fop_nan_l (k := .f64) hx, qn_nan] at h; cases h
  · cases hy : isNaN double y
    · rfl
    · rw [fop_nan_r (k := .f64) hy, qn_nan] at h; cases h
theorem pos_mul {x y : Nat} (hx : pos x) (hy : pos y) : pos (fmul x y) := fun h => by
  have hn := not_nan_of_fop h
  rw [sgn_fop (.inl rfl) h, hx hn.1, hy hn.2]; rfl
theorem pos_div {x y : Nat} (hx : pos x) (hy : pos y) : pos (fdiv x y) := fun h => by
  have hn := not_nan_of_fop h
  rw [sgn_fop (.inr rfl) h, hx hn.1, hy hn.2]; rfl
theorem pos_add {x y : Nat} (hx : pos x) (hy : pos y) : pos (fadd x y) := fun h => by
  have hn := not_nan_of_fop h
  unfold fadd fop at h ⊢
  cases hb : floatBits .add .f64 x y with
  | none => rw [hb] at h; exact absurd (qn_nan.symm.trans h) (by simp)
  | some r =>
    show sgn double r = _
    obtain ⟨d, hd, rfl⟩ := Option.map_eq_some_iff.1 (show ((double.read x).sum (double.read y)).map double.write = some r from hb)
    rw [sgn_write ok_double]
    exact sum_neg hd ((neg_read double x).trans (hx hn.1)) ((neg_read double y).trans (hy hn.2))
theorem not_nan_of_sqrt {x : Nat} (h : isNaN double (fsqrt x) = false) : isNaN double x = false := by
  cases hx : isNaN double x
  · rfl
  · rw [fsqrt_nan hx, qn_nan] at h; cases h
theorem pos_sqrt {x : Nat} (hx : pos x) : pos (fsqrt x) := fun h => by
  have hn := not_nan_of_sqrt h
  unfold fsqrt at h ⊢
  cases hb : FloatKind.f64.format.sqrt x with
  | none => rw [hb] at h; exact absurd (qn_nan.symm.trans h) (by simp)
  | some r =>
    show sgn double r = _
    obtain ⟨d, hd, rfl⟩ := Option.map_eq_some_iff.1 (show (Datum.root 54 (double.read x)).map double.write = some r from hb)
    rw [sgn_write ok_double]
    rcases root_neg hd with h1 | h1
    · rw [h1, neg_read]; exact hx hn
    · exact h1
theorem pos_sub {x y : Nat} (hx : pos x) (hy : isNaN double y = false → sgn double y = true) (ly : y < 18446744073709551616) : pos (fsub x y) := by
  have e : fsub x y = fadd x (flip double y) := by
    unfold fsub fadd fop
    have : floatBits .sub .f64 x y = floatBits .add .f64 x (flip double y) := sub_eq (f := double) ly
    rw [this]
  rw [e]
  refine pos_add hx fun h => ?_
  rw [isNaN_flip ly] at h
  rw [sgn_flip (f := double) ly, hy h]; rfl
theorem pos_one : pos fone := fun _ => by decide
theorem pos_two : pos ftwo := fun _ => by decide
theorem pos_zero : pos 0 := fun _ => by decide
theorem pos_inf : pos finf := fun _ => by decide
theorem pos_absOf {g l : Nat} (hg : pos g) (hl : pos l) : pos (absOf g l) :=
  pos_mul hg (pos_sqrt (pos_add pos_one (pos_mul (pos_div hl hg) (pos_div hl hg))))
theorem pos_pAbs (z : C) : pos (pAbs z) := by
  unfold pAbs
  dsimp only
  split
  · exact pos_inf
  · split
    · exact pos_qn
    · split
      · exact pos_zero
      · split
        · exact pos_absOf (pos_fabs _) (pos_fabs _)
        · exact pos_absOf (pos_fabs _) (pos_fabs _)
theorem isNaN_word {f : Format} (s : Bool) (x : Nat) : isNaN f (f.word s (rung f x)) = isNaN f x := by
  unfold isNaN; rw [rung_word s (rung_lt f x)]
theorem cn_word (s : Bool) (x : Nat) : cn .f64 (double.word s (rung double x)) = if isNaN double x then qn .f64 else double.word s (rung double x) := by
  unfold cn
  have : isNaN FloatKind.f64.format (double.word s (rung double x)) = isNaN double x := isNaN_word s x
  rw [this]
end Fl
namespace Fl
open Ieee Go

theorem sum_comm (a b : Datum) : a.sum b = b.sum a := by
  cases a <;> cases b <;> simp only [Datum.sum]
  · rename_i s m i t n j
    rw [Int.min_comm i j, Int.add_comm, Bool.and_comm]
  · rename_i s t
    by_cases h : s = t
    · rw [if_pos h, if_pos h.symm, h]
    · rw [if_neg h, if_neg (fun e => h e.symm)]
theorem product_comm (a b : Datum) : a.product b = b.product a := by
  cases a <;> cases b <;> simp only [Datum.product]
  · rename_i s m i t n j
    rw [Bool.xor_comm, Nat.mul_comm, Int.add_comm]
  · rename_i s t
    rw [Bool.xor_comm]
theorem fadd_comm (x y : Nat) : fadd x y = fadd y x := by
  unfold fadd fop
  show (((double.read x).sum (double.read y)).map double.write).getD _ = (((double.read y).sum (double.read x)).map double.write).getD _
  rw [sum_comm]
theorem fmul_comm (x y : Nat) : fmul x y = fmul y x := by
  unfold fmul fop
  show (((double.read x).product (double.read y)).map double.write).getD _ = (((double.read y).product (double.read x)).map double.write).getD _
  rw [product_comm]
theorem fneg_qn : fneg (qn .f64) = qn .f64 := by unfold fneg; rw [if_pos qn_nan]
theorem fneg_of_nan {x : Nat} (h : isNaN double x = true) : fneg x = qn .f64 := by unfold fneg; rw [if_pos h]
theorem fneg_of_not {x : Nat} (h : isNaN double x = false) : fneg x = flip double x := by unfold fneg; rw [if_neg (by rw [h]; simp)]
theorem fneg_lt {x : Nat} (h : x < 18446744073709551616) : fneg x < 18446744073709551616 := by
  unfold fneg; split
  · exact qn_lt .f64
  · exact flip_lt64 h
theorem isNaN_fneg {x : Nat} (h : x < 18446744073709551616) : isNaN double (fneg x) = isNaN double x := by
  cases hx : isNaN double x
  · rw [fneg_of_not hx, isNaN_flip h, hx]
  · rw [fneg_of_nan hx, qn_nan]
theorem rung_fneg {x : Nat} (h : x < 18446744073709551616) (hn : isNaN double x = false) : rung double (fneg x) = rung double x := by
  rw [fneg_of_not hn, rung_flip (f := double) h]
theorem fabs_fneg {x : Nat} (h : x < 18446744073709551616) : fabs (fneg x) = fabs x := by
  cases hx : isNaN double x
  · unfold fabs; rw [isNaN_fneg h, rung_fneg h hx]
  · rw [fneg_of_nan hx]; unfold fabs; rw [hx, qn_nan]; rfl
theorem fneg_fneg {x : Nat} (h : x < 18446744073709551616) (hc : cn .f64 x = x) : fneg (fneg x) = x := by
  cases hx : isNaN double x
  · have h1 : isNaN double (flip double x) = false := by rw [isNaN_flip h, hx]
    rw [fneg_of_not hx, fneg_of_not h1, flip_flip]
  · rw [fneg_of_nan hx, fneg_qn, ← hc, cn_of_nan (k := .f64) hx]
theorem isInf_fneg {x : Nat} (h : x < 18446744073709551616) : isInf double (fneg x) = isInf double x := by
  cases hx : isNaN double x
  · unfold isInf; rw [rung_fneg h hx]
  · rw [fneg_of_nan hx]
    have e : isInf double x = false := by
      simp only [isNaN, isInf, decide_eq_true_eq, decide_eq_false_iff_not] at *; omega
    rw [e]; decide
theorem write_opposite (d : Datum) (h : d.isNaN = false) : double.write d.opposite = flip double (double.write d) := by
  cases d with
  | nan s t => simp [Datum.isNaN] at h
  | infinity s =>
    show double.word (!s) double.infRung = flip double (double.word s double.infRung)
    rw [flip_eq (word_lt s (infRung_lt double)), sgn_word s (infRung_lt double), rung_word s (infRung_lt double)]
  | number s m e =>
    show double.nearest (!s) m e = flip double (double.nearest s m e)
    rw [nearest_eq, nearest_eq]
    have e1 : rungOf double (!s) m e = rungOf double s m e := rfl
    have h2 : min (rungOf double s m e) double.infRung < double.signWeight := by have := infRung_lt double; omega
    rw [e1, flip_eq (word_lt s h2), sgn_word s h2, rung_word s h2]
theorem getD_opp (o : Option Datum) (h : ∀ d, o = some d → d.isNaN = false) : ((o.map Datum.opposite).map double.write).getD (qn .f64) = fneg ((o.map double.write).getD (qn .f64)) := by
  cases o with
  | none => exact fneg_qn.symm
  | some d =>
    show double.write d.opposite = fneg (double.write d)
    rw [write_opposite d (h d rfl)]; exact (fneg_of_not (write_not_nan .f64 (h d rfl))).symm
theorem product_opp_l (a b : Datum) : a.opposite.product b = (a.product b).map Datum.opposite := by
  cases a <;> cases b <;> simp only [Datum.product, Datum.opposite, Option.map_none, Option.map_some] <;> (try split) <;> simp [Datum.opposite]
theorem quotient_opp_l (g : Nat) (a b : Datum) : Datum.quotient g a.opposite b = (Datum.quotient g a b).map Datum.opposite := by
  cases a <;> cases b <;> simp only [Datum.quotient, Datum.opposite, Option.map_none, Option.map_some] <;> (try split) <;> (try split) <;> simp [Datum.opposite]
theorem quotient_opp_r (g : Nat) (a b : Datum) : Datum.quotient g a b.opposite = (Datum.quotient g a b).map Datum.opposite := by
  cases a <;> cases b <;> simp only [Datum.quotient, Datum.opposite, Option.map_none, Option.map_some] <;> (try split) <;> (try split) <;> simp [Datum.opposite]
theorem fadd_nan_l {x : Nat} (h : isNaN double x = true) (y : Nat) : fadd x y = qn .f64 := fop_nan_l (k := .f64) h
theorem fadd_nan_r {y : Nat} (h : isNaN double y = true) (x : Nat) : fadd x y = qn .f64 := fop_nan_r (k := .f64) h
theorem fsub_nan_l {x : Nat} (h : isNaN double x = true) (y : Nat) : fsub x y = qn .f64 := fop_nan_l (k := .f64) h
theorem fsub_nan_r {y : Nat} (h : isNaN double y = true) (x : Nat) : fsub x y = qn .f64 := fop_nan_r (k := .f64) h
theorem fmul_nan_l {x : Nat} (h : isNaN double x = true) (y : Nat) : fmul x y = qn .f64 := fop_nan_l (k := .f64) h
theorem fmul_nan_r {y : Nat} (h : isNaN double y = true) (x : Nat) : fmul x y = qn .f64 := fop_nan_r (k := .f64) h
theorem fdiv_nan_l {x : Nat} (h : isNaN double x = true) (y : Nat) : fdiv x y = qn .f64 := fop_nan_l (k := .f64) h
theorem fdiv_nan_r {y : Nat} (h : isNaN double y = true) (x : Nat) : fdiv x y = qn .f64 := fop_nan_r (k := .f64) h
theorem fmul_neg_l {x : Nat} (hx : x < 18446744073709551616) (y : Nat) : fmul (fneg x) y = fneg (fmul x y) := by
  cases hn : isNaN double x
  · rw [fneg_of_not hn]
    unfold fmul fop
    show (((double.read (flip double x)).product (double.read y)).map double.write).getD _ = fneg ((((double.read x).product (double.read y)).map double.write).getD _)
    rw [read_flip (f := double) hx, product_opp_l]
    exact getD_opp _ (fun d hd => product_not_nan hd)
  · rw [fneg_of_nan hn, fmul_nan_l qn_nan, fmul_nan_l hn, fneg_qn]
theorem fmul_neg_r (x : Nat) {y : Nat} (hy : y < 18446744073709551616) : fmul x (fneg y) = fneg (fmul x y) := by
  rw [fmul_comm, fmul_neg_l hy, fmul_comm]
theorem fdiv_neg_l {x : Nat} (hx : x < 18446744073709551616) (y : Nat) : fdiv (fneg x) y = fneg (fdiv x y) := by
  cases hn : isNaN double x
  · rw [fneg_of_not hn]
    unfold fdiv fop
    show ((Datum.quotient 54 (double.read (flip double x)) (double.read y)).map double.write).getD _ = fneg (((Datum.quotient 54 (double.read x) (double.read y)).map double.write).getD _)
    rw [read_flip (f := double) hx, quotient_opp_l]
    exact getD_opp _ (fun d hd => quotient_not_nan hd)
  · rw [fneg_of_nan hn, fdiv_nan_l qn_nan, fdiv_nan_l hn, fneg_qn]
theorem fdiv_neg_r (x : Nat) {y : Nat} (hy : y < 18446744073709551616) : fdiv x (fneg y) = fneg (fdiv x y) := by
  cases hn : isNaN double y
  · rw [fneg_of_not hn]
    unfold fdiv fop
    show ((Datum.quotient 54 (double.read x) (double.read (flip double y))).map double.write).getD _ = fneg (((Datum.quotient 54 (double.read x) (double.read y)).map double.write).getD _)
    rw [read_flip (f := double) hy, quotient_opp_r]
    exact getD_opp _ (fun d hd => quotient_not_nan hd)
  · rw [fneg_of_nan hn, fdiv_nan_r qn_nan, fdiv_nan_r hn, fneg_qn]
theorem fsub_eq (x : Nat) {y : Nat} (hy : y < 18446744073709551616) : fsub x y = fadd x (fneg y) := by
  cases hn : isNaN double y
  · rw [fneg_of_not hn]
    unfold fsub fadd fop
    show (double.sub x y).getD _ = (double.add x (flip double y)).getD _
    rw [sub_eq (f := double) hy]
  · rw [fneg_of_nan hn, fadd_nan_r qn_nan, fsub_nan_r hn]

/-- The same, or both a nought. -/
def zq (x y : Nat) : Prop := x = y ∨ (rung double x = 0 ∧ rung double y = 0)
theorem zq.rfl' (x : Nat) : zq x x := .inl rfl
theorem zq.symm {x y : Nat} (h : zq x y) : zq y x := h.elim (fun e => .inl e.symm) (fun e => .inr ⟨e.2, e.1⟩)
theorem zq.trans {x y z : Nat} (h : zq x y) (h' : zq y z) : zq x z := by
  rcases h with rfl | ⟨h1, h2⟩
  · exact h'
  · rcases h' with rfl | ⟨h3, h4⟩
    · exact .inr ⟨h1, h2⟩
    · exact .inr ⟨h1, h4⟩
theorem isNaN_of_rung0 {x : Nat} (h : rung double x = 0) : isNaN double x = false := by
  unfold isNaN; rw [h]; simp
theorem zq.feq {x y : Nat} (h : zq x y) (hn : isNaN double x = false) : feq .f64 x y = true := by
  rcases h with rfl | ⟨h1, h2⟩
  · rw [feq_self]; show (!isNaN double x) = true; rw [hn]; rfl
  · rw [feq_def]
    have e1 : key double x = 0 := by unfold key; rw [h1]; simp
    have e2 : key double y = 0 := by unfold key; rw [h2]; simp
    show (!isNaN double x && !isNaN double y && decide (key double x = key double y)) = true
    rw [isNaN_of_rung0 h1, isNaN_of_rung0 h2, e1, e2]; simp
theorem zq.isNaN {x y : Nat} (h : zq x y) : isNaN double x = isNaN double y := by
  rcases h with rfl | ⟨h1, h2⟩
  · rfl
  · rw [isNaN_of_rung0 h1, isNaN_of_rung0 h2]
theorem zq.fneg {x y : Nat} (h : zq x y) (hx : x < 18446744073709551616) (hy : y < 18446744073709551616) : zq (fneg x) (fneg y) := by
  rcases h with rfl | ⟨h1, h2⟩
  · exact .inl rfl
  · exact .inr ⟨by rw [rung_fneg hx (isNaN_of_rung0 h1), h1], by rw [rung_fneg hy (isNaN_of_rung0 h2), h2]⟩
theorem zq_fneg_self {x : Nat} (hx : x < 18446744073709551616) (h : rung double x = 0) : zq (fneg x) x :=
  .inr ⟨by rw [rung_fneg hx (isNaN_of_rung0 h), h], h⟩
theorem read_zero {x : Nat} (h : rung double x = 0) : double.read x = .number (sgn double x) 0 double.leastPlace := by
  rw [read_eq, if_pos (by rw [h]; exact binade_pos _), h]
theorem write_zero (s : Bool) (e : Int) : rung double (double.write (.number s 0 e)) = 0 := by
  show rung double (double.nearest s 0 e) = 0
  rw [nearest_eq]
  have h : rungOf double s 0 e = 0 := by unfold rungOf; rw [if_pos rfl]
  rw [h, Nat.zero_min, rung_word s (signWeight_pos _)]
/-- Two answers that are the same, or both a nought, or both none. -/
def zo (o o' : Option Datum) : Prop := zq ((o.map double.write).getD (qn .f64)) ((o'.map double.write).getD (qn .f64))
theorem zo_zero (s s' : Bool) (e e' : Int) : zo (some (.number s 0 e)) (some (.number s' 0 e')) := .inr ⟨write_zero s e, write_zero s' e'⟩
theorem sum_zq (s s' : Bool) (e : Int) (b : Datum) : zo (Datum.sum (.number s 0 e) b) (Datum.sum (.number s' 0 e) b) := by
  cases b with
  | nan t n => exact .inl rfl
  | infinity t => exact .inl rfl
  | number t n j =>
    simp only [Datum.sum]
    have h : ∀ u : Bool, signed u 0 (e - min e j).toNat = 0 := by intro u; cases u <;> simp [signed]
    rw [h, h]
    by_cases h0 : (0 : Int) + signed t n (j - min e j).toNat = 0
    · rw [if_pos h0, if_pos h0, h0]; exact zo_zero _ _ _ _
    · rw [if_neg h0, if_neg h0]; exact .inl rfl
theorem product_zq (s s' : Bool) (e : Int) (b : Datum) : zo (Datum.product (.number s 0 e) b) (Datum.product (.number s' 0 e) b) := by
  cases b with
  | nan t n => exact .inl rfl
  | infinity t => simp only [Datum.product]; exact .inl rfl
  | number t n j => simp only [Datum.product, Nat.zero_mul]; exact zo_zero _ _ _ _
theorem quotient_zq (g : Nat) (s s' : Bool) (e : Int) (b : Datum) : zo (Datum.quotient g (.number s 0 e) b) (Datum.quotient g (.number s' 0 e) b) := by
  cases b with
  | nan t n => exact .inl rfl
  | infinity t => simp only [Datum.quotient]; exact zo_zero _ _ _ _
  | number t n j =>
    simp only [Datum.quotient]
    by_cases hn : n = 0
    · rw [if_pos hn, if_pos hn]; exact .inl rfl
    · rw [if_neg hn, if_neg hn]
      simp only [Nat.zero_shiftLeft, Nat.zero_div, Nat.zero_mod]
      exact zo_zero _ _ _ _
theorem zq.add_l {x x' : Nat} (h : zq x x') (y : Nat) : zq (fadd x y) (fadd x' y) := by
  rcases h with rfl | ⟨h1, h2⟩
  · exact .inl rfl
  · have := sum_zq (sgn double x) (sgn double x') double.leastPlace (double.read y)
    rw [← read_zero h1, ← read_zero h2] at this
    exact this
theorem zq.add_r {y y' : Nat} (h : zq y y') (x : Nat) : zq (fadd x y) (fadd x y') := by
  rw [fadd_comm x y, fadd_comm x y']; exact h.add_l x
theorem zq.add {x x' y y' : Nat} (h : zq x x') (h' : zq y y') : zq (fadd x y) (fadd x' y') := (h.add_l y).trans (h'.add_r x')
theorem zq.mul_l {x x' : Nat} (h : zq x x') (y : Nat) : zq (fmul x y) (fmul x' y) := by
  rcases h with rfl | ⟨h1, h2⟩
  · exact .inl rfl
  · have := product_zq (sgn double x) (sgn double x') double.leastPlace (double.read y)
    rw [← read_zero h1, ← read_zero h2] at this
    exact this
theorem zq.mul_r {y y' : Nat} (h : zq y y') (x : Nat) : zq (fmul x y) (fmul x y') := by
  rw [fmul_comm x y, fmul_comm x y']; exact h.mul_l x
theorem zq.div_l {x x' : Nat} (h : zq x x') (y : Nat) : zq (fdiv x y) (fdiv x' y) := by
  rcases h with rfl | ⟨h1, h2⟩
  · exact .inl rfl
  · have := quotient_zq 54 (sgn double x) (sgn double x') double.leastPlace (double.read y)
    rw [← read_zero h1, ← read_zero h2] at this
    exact this
theorem fadd_lt (x y : Nat) : fadd x y < 18446744073709551616 := fop_lt .add .f64 x y
theorem fsub_lt (x y : Nat) : fsub x y < 18446744073709551616 := fop_lt .sub .f64 x y
theorem fmul_lt (x y : Nat) : fmul x y < 18446744073709551616 := fop_lt .mul .f64 x y
theorem fdiv_lt (x y : Nat) : fdiv x y < 18446744073709551616 := fop_lt .quo .f64 x y
theorem zq.sub {x x' y y' : Nat} (h : zq x x') (h' : zq y y') (hy : y < 18446744073709551616) (hy' : y' < 18446744073709551616) : zq (fsub x y) (fsub x' y') := by
  rw [fsub_eq x hy, fsub_eq x' hy']; exact h.add (h'.fneg hy hy')

/-- The sum of the opposites: the opposite, but for the sign of a nought. -/
theorem signed_not (s : Bool) (m u : Nat) : signed (!s) m u = -signed s m u := by cases s <;> simp [signed]
theorem sum_opp (a b : Datum) : zo (a.opposite.sum b.opposite) ((a.sum b).map Datum.opposite) := by
  cases a with
  | nan s t => exact .inl rfl
  | infinity s =>
    cases b with
    | nan t n => exact .inl rfl
    | number t n j => exact .inl rfl
    | infinity t =>
      simp only [Datum.sum, Datum.opposite]
      by_cases h : s = t
      · subst h; rw [if_pos rfl, if_pos rfl]; exact .inl rfl
      · rw [if_neg h, if_neg (by intro e; exact h (Bool.not_inj e))]; exact .inl rfl
  | number s m i =>
    cases b with
    | nan t n => exact .inl rfl
    | infinity t => exact .inl rfl
    | number t n j =>
      simp only [Datum.sum, Datum.opposite, signed_not, Option.map_some]
      obtain ⟨p, hp⟩ : ∃ p, signed s m (i - min i j).toNat = p := ⟨_, rfl⟩
      obtain ⟨q, hq⟩ : ∃ q, signed t n (j - min i j).toNat = q := ⟨_, rfl⟩
      rw [hp, hq]
      by_cases h0 : p + q = 0
      · have h1 : -p + -q = 0 := by omega
        rw [if_pos h1, if_pos h0, h0, h1]; exact zo_zero _ _ _ _
      · have h1 : ¬ (-p + -q = 0) := by omega
        have h2 : (-p + -q).natAbs = (p + q).natAbs := by omega
        have h3 : decide (-p + -q < 0) = !decide (p + q < 0) := by
          rw [Bool.eq_iff_iff]; simp; omega
        rw [if_neg h1, if_neg h0, h2, h3]; exact .inl rfl
theorem fadd_neg {x y : Nat} (hx : x < 18446744073709551616) (hy : y < 18446744073709551616) : zq (fadd (fneg x) (fneg y)) (fneg (fadd x y)) := by
  cases hn : isNaN double x
  · cases hm : isNaN double y
    · rw [fneg_of_not hn, fneg_of_not hm]
      have h := sum_opp (double.read x) (double.read y)
      rw [← read_flip (f := double) hx, ← read_flip (f := double) hy] at h
      unfold zo at h
      rw [getD_opp _ (fun d hd => sum_not_nan hd)] at h
      exact h
    · rw [fneg_of_nan hm, fadd_nan_r qn_nan, fadd_nan_r hm, fneg_qn]; exact .inl rfl
  · rw [fneg_of_nan hn, fadd_nan_l qn_nan, fadd_nan_l hn, fneg_qn]; exact .inl rfl
theorem fsub_neg {x y : Nat} (hx : x < 18446744073709551616) (hy : y < 18446744073709551616) : zq (fsub (fneg x) (fneg y)) (fneg (fsub x y)) := by
  rw [fsub_eq _ (fneg_lt hy), fsub_eq _ hy]; exact fadd_neg hx (fneg_lt hy)
end Fl
namespace Fl
open Ieee Go

theorem rounds_exact {f : Format} {s : Bool} {x D b : Nat} (hx : x < 2 ^ f.width) (hf : fin f x) (hs : s = sgn f x) (hD : 0 < D) (h : Rounds f s (val f (rung f x) * D) D b) : b = x := by
  obtain ⟨r, h1, rfl⟩ := h
  have e := h1.eq_of_exact hD rfl
  have hm : min r f.infRung = rung f x := by rw [e]; unfold fin at hf; omega
  rw [hm, hs]; exact (word_split hx).symm
theorem fin_of_isFin {x : Nat} (h : isFin double x = true) : fin double x := of_decide_eq_true (p := rung double x < double.infRung) h
theorem val_one64 : val double (rung double fone) = one_ double := by decide +kernel
theorem fin_one : fin double fone := by unfold fin; decide +kernel
theorem fmul_one {x : Nat} (hx : x < 18446744073709551616) (hf : fin double x) : fmul x fone = x := by
  obtain ⟨b, h1, h2⟩ := mul_fin ok_double hf fin_one
  rw [val_one64] at h2
  have hs : (sgn double x ^^ sgn double fone) = sgn double x := by
    have : sgn double fone = false := by decide
    rw [this]; simp
  have e := rounds_exact (f := double) (x := x) hx hf hs (one_pos double) h2
  unfold fmul fop
  show (double.mul x fone).getD _ = x
  rw [h1]; exact e
theorem fadd_zero {x z : Nat} (hx : x < 18446744073709551616) (hf : fin double x) (hz : rung double z = 0) : zq (fadd x z) x := by
  have hfz : fin double z := by unfold fin; rw [hz]; decide
  obtain ⟨b, h1, h2⟩ := add_fin ok_double hf hfz
  have hb : fadd x z = b := by
    unfold fadd fop
    show (double.add x z).getD _ = b
    rw [h1]; rfl
  rw [hb]
  have sz : sval double z = 0 := by unfold sval; rw [hz, val_zero]; simp
  rw [sz, Int.add_zero] at h2
  by_cases h0 : sval double x = 0
  · rw [if_pos h0, h0] at h2
    right
    constructor
    · obtain ⟨r, h3, h4⟩ := h2.rung
      have h5 : r = 0 := Rne.unique (Nat.one_pos) h3 (Rne.zero double 1 Nat.one_pos)
      rw [h4, h5]; simp
    · have h6 : val double (rung double x) = 0 := by
        unfold sval at h0; split at h0 <;> omega
      exact val_inj (f := double) (h6.trans (val_zero double).symm)
  · rw [if_neg h0] at h2
    left
    have hv : (sval double x).natAbs = val double (rung double x) * 1 := by
      unfold sval; split <;> omega
    have hs : decide (sval double x < 0) = sgn double x := by
      have hr : val double (rung double x) ≠ 0 := by
        intro e; apply h0; unfold sval; rw [e]; simp
      unfold sval
      cases sgn double x
      · simp
      · simp; omega
    rw [hv] at h2
    exact rounds_exact (f := double) hx hf hs Nat.one_pos h2
theorem fmul_zero {y : Nat} (hf : fin double y) : rung double (fmul y 0) = 0 := by
  have h0 : rung double 0 = 0 := by decide
  obtain ⟨b, h1, h2⟩ := mul_fin ok_double hf (y := 0) (by unfold fin; rw [h0]; decide)
  rw [h0, val_zero, Nat.mul_zero] at h2
  obtain ⟨r, h3, h4⟩ := h2.rung
  have h5 : r = 0 := Rne.unique (one_pos double) h3 (Rne.zero double _ (one_pos double))
  unfold fmul fop
  show rung double ((double.mul y 0).getD _) = 0
  rw [h1]
  show rung double b = 0
  rw [h4, h5]; simp

def zqC (a b : C) : Prop := zq a.1 b.1 ∧ zq a.2 b.2
def ltC (a : C) : Prop := a.1 < 18446744073709551616 ∧ a.2 < 18446744073709551616
theorem zqC.equal {a b : C} (h : zqC a b) (h1 : isNaN double a.1 = false) (h2 : isNaN double a.2 = false) : pEqual a b = true := by
  unfold pEqual; rw [h.1.feq h1, h.2.feq h2]; rfl
theorem pAdd_comm (a b : C) : pAdd a b = pAdd b a := by unfold pAdd; rw [fadd_comm a.1, fadd_comm a.2]
theorem pMul_comm (a b : C) : pMul a b = pMul b a := by
  unfold pMul; rw [fmul_comm a.1 b.1, fmul_comm a.2 b.2, fmul_comm a.1 b.2, fmul_comm a.2 b.1, fadd_comm (fmul b.2 a.1)]
theorem pSub_eq (a : C) {b : C} (hb : ltC b) : pSub a b = pAdd a (pNeg b) := by
  unfold pSub pAdd pNeg; rw [fsub_eq _ hb.1, fsub_eq _ hb.2]
theorem cn_of_fop (op : BinOp) (x y : Nat) : cn .f64 (fop op .f64 x y) = fop op .f64 x y := cn_fop op .f64 x y
theorem fmul_neg_neg {x y : Nat} (hx : x < 18446744073709551616) (hy : y < 18446744073709551616) : fmul (fneg x) (fneg y) = fmul x y := by
  rw [fmul_neg_l hx, fmul_neg_r _ hy, fneg_fneg (fmul_lt _ _) (cn_of_fop _ _ _)]
theorem fsub_neg_r (x : Nat) {y : Nat} (hy : y < 18446744073709551616) (hc : cn .f64 y = y) : fsub x (fneg y) = fadd x y := by
  rw [fsub_eq _ (fneg_lt hy), fneg_fneg hy hc]
theorem mul_conj {a b : C} (ha : ltC a) (hb : ltC b) : zqC (pMul (pConj a) (pConj b)) (pConj (pMul a b)) := by
  unfold pMul pConj
  constructor
  · show zq (fsub (fmul a.1 b.1) (fmul (fneg a.2) (fneg b.2))) (fsub (fmul a.1 b.1) (fmul a.2 b.2))
    rw [fmul_neg_neg ha.2 hb.2]; exact .inl rfl
  · show zq (fadd (fmul a.1 (fneg b.2)) (fmul (fneg a.2) b.1)) (fneg (fadd (fmul a.1 b.2) (fmul a.2 b.1)))
    rw [fmul_neg_r _ hb.2, fmul_neg_l ha.2]
    exact fadd_neg (fmul_lt _ _) (fmul_lt _ _)
theorem sum_opp_same {a b : Datum} (h : a.neg = b.neg) : a.opposite.sum b.opposite = (a.sum b).map Datum.opposite := by
  cases a with
  | nan s t => rfl
  | infinity s =>
    cases b with
    | nan t n => rfl
    | number t n j => rfl
    | infinity t =>
      simp only [Datum.neg] at h
      subst h
      simp [Datum.sum, Datum.opposite]
  | number s m i =>
    cases b with
    | nan t n => rfl
    | infinity t => rfl
    | number t n j =>
      simp only [Datum.neg] at h
      subst h
      simp only [Datum.sum, Datum.opposite, signed_not, Option.map_some]
      obtain ⟨p, hp⟩ : ∃ p, signed s m (i - min i j).toNat = p := ⟨_, rfl⟩
      obtain ⟨q, hq⟩ : ∃ q, signed s n (j - min i j).toNat = q := ⟨_, rfl⟩
      rw [hp, hq]
      have h2 : (-p + -q).natAbs = (p + q).natAbs := by omega
      by_cases h0 : p + q = 0
      · have h1 : -p + -q = 0 := by omega
        rw [if_pos h1, if_pos h0, h2]; simp
      · have h1 : ¬ (-p + -q = 0) := by omega
        have h3 : decide (-p + -q < 0) = !decide (p + q < 0) := by
          rw [Bool.eq_iff_iff]; simp; omega
        rw [if_neg h1, if_neg h0, h2, h3]
theorem fadd_neg_same {x y : Nat} (hx : x < 18446744073709551616) (hy : y < 18446744073709551616) (h : isNaN double x = true ∨ isNaN double y = true ∨ sgn double x = sgn double y) :
    fadd (fneg x) (fneg y) = fneg (fadd x y) := by
  cases hn : isNaN double x
  · cases hm : isNaN double y
    · have hs : sgn double x = sgn double y := by
        rcases h with h | h | h
        · rw [hn] at h; cases h
        · rw [hm] at h; cases h
        · exact h
      rw [fneg_of_not hn, fneg_of_not hm]
      unfold fadd fop
      show (((double.read (flip double x)).sum (double.read (flip double y))).map double.write).getD _ = fneg ((((double.read x).sum (double.read y)).map double.write).getD _)
      rw [read_flip (f := double) hx, read_flip (f := double) hy, sum_opp_same (by rw [neg_read, neg_read, hs])]
      exact getD_opp _ (fun d hd => sum_not_nan hd)
    · rw [fneg_of_nan hm, fadd_nan_r qn_nan, fadd_nan_r hm, fneg_qn]
  · rw [fneg_of_nan hn, fadd_nan_l qn_nan, fadd_nan_l hn, fneg_qn]
theorem sgn_round (x y : Nat) : isNaN double (fmul x (fdiv x y)) = true ∨ isNaN double y = true ∨ sgn double (fmul x (fdiv x y)) = sgn double y := by
  cases h : isNaN double (fmul x (fdiv x y))
  · have h1 := not_nan_of_fop h
    right; right
    rw [sgn_fop (.inl rfl) h, sgn_fop (.inr rfl) h1.2]
    cases sgn double x <;> cases sgn double y <;> rfl
  · exact .inl rfl
theorem div_conj {a b : C} (ha : ltC a) (hb : ltC b) : zqC (pDiv (pConj a) (pConj b)) (pConj (pDiv a b)) := by
  have hf : fabs (pConj b).2 = fabs b.2 := fabs_fneg hb.2
  by_cases hc : fle .f64 (fabs b.2) (fabs b.1) = true
  · have e1 : pDiv (pConj a) (pConj b) = (fdiv (fadd a.1 (fmul (fneg a.2) (fdiv (fneg b.2) b.1))) (fadd b.1 (fmul (fneg b.2) (fdiv (fneg b.2) b.1))), fdiv (fsub (fneg a.2) (fmul a.1 (fdiv (fneg b.2) b.1))) (fadd b.1 (fmul (fneg b.2) (fdiv (fneg b.2) b.1)))) := by
      unfold pDiv; rw [hf]; exact if_pos hc
    have e2 : pDiv a b = (fdiv (fadd a.1 (fmul a.2 (fdiv b.2 b.1))) (fadd b.1 (fmul b.2 (fdiv b.2 b.1))), fdiv (fsub a.2 (fmul a.1 (fdiv b.2 b.1))) (fadd b.1 (fmul b.2 (fdiv b.2 b.1)))) := by
      unfold pDiv; exact if_pos hc
    rw [e1, e2, fdiv_neg_l hb.2, fmul_neg_neg ha.2 (fdiv_lt _ _), fmul_neg_neg hb.2 (fdiv_lt _ _), fmul_neg_r _ (fdiv_lt _ _)]
    refine ⟨.inl rfl, ?_⟩
    show zq (fdiv (fsub (fneg a.2) (fneg (fmul a.1 (fdiv b.2 b.1)))) _) (fneg (fdiv (fsub a.2 (fmul a.1 (fdiv b.2 b.1))) _))
    rw [← fdiv_neg_l (fsub_lt _ _)]
    exact (fsub_neg ha.2 (fmul_lt _ _)).div_l _
  · have e1 : pDiv (pConj a) (pConj b) = (fdiv (fadd (fmul a.1 (fdiv b.1 (fneg b.2))) (fneg a.2)) (fadd (fmul b.1 (fdiv b.1 (fneg b.2))) (fneg b.2)), fdiv (fsub (fmul (fneg a.2) (fdiv b.1 (fneg b.2))) a.1) (fadd (fmul b.1 (fdiv b.1 (fneg b.2))) (fneg b.2))) := by
      unfold pDiv; rw [hf]; exact if_neg hc
    have e2 : pDiv a b = (fdiv (fadd (fmul a.1 (fdiv b.1 b.2)) a.2) (fadd (fmul b.1 (fdiv b.1 b.2)) b.2), fdiv (fsub (fmul a.2 (fdiv b.1 b.2)) a.1) (fadd (fmul b.1 (fdiv b.1 b.2)) b.2)) := by
      unfold pDiv; exact if_neg hc
    rw [e1, e2, fdiv_neg_r _ hb.2, fmul_neg_neg ha.2 (fdiv_lt _ _), fmul_neg_r _ (fdiv_lt _ _), fmul_neg_r _ (fdiv_lt _ _),
      fadd_neg_same (fmul_lt _ _) hb.2 (sgn_round b.1 b.2), fdiv_neg_r _ (fadd_lt _ _), fdiv_neg_r _ (fadd_lt _ _)]
    refine ⟨?_, .inl rfl⟩
    show zq (fneg (fdiv (fadd (fneg (fmul a.1 (fdiv b.1 b.2))) (fneg a.2)) _)) (fdiv (fadd (fmul a.1 (fdiv b.1 b.2)) a.2) _)
    rw [← fdiv_neg_l (fadd_lt _ _)]
    have h1 := (fadd_neg (x := fmul a.1 (fdiv b.1 b.2)) (fmul_lt _ _) ha.2).fneg (fadd_lt _ _) (fneg_lt (fadd_lt _ _))
    rw [fneg_fneg (fadd_lt _ _) (cn_of_fop _ _ _)] at h1
    exact h1.div_l _
theorem div_num {a a' : C} (h : zqC a a') (ha : ltC a) (ha' : ltC a') (b : C) : zqC (pDiv a b) (pDiv a' b) := by
  unfold pDiv
  split
  · exact ⟨(h.1.add (h.2.mul_l _)).div_l _, (h.2.sub (h.1.mul_l _) (fmul_lt _ _) (fmul_lt _ _)).div_l _⟩
  · exact ⟨((h.1.mul_l _).add h.2).div_l _, ((h.2.mul_l _).sub h.1 ha.1 ha'.1).div_l _⟩
theorem zqC.trans {a b c : C} (h : zqC a b) (h' : zqC b c) : zqC a c := ⟨h.1.trans h'.1, h.2.trans h'.2⟩
theorem inv_conj {z : C} (hz : ltC z) : zqC (pInv (pConj z)) (pConj (pInv z)) := by
  have h1 : ltC (fone, 0) := ⟨by decide, by decide⟩
  have h2 : ltC (pConj (fone, 0)) := ⟨by decide, by decide⟩
  have h3 : zqC (fone, 0) (pConj (fone, 0)) := ⟨.inl rfl, .inr ⟨by decide, by decide⟩⟩
  exact (div_num h3 h1 h2 (pConj z)).trans (div_conj h1 hz)
theorem mul_one {a : C} (ha : ltC a) (hf : pFinite a = true) : zqC (pMul a (fone, 0)) a := by
  have hf' : isFin double a.1 = true ∧ isFin double a.2 = true := by
    unfold pFinite at hf; exact (Bool.and_eq_true _ _).mp hf
  have f1 := fin_of_isFin hf'.1
  have f2 := fin_of_isFin hf'.2
  constructor
  · show zq (fsub (fmul a.1 fone) (fmul a.2 0)) a.1
    rw [fmul_one ha.1 f1, fsub_eq _ (fmul_lt _ _)]
    exact fadd_zero ha.1 f1 (by rw [rung_fneg (fmul_lt _ _) (isNaN_of_rung0 (fmul_zero f2)), fmul_zero f2])
  · show zq (fadd (fmul a.1 0) (fmul a.2 fone)) a.2
    rw [fmul_one ha.2 f2, fadd_comm]
    exact fadd_zero ha.2 f2 (fmul_zero f1)
theorem conj_conj {a : C} (ha : ltC a) (hc : cn .f64 a.2 = a.2) : pConj (pConj a) = a := by
  unfold pConj; rw [fneg_fneg ha.2 hc]
theorem neg_neg {a : C} (ha : ltC a) (hc1 : cn .f64 a.1 = a.1) (hc : cn .f64 a.2 = a.2) : pNeg (pNeg a) = a := by
  unfold pNeg; rw [fneg_fneg ha.1 hc1, fneg_fneg ha.2 hc]
theorem abs_conj {a : C} (ha : ltC a) : pAbs (pConj a) = pAbs a := by
  unfold pAbs pConj
  simp only [fabs_fneg ha.2, isInf_fneg ha.2, isNaN_fneg ha.2]
theorem feq_fneg0 {x : Nat} (hx : x < 18446744073709551616) : feq .f64 (fneg x) 0 = feq .f64 x 0 := by
  cases hn : isNaN double x
  · have h1 := feq_zero .f64 (fneg x)
    have h2 := feq_zero .f64 x
    rw [h1, h2]
    show (!isNaN double (fneg x) && decide (rung double (fneg x) = 0)) = (!isNaN double x && decide (rung double x = 0))
    rw [isNaN_fneg hx, rung_fneg hx hn]
  · rw [feq_zero, feq_zero]
    show (!isNaN double (fneg x) && _) = (!isNaN double x && _)
    rw [isNaN_fneg hx, hn]; rfl
theorem fabs_of_fneg {x : Nat} (hx : x < 18446744073709551616) : fabs (fneg x) = fabs x := fabs_fneg hx
theorem fabs_lt (x : Nat) : fabs x < 18446744073709551616 := by
  unfold fabs; split
  · exact qn_lt .f64
  · exact rung_lt64' x
theorem sgn_fneg {x : Nat} (hx : x < 18446744073709551616) (hn : isNaN double x = false) : sgn double (fneg x) = !sgn double x := by
  rw [fneg_of_not hn, sgn_flip (f := double) hx]
theorem sqrt_conj {a : C} (ha : ltC a) : pSqrt (pConj a) = pConj (pSqrt a) := by
  have hp : pZero (pConj a) = pZero a := by
    unfold pZero pConj; simp only [feq_fneg0 ha.2]
  have habs := abs_conj ha
  unfold pSqrt
  rw [hp, habs]
  have hn : isNaN double (pConj a).2 = isNaN double a.2 := isNaN_fneg ha.2
  rw [hn]
  show (if (isNaN double a.1 || isNaN double a.2) = true then _ else if pZero a = true then (0, fneg a.2) else if fle .f64 0 a.1 = true then _ else _) = _
  by_cases h1 : (isNaN double a.1 || isNaN double a.2) = true
  · rw [if_pos h1, if_pos h1]; unfold pConj; rw [fneg_qn]
  · rw [if_neg h1, if_neg h1]
    have hn2 : isNaN double a.2 = false := by
      cases h : isNaN double a.2
      · rfl
      · rw [h] at h1; simp at h1
    by_cases h2 : pZero a = true
    · rw [if_pos h2, if_pos h2]; rfl
    · rw [if_neg h2, if_neg h2]
      by_cases h3 : fle .f64 0 a.1 = true
      · rw [if_pos h3, if_pos h3]
        unfold pConj
        show (_, fdiv (fneg a.2) _) = (_, fneg (fdiv a.2 _))
        rw [fdiv_neg_l ha.2]
      · rw [if_neg h3, if_neg h3]
        unfold pConj
        show (fabs (fdiv (fneg a.2) _), if isNaN double _ then qn .f64 else double.word (sgn double (fneg a.2)) _) = (fabs (fdiv a.2 _), fneg (if isNaN double _ then qn .f64 else double.word (sgn double a.2) _))
        rw [fdiv_neg_l ha.2, fabs_fneg (fdiv_lt _ _), sgn_fneg ha.2 hn2]
        obtain ⟨v, hv⟩ : ∃ v, fsqrt (fsub (fdiv (pAbs a) ftwo) (fdiv a.1 ftwo)) = v := ⟨_, rfl⟩
        show (_, if isNaN double (fsqrt (fsub (fdiv (pAbs a) ftwo) (fdiv a.1 ftwo))) = true then qn .f64 else double.word (!sgn double a.2) (rung double (fsqrt (fsub (fdiv (pAbs a) ftwo) (fdiv a.1 ftwo))))) = (_, fneg (if isNaN double (fsqrt (fsub (fdiv (pAbs a) ftwo) (fdiv a.1 ftwo))) = true then qn .f64 else double.word (sgn double a.2) (rung double (fsqrt (fsub (fdiv (pAbs a) ftwo) (fdiv a.1 ftwo))))))
        rw [hv]
        by_cases h4 : isNaN double v = true
        · rw [if_pos h4, if_pos h4, fneg_qn]
        · rw [if_neg h4, if_neg h4]
          have h5 : isNaN double (double.word (sgn double a.2) (rung double v)) = false := by
            rw [isNaN_word]; exact Bool.eq_false_iff.2 h4
          rw [fneg_of_not h5, flip_eq (f := double) (word_lt _ (rung_lt double v)), sgn_word _ (rung_lt double v), rung_word _ (rung_lt double v)]
end Fl
namespace Fl
open Ieee Go
/-- The cosine of 0 to 6 steps. -/
def conT (k : Int) : Nat :=
  if k = 0 then 4607182418800017408 else if k = 1 then 4606875505927962389 else if k = 2 then 4605975682916830378 else if k = 3 then 4604544271217802189
  else if k = 4 then 4602678819172646912 else if k = 5 then 4598334089338226320 else 0
/-- The cosine of 0 to 23 steps. -/
def cosT (k : Int) : Nat :=
  if k > 17 then conT (24 - k) else if k > 12 then flip double (conT (k - 12)) else if k > 6 then flip double (conT (12 - k)) else conT k
def rootT (k : Int) : C := (cosT (k % 24), cosT ((k + 18) % 24))
theorem twenty_four {P : Int → Prop} (h : P 0 ∧ P 1 ∧ P 2 ∧ P 3 ∧ P 4 ∧ P 5 ∧ P 6 ∧ P 7 ∧ P 8 ∧ P 9 ∧ P 10 ∧ P 11 ∧ P 12 ∧ P 13 ∧ P 14 ∧ P 15 ∧ P 16 ∧ P 17 ∧ P 18 ∧ P 19 ∧ P 20 ∧ P 21 ∧ P 22 ∧ P 23)
    (m : Int) (h0 : 0 ≤ m) (h1 : m < 24) : P m := by
  have e : m = 0 ∨ m = 1 ∨ m = 2 ∨ m = 3 ∨ m = 4 ∨ m = 5 ∨ m = 6 ∨ m = 7 ∨ m = 8 ∨ m = 9 ∨ m = 10 ∨ m = 11 ∨ m = 12 ∨ m = 13 ∨ m = 14 ∨ m = 15 ∨ m = 16 ∨ m = 17 ∨ m = 18 ∨ m = 19 ∨ m = 20 ∨ m = 21 ∨ m = 22 ∨ m = 23 := by omega
  rcases e with rfl | rfl | rfl | rfl | rfl | rfl | rfl | rfl | rfl | rfl | rfl | rfl | rfl | rfl | rfl | rfl | rfl | rfl | rfl | rfl | rfl | rfl | rfl | rfl <;> simp only [h]
theorem cosT_good (m : Int) (h0 : 0 ≤ m) (h1 : m < 24) : cosT m < 18446744073709551616 ∧ isNaN double (cosT m) = false :=
  twenty_four (P := fun m => cosT m < 18446744073709551616 ∧ isNaN double (cosT m) = false) (by decide +kernel) m h0 h1
theorem rootT_fst_lt (k : Int) : (rootT k).1 < 18446744073709551616 := (cosT_good _ (by omega) (by omega)).1
theorem rootT_snd_lt (k : Int) : (rootT k).2 < 18446744073709551616 := (cosT_good _ (by omega) (by omega)).1
theorem cn_rootT (k : Int) : (cn .f64 (rootT k).1, cn .f64 (rootT k).2) = rootT k := by
  have h1 : cn .f64 (rootT k).1 = (rootT k).1 := cn_of_not (k := .f64) (cosT_good _ (by omega) (by omega)).2
  have h2 : cn .f64 (rootT k).2 = (rootT k).2 := cn_of_not (k := .f64) (cosT_good _ (by omega) (by omega)).2
  rw [h1, h2]
theorem tmod_range (k : Int) : -24 < k.tmod 24 ∧ k.tmod 24 < 24 := by
  have h1 := Int.tmod_lt_of_pos k (b := 24) (by omega)
  have h2 := Int.tmod_lt_of_pos (-k) (b := 24) (by omega)
  rw [Int.neg_tmod] at h2
  exact ⟨by omega, h1⟩
theorem tmod_emod (k : Int) : (k.tmod 24) % 24 = k % 24 := by
  have h := Int.tmod_add_mul_tdiv k 24
  generalize k.tmod 24 = r at *
  omega
end Fl
namespace Fl
theorem emod_of_tmod (i n : Int) (hn : 0 < n) : i % n = if i.tmod n < 0 then i.tmod n + n else i.tmod n := by
  have h := Int.tmod_add_mul_tdiv i n
  have a1 := Int.tmod_lt_of_pos i hn
  have a2 := Int.tmod_lt_of_pos (-i) hn
  rw [Int.neg_tmod] at a2
  have e : i % n = (i.tmod n) % n := by
    conv => lhs; rw [← h]
    rw [Int.add_mul_emod_self_left]
  rw [e]
  split
  · rename_i hneg
    have : (i.tmod n) % n = (i.tmod n + n) % n := by rw [Int.add_emod_right]
    rw [this, Int.emod_eq_of_lt (by omega) (by omega)]
  · exact Int.emod_eq_of_lt (by omega) a1
end Fl
namespace Fl
open Ieee Go
theorem rootFrom_spec (n : Nat) : ∀ todo root : Nat, root * root ≤ n → n < (root + 2 ^ todo) * (root + 2 ^ todo) →
    Datum.rootFrom n todo root * Datum.rootFrom n todo root ≤ n ∧ n < (Datum.rootFrom n todo root + 1) * (Datum.rootFrom n todo root + 1)
  | 0, root, h1, h2 => by
    simp only [Datum.rootFrom]
    exact ⟨h1, by simpa using h2⟩
  | todo + 1, root, h1, h2 => by
    simp only [Datum.rootFrom, Nat.one_shiftLeft]
    by_cases hc : (root + 2 ^ todo) * (root + 2 ^ todo) ≤ n
    · rw [if_pos hc]
      refine rootFrom_spec n todo _ hc ?_
      have e : root + 2 ^ todo + 2 ^ todo = root + 2 ^ (todo + 1) := by rw [Nat.pow_succ]; omega
      rw [e]; exact h2
    · rw [if_neg hc]
      exact rootFrom_spec n todo _ h1 (by omega)
theorem root_spec (n : Nat) : Datum.rootFrom n (n.log2 / 2 + 1) 0 * Datum.rootFrom n (n.log2 / 2 + 1) 0 ≤ n ∧
    n < (Datum.rootFrom n (n.log2 / 2 + 1) 0 + 1) * (Datum.rootFrom n (n.log2 / 2 + 1) 0 + 1) := by
  refine rootFrom_spec n _ 0 (by simp) ?_
  rw [Nat.zero_add, ← Nat.pow_add]
  have h : n < 2 ^ (n.log2 + 1) := Nat.lt_log2_self
  exact Nat.lt_of_lt_of_le h (Nat.pow_le_pow_right (by omega) (by omega))
theorem sq_le {a b : Nat} (h : a * a ≤ b * b) : a ≤ b := by
  rcases Nat.lt_or_ge b a with h1 | h1
  · exact absurd h (Nat.not_le.2 (Nat.mul_self_lt_mul_self h1))
  · exact h1
theorem sq_lt {a b : Nat} (h : a * a < b * b) : a < b := by
  rcases Nat.lt_or_ge a b with h1 | h1
  · exact h1
  · exact absurd h (Nat.not_lt.2 (Nat.mul_self_le_mul_self h1))
/-- Where a word's size stands to a number that is not whole at the scale of its last places: 'W' has 54 digits at least. -/
theorem grain {c q a W T v : Nat} (hv : v = c * 2 ^ q) (hc : c < 9007199254740992) (hW : 9007199254740992 ≤ W) (hT : T = 2 ^ (a + 1)) :
    (v < (W + 1) * T → 2 * v ≤ (2 * W + 1) * T) ∧ (W * T < v → (2 * W + 1) * T ≤ 2 * v) := by
  by_cases hq : a + 1 ≤ q
  · obtain ⟨d, rfl⟩ : ∃ d, q = a + 1 + d := ⟨q - (a + 1), by omega⟩
    have e : v = (c * 2 ^ d) * T := by rw [hv, hT, Nat.pow_add, Nat.mul_assoc, Nat.mul_comm (2 ^ (a + 1))]
    have hp : 0 < T := by rw [hT]; exact Nat.two_pow_pos _
    constructor
    · intro h
      rw [e] at h
      have h1 : c * 2 ^ d < W + 1 := Nat.lt_of_mul_lt_mul_right h
      have h2 : c * 2 ^ d * T ≤ W * T := Nat.mul_le_mul_right _ (by omega)
      rw [e]
      have : (2 * W + 1) * T = 2 * (W * T) + T := by rw [Nat.add_mul, Nat.mul_assoc, Nat.one_mul]
      omega
    · intro h
      rw [e] at h
      have h1 : W < c * 2 ^ d := Nat.lt_of_mul_lt_mul_right h
      have h2 : (W + 1) * T ≤ c * 2 ^ d * T := Nat.mul_le_mul_right _ h1
      rw [e]
      have e1 : (2 * W + 1) * T = 2 * (W * T) + T := by rw [Nat.add_mul, Nat.mul_assoc, Nat.one_mul]
      have e2 : (W + 1) * T = W * T + T := by rw [Nat.add_mul, Nat.one_mul]
      omega
  · have h1 : 2 ^ q ≤ 2 ^ a := Nat.pow_le_pow_right (by omega) (by omega)
    have h2 : v ≤ 9007199254740992 * 2 ^ a := by rw [hv]; exact Nat.mul_le_mul (by omega) h1
    have h3 : 9007199254740992 * 2 ^ a ≤ W * 2 ^ a := Nat.mul_le_mul_right _ hW
    have e : T = 2 * 2 ^ a := by rw [hT, Nat.pow_succ, Nat.mul_comm]
    have e1 : W * T = 2 * (W * 2 ^ a) := by rw [e, Nat.mul_left_comm]
    have e2 : (2 * W + 1) * T = 2 * (W * T) + T := by rw [Nat.add_mul, Nat.mul_assoc, Nat.one_mul]
    have hp : 0 < 2 ^ a := Nat.two_pow_pos _
    have h4 : 2 ^ a ≤ W * 2 ^ a := Nat.le_mul_of_pos_left _ (by omega)
    constructor
    · intro _; omega
    · intro h; omega
theorem binade64 : double.binade = 4503599627370496 := by decide
theorem least64 : double.leastPlace = -1074 := by decide
theorem frac64 : double.fractionBits = 52 := by decide
theorem infRung64 : double.infRung = 9218868437227405312 := by decide
/-- THE ROOT of a finite number above nought: a rung that stands to every rung as the exact root does. -/
theorem sqrt_fin {x : Nat} (hx : fin double x) (hs : sgn double x = false) (h0 : rung double x ≠ 0) :
    ∃ r, fsqrt x = double.word false (min r double.infRung) ∧
      (∀ s, val double s * val double s ≤ val double (rung double x) * one_ double → s ≤ r) ∧
      (∀ s, val double (rung double x) * one_ double ≤ val double s * val double s → r ≤ s) := by
  obtain ⟨m, e, hr, he, hv⟩ := read_fin hx
  rw [least64] at he hv
  rw [hs] at hr
  have hm : m ≠ 0 := by
    intro h
    have h1 := le_val double (rung double x)
    rw [h, Nat.zero_mul] at hv
    omega
  obtain ⟨more0, hmore0⟩ : ∃ q, q = 2 * (double.fractionBits + 2) - m.log2 := ⟨_, rfl⟩
  obtain ⟨more, hmore⟩ : ∃ q, q = more0 + ((e - (more0 : Int)) % 2).toNat := ⟨_, rfl⟩
  obtain ⟨n, hn⟩ : ∃ q, q = m <<< more := ⟨_, rfl⟩
  obtain ⟨W, hW⟩ : ∃ q, q = Datum.rootFrom n (n.log2 / 2 + 1) 0 := ⟨_, rfl⟩
  have hspec := root_spec n
  rw [← hW] at hspec
  have hq : FloatKind.f64.format.sqrt x = some (double.nearest false (2 * W + (W * W != n).toNat) ((e - (more : Int)) / 2 - 1)) := by
    have e1 : FloatKind.f64.format.sqrt x = ((double.read x).root (double.fractionBits + 2)).map double.write := rfl
    rw [e1, hr]
    simp only [Datum.root, if_neg hm, Bool.false_eq_true, if_false, Option.map_some, Format.write]
    rw [← hmore0, ← hmore, ← hn, ← hW]
  obtain ⟨R, hR, hb⟩ := nearest_rounds ok_double false (2 * W + (W * W != n).toNat) ((e - (more : Int)) / 2 - 1)
  refine ⟨R, by unfold fsqrt; rw [hq]; exact hb, ?_⟩
  -- the place
  rw [frac64] at hmore0
  have hmore0' : more0 ≤ 108 := by omega
  have hmore' : more ≤ 109 := by omega
  have heven : (e - (more : Int)) % 2 = 0 := by omega
  obtain ⟨k, hk⟩ : ∃ k : Int, e - (more : Int) = 2 * k := ⟨(e - (more : Int)) / 2, by omega⟩
  have hk2 : (e - (more : Int)) / 2 = k := by omega
  rw [hk2, least64] at hR
  obtain ⟨a, ha⟩ : ∃ a : Nat, (a : Int) = k - 1 + 1074 := ⟨(k - 1 + 1074).toNat, by omega⟩
  have ea : (k - 1 - -1074).toNat = a := by omega
  have eb : (-1074 - (k - 1)).toNat = 0 := by omega
  rw [ea, eb, Nat.pow_zero] at hR
  -- n and the size
  have hn' : n = m * 2 ^ more := by rw [hn, Nat.shiftLeft_eq]
  obtain ⟨K, hK⟩ : ∃ K, K = (-double.leastPlace).toNat := ⟨_, rfl⟩
  have hone : one_ double = 2 ^ K := by unfold one_; rw [hK]
  rw [least64] at hK
  have hexp : (e - -1074).toNat + K = more + (a + 1 + (a + 1)) := by clear hone hv hR hn' hb hq; omega
  have hVU : val double (rung double x) * one_ double = n * (2 ^ (a + 1) * 2 ^ (a + 1)) := by
    rw [← hv, hone, hn', Nat.mul_assoc, Nat.mul_assoc, ← Nat.pow_add, ← Nat.pow_add, ← Nat.pow_add, hexp]
  have hlog : 2 ^ m.log2 ≤ m := Nat.log2_self_le hm
  have hnbig : 2 ^ 108 ≤ n := by
    rw [hn']
    have h1 : 2 ^ m.log2 * 2 ^ more ≤ m * 2 ^ more := Nat.mul_le_mul_right _ hlog
    refine Nat.le_trans ?_ h1
    rw [← Nat.pow_add]
    exact Nat.pow_le_pow_right (by omega) (by omega)
  have hWbig : 9007199254740992 ≤ W := by
    have h1 : (2 ^ 54) * (2 ^ 54) < (W + 1) * (W + 1) := by
      refine Nat.lt_of_le_of_lt ?_ hspec.2
      rw [← Nat.pow_add]; exact hnbig
    have h2 := sq_lt h1
    have h3 : (2 : Nat) ^ 54 = 18014398509481984 := by decide
    rw [h3] at h2; omega
  generalize hT : 2 ^ (a + 1) = T at hVU
  have hTp : 0 < T := by rw [← hT]; exact Nat.two_pow_pos _
  have e2a : 2 * 2 ^ a = T := by rw [← hT, Nat.pow_succ, Nat.mul_comm]
  have key : ∀ s, (val double s * val double s ≤ n * (T * T) → 2 * val double s ≤ (2 * W + (W * W != n).toNat) * T) ∧
      (n * (T * T) ≤ val double s * val double s → (2 * W + (W * W != n).toNat) * T ≤ 2 * val double s) := by
    intro s
    obtain ⟨c, q, hvs, hc, _⟩ := val_form double s
    rw [binade64] at hc
    have g := grain hvs (by omega) hWbig hT.symm
    generalize val double s = v at g ⊢
    by_cases hex : W * W = n
    · have hb0 : (W * W != n).toNat = 0 := by simp [hex]
      rw [hb0, Nat.add_zero, ← hex]
      have e1 : W * W * (T * T) = (W * T) * (W * T) := Nat.mul_mul_mul_comm _ _ _ _
      have e2 : 2 * W * T = 2 * (W * T) := Nat.mul_assoc _ _ _
      rw [e1, e2]
      exact ⟨fun h => Nat.mul_le_mul_left 2 (sq_le h), fun h => Nat.mul_le_mul_left 2 (sq_le h)⟩
    · have hb1 : (W * W != n).toNat = 1 := by simp [hex]
      rw [hb1]
      constructor
      · intro h
        refine g.1 (sq_lt ?_)
        have e1 : (W + 1) * T * ((W + 1) * T) = (W + 1) * (W + 1) * (T * T) := Nat.mul_mul_mul_comm _ _ _ _
        rw [e1]
        exact Nat.lt_of_le_of_lt h (Nat.mul_lt_mul_of_pos_right hspec.2 (Nat.mul_pos hTp hTp))
      · intro h
        refine g.2 (sq_lt ?_)
        have e1 : W * T * (W * T) = W * W * (T * T) := Nat.mul_mul_mul_comm _ _ _ _
        rw [e1]
        exact Nat.lt_of_lt_of_le (Nat.mul_lt_mul_of_pos_right (by omega) (Nat.mul_pos hTp hTp)) h
  have exact1 : ∀ s, Rne double (val double s) 1 s := fun s => by
    have := Rne.exact double 1 s (by omega)
    rwa [Nat.mul_one] at this
  constructor
  · intro s h
    rw [hVU] at h
    have h1 := (key s).1 h
    refine (exact1 s).mono (by omega) (by omega) ?_ hR
    rw [Nat.mul_one, Nat.mul_one]
    have e3 : (2 * W + (W * W != n).toNat) * T = 2 * ((2 * W + (W * W != n).toNat) * 2 ^ a) := by rw [← e2a, Nat.mul_left_comm]
    omega
  · intro s h
    rw [hVU] at h
    have h1 := (key s).2 h
    refine hR.mono (by omega) (by omega) ?_ (exact1 s)
    rw [Nat.mul_one, Nat.mul_one]
    have e3 : (2 * W + (W * W != n).toNat) * T = 2 * ((2 * W + (W * W != n).toNat) * 2 ^ a) := by rw [← e2a, Nat.mul_left_comm]
    omega
end Fl
namespace Fl
open Ieee Go
/-! ### The operations on words without a sign -/
theorem wordF {r : Nat} (_h : r ≤ double.infRung) : double.word false r = r := by unfold Format.word; simp
theorem sgn_rung' {r : Nat} (h : r ≤ double.infRung) : sgn double r = false ∧ rung double r = r := by
  have hl := infRung_lt double
  have h1 := sgn_word (f := double) false (r := r) (by omega)
  have h2 := rung_word (f := double) false (r := r) (by omega)
  rw [wordF h] at h1 h2
  exact ⟨h1, h2⟩
theorem fin_rung {r : Nat} (h : r < double.infRung) : fin double r := by unfold fin; rw [(sgn_rung' (Nat.le_of_lt h)).2]; exact h
theorem sval_pos {r : Nat} (h : r ≤ double.infRung) : sval double r = (val double r : Int) := by
  unfold sval; rw [(sgn_rung' h).1, (sgn_rung' h).2]; simp
theorem fadd_pos {x y : Nat} (hx : x < double.infRung) (hy : y < double.infRung) :
    ∃ r, fadd x y = min r double.infRung ∧ Rne double (val double x + val double y) 1 r := by
  obtain ⟨b, h1, h2⟩ := add_fin ok_double (fin_rung hx) (fin_rung hy)
  have hb : fadd x y = b := by
    unfold fadd fop
    show (double.add x y).getD _ = b
    rw [h1]; rfl
  rw [sval_pos (Nat.le_of_lt hx), sval_pos (Nat.le_of_lt hy)] at h2
  have hs : (if (val double x : Int) + (val double y : Int) = 0 then sgn double x && sgn double y else decide ((val double x : Int) + (val double y : Int) < 0)) = false := by
    rw [(sgn_rung' (Nat.le_of_lt hx)).1]
    split
    · rfl
    · exact decide_eq_false (by omega)
  rw [hs] at h2
  have hn : ((val double x : Int) + (val double y : Int)).natAbs = val double x + val double y := by omega
  rw [hn] at h2
  obtain ⟨r, h3, h4⟩ := h2
  refine ⟨r, ?_, h3⟩
  rw [hb, h4, wordF (Nat.min_le_right _ _)]
theorem fmul_pos {x y : Nat} (hx : x < double.infRung) (hy : y < double.infRung) :
    ∃ r, fmul x y = min r double.infRung ∧ Rne double (val double x * val double y) (one_ double) r := by
  obtain ⟨b, h1, h2⟩ := mul_fin ok_double (fin_rung hx) (fin_rung hy)
  have hb : fmul x y = b := by
    unfold fmul fop
    show (double.mul x y).getD _ = b
    rw [h1]; rfl
  rw [(sgn_rung' (Nat.le_of_lt hx)).1, (sgn_rung' (Nat.le_of_lt hy)).1, (sgn_rung' (Nat.le_of_lt hx)).2, (sgn_rung' (Nat.le_of_lt hy)).2] at h2
  obtain ⟨r, h3, h4⟩ := h2
  refine ⟨r, ?_, h3⟩
  rw [hb, h4]
  exact wordF (Nat.min_le_right _ _)
theorem fdiv_pos {x y : Nat} (hx : x < double.infRung) (hy : y < double.infRung) (h0 : y ≠ 0) :
    ∃ r, fdiv x y = min r double.infRung ∧ Rne double (val double x * one_ double) (val double y) r := by
  obtain ⟨b, h1, h2⟩ := div_fin ok_double (fin_rung hx) (fin_rung hy) (by rw [(sgn_rung' (Nat.le_of_lt hy)).2]; exact h0)
  have hb : fdiv x y = b := by
    unfold fdiv fop
    show (double.div x y).getD _ = b
    rw [h1]; rfl
  rw [(sgn_rung' (Nat.le_of_lt hx)).1, (sgn_rung' (Nat.le_of_lt hy)).1, (sgn_rung' (Nat.le_of_lt hx)).2, (sgn_rung' (Nat.le_of_lt hy)).2] at h2
  obtain ⟨r, h3, h4⟩ := h2
  refine ⟨r, ?_, h3⟩
  rw [hb, h4]
  exact wordF (Nat.min_le_right _ _)
theorem fsqrt_pos {x : Nat} (hx : x < double.infRung) (h0 : x ≠ 0) :
    ∃ r, fsqrt x = min r double.infRung ∧ (∀ s, val double s * val double s ≤ val double x * one_ double → s ≤ r) ∧ (∀ s, val double x * one_ double ≤ val double s * val double s → r ≤ s) := by
  have e := sgn_rung' (Nat.le_of_lt hx)
  obtain ⟨r, h1, h2, h3⟩ := sqrt_fin (fin_rung hx) e.1 (by rw [e.2]; exact h0)
  rw [e.2] at h2 h3
  exact ⟨r, by rw [h1, wordF (Nat.min_le_right _ _)], h2, h3⟩
/-- Rungs of both sides of an exact number. -/
theorem rne_le {N D r s : Nat} (hD : 0 < D) (h : Rne double N D r) (hs : N ≤ val double s * D) : r ≤ s :=
  h.mono hD hD (Nat.mul_le_mul_right D hs) (Rne.exact double D s hD)
theorem le_rne {N D r s : Nat} (hD : 0 < D) (h : Rne double N D r) (hs : val double s * D ≤ N) : s ≤ r :=
  (Rne.exact double D s hD).mono hD hD (Nat.mul_le_mul_right D hs) h
/-! ### Above one -/
def rone : Nat := 4607182418800017408
/-- A quarter of the unit of the words from one to two. -/
def qt : Nat := 2 ^ 1020
theorem qt_pos : 0 < qt := by decide +kernel
theorem pow_1022 : (2 : Nat) ^ 1022 = 4 * qt := by decide +kernel
theorem pow_1023 : (2 : Nat) ^ 1023 = 2 * (4 * qt) := by decide +kernel
theorem one_unit : one_ double = 4503599627370496 * (4 * qt) := by decide +kernel
theorem val_qt : ∃ w, val double w = qt := ⟨4363988038922010624, by decide +kernel⟩
theorem val_rone (c : Nat) (hc : c ≤ 4503599627370496) : val double (rone + c) = (4503599627370496 + c) * (4 * qt) := by
  have hb := binade64
  by_cases h : c = 4503599627370496
  · subst h
    have e : rone + 4503599627370496 = double.binade * (1023 + 1) + 0 := by rw [hb]; rfl
    rw [e, val_mul_add (by rw [hb]; omega), hb, Nat.add_zero, pow_1023]
    generalize 4 * qt = t
    omega
  · have e : rone + c = double.binade * (1022 + 1) + c := by rw [hb]; show 4607182418800017408 + c = 4503599627370496 * 1023 + c; omega
    rw [e, val_mul_add (by rw [hb]; omega), hb, pow_1022]
/-- What is rounded off a rung is not more than half the rung. -/
theorem val_double {q : Nat} (h : 1 ≤ q) : val double (q + 1) ≤ 2 * val double q := by
  rw [val_succ]
  have hg : gap double q ≤ val double q := by
    rcases rung_cases double q with h1 | ⟨k, m, hm, rfl⟩
    · rw [gap_small h1, val_small h1]; exact h
    · rw [gap_mul_add hm, val_mul_add hm]
      exact Nat.le_mul_of_pos_left _ (by rw [binade64]; omega)
  omega
theorem rone_fin : rone < double.infRung := by rw [infRung64]; decide
theorem inf_big : rone + 4503599627370496 < double.infRung := by rw [infRung64]; decide
/-- The plain numbers of the matter: t a unit, U one. -/
theorem abs_plain {t U vr vq vs : Nat} (hU : U = 4503599627370496 * t) (ht : 0 < t) (hr1 : 33554432 * t ≤ vr) (hr2 : vr ≤ U) (hq : vq ≤ vr) (hs : vs ≤ U + vq + t) :
    ∃ d, d ≤ 4503599627370496 ∧ 4 * (d * t) ≤ 3 * vr ∧ vs * U ≤ ((4503599627370496 + d) * t) * ((4503599627370496 + d) * t) := by
  refine ⟨3 * vr / (4 * t), ?_, ?_, ?_⟩
  · have h1 : 3 * vr / (4 * t) * (4 * t) ≤ 3 * vr := Nat.div_mul_le_self _ _
    refine Nat.le_of_not_lt fun h => ?_
    have h2 : 4503599627370496 * (4 * t) ≤ 3 * vr / (4 * t) * (4 * t) := Nat.mul_le_mul_right _ (by omega)
    omega
  · have h1 : 3 * vr / (4 * t) * (4 * t) ≤ 3 * vr := Nat.div_mul_le_self _ _
    have e : 3 * vr / (4 * t) * (4 * t) = 4 * (3 * vr / (4 * t) * t) := Nat.mul_left_comm _ _ _
    omega
  · obtain ⟨d, hd⟩ : ∃ d, d = 3 * vr / (4 * t) := ⟨_, rfl⟩
    have h2 : 3 * vr < (d + 1) * (4 * t) := by
      have h3 := Nat.lt_mul_div_succ (3 * vr) (b := 4 * t) (by omega)
      rw [hd]
      exact Nat.lt_of_lt_of_eq h3 (Nat.mul_comm _ _)
    rw [← hd]
    have e1 : (4503599627370496 + d) * t = U + d * t := by rw [Nat.add_mul, ← hU]
    rw [e1]
    have e2 : (d + 1) * (4 * t) = 4 * (d * t) + 4 * t := by rw [Nat.add_mul, Nat.one_mul, Nat.mul_left_comm]
    generalize d * t = p at *
    have e3 : (U + p) * (U + p) = U * U + 2 * (p * U) + p * p := by
      rw [Nat.add_mul, Nat.mul_add, Nat.mul_add, Nat.mul_comm U p]; omega
    have h3 : vs ≤ U + 2 * p := by omega
    have h4 : vs * U ≤ (U + 2 * p) * U := Nat.mul_le_mul_right _ h3
    have e4 : (U + 2 * p) * U = U * U + 2 * (p * U) := by rw [Nat.add_mul, Nat.mul_assoc]
    omega
/-- THE SIZE: g the greater, l the less of both parts' sizes. -/
theorem abs_bounds {g l : Nat} (hg : g < double.infRung) (hle : l ≤ g) (h0 : g ≠ 0) :
    ∃ a s, absOf g l = min a double.infRung ∧ fadd g l = min s double.infRung ∧ g ≤ a ∧ a ≤ s := by
  have hl : l < double.infRung := by omega
  obtain ⟨U, hU⟩ : ∃ U, U = one_ double := ⟨_, rfl⟩
  obtain ⟨x, hx⟩ : ∃ x : Nat, x = qt := ⟨_, rfl⟩
  obtain ⟨t, ht⟩ : ∃ t : Nat, t = 4 * x := ⟨_, rfl⟩
  have htp : 0 < t := by have := qt_pos; omega
  have hUt : U = 4503599627370496 * t := by rw [hU, one_unit, ht, hx]
  have hUp : 0 < U := by omega
  have vr1 : ∀ c, c ≤ 4503599627370496 → val double (rone + c) = (4503599627370496 + c) * t := fun c hc => by rw [val_rone c hc, ht, hx]
  have v1 : val double rone = U := by have := vr1 0 (by omega); rw [hUt]; exact this
  have v2 : val double (rone + 4503599627370496) = 2 * U := by have := vr1 4503599627370496 (by omega); rw [this, hUt]; omega
  have hib := inf_big
  have hG : 0 < val double g := by have := le_val double g; omega
  have hLG : val double l ≤ val double g := val_le hle
  obtain ⟨w, hw⟩ := val_qt
  rw [← hx] at hw
  clear hx
  -- the ratio
  obtain ⟨r, hr, Rr⟩ := fdiv_pos hl hg h0
  rw [← hU] at Rr
  have r1 : r ≤ rone := rne_le hG Rr (by rw [v1, Nat.mul_comm]; exact Nat.mul_le_mul_left _ hLG)
  have hr' : fdiv l g = r := by rw [hr]; omega
  have vr : val double r ≤ U := by rw [← v1]; exact val_le r1
  -- its square
  obtain ⟨q, hq, Rq⟩ := fmul_pos (x := r) (y := r) (by omega) (by omega)
  rw [← hU] at Rq
  have q1 : q ≤ r := rne_le hUp Rq (Nat.mul_le_mul_left _ vr)
  have hq' : fmul r r = q := by rw [hq]; omega
  have vq : val double q ≤ val double r := val_le q1
  -- one more
  obtain ⟨s, hs, Rs⟩ := fadd_pos (x := rone) (y := q) rone_fin (Nat.lt_of_le_of_lt q1 (Nat.lt_of_le_of_lt r1 rone_fin))
  rw [v1] at Rs
  have s1 : rone ≤ s := le_rne Nat.one_pos Rs (by rw [v1]; omega)
  have s2 : s ≤ rone + 4503599627370496 := rne_le Nat.one_pos Rs (by rw [v2]; omega)
  have hs' : fadd rone q = s := by rw [hs]; omega
  have vs1 : U ≤ val double s := by rw [← v1]; exact val_le s1
  have vs2 : val double s ≤ 2 * U := by rw [← v2]; exact val_le s2
  -- its root
  obtain ⟨R, hR, lo, hi⟩ := fsqrt_pos (x := s) (by omega) (by have h1 : 0 < rone := (by decide); omega)
  rw [← hU] at lo hi
  have R1 : rone ≤ R := lo rone (by rw [v1]; exact Nat.mul_le_mul_right _ vs1)
  have R2 : R ≤ rone + 4503599627370496 := hi _ (by
    rw [v2]
    have h1 : val double s * U ≤ 2 * U * U := Nat.mul_le_mul_right _ vs2
    have h2 : 2 * U * U ≤ 2 * U * (2 * U) := Nat.mul_le_mul_left _ (by omega)
    omega)
  have hR' : fsqrt s = R := by rw [hR]; omega
  -- the size, and the sum
  obtain ⟨a, ha, Ra⟩ := fmul_pos (x := g) (y := R) hg (by omega)
  obtain ⟨m, hm, Rm⟩ := fadd_pos hg hl
  rw [← hU] at Ra
  refine ⟨a, m, ?_, hm, ?_, ?_⟩
  · have e : absOf g l = fmul g (fsqrt (fadd rone (fmul (fdiv l g) (fdiv l g)))) := rfl
    rw [e, hr', hq', hs', hR', ha]
  · exact le_rne hUp Ra (Nat.mul_le_mul_left _ (by rw [← v1]; exact val_le R1))
  · -- a root that is not above 1 + l / g
    have main : val double R * val double g ≤ (val double g + val double l) * U := by
      rcases Nat.eq_or_lt_of_le s1 with e | hlt
      · have h1 : R ≤ rone := hi rone (by rw [← e]; rw [v1]; exact Nat.le_refl _)
        have h2 : val double R ≤ U := by rw [← v1]; exact val_le h1
        have h3 : val double R * val double g ≤ U * val double g := Nat.mul_le_mul_right _ h2
        have h4 : U * val double g ≤ (val double g + val double l) * U := by rw [Nat.mul_comm]; exact Nat.mul_le_mul_right _ (by omega)
        omega
      · -- the square is not lost: the ratio is not small
        have hq2 : t ≤ 2 * val double q := by
          obtain ⟨p, rfl⟩ : ∃ p, s = p + 1 := ⟨s - 1, by omega⟩
          have h1 := Rs.2 p rfl
          have h2 : U ≤ val double p := by rw [← v1]; exact val_le (by omega)
          have h3 : U + t ≤ val double (p + 1) := by
            have e := vr1 1 (by omega)
            have h4 : val double (rone + 1) ≤ val double (p + 1) := val_le (by omega)
            rw [e, Nat.add_mul, ← hUt, Nat.one_mul] at h4; exact h4
          omega
        have hr2 : 33554432 * t ≤ val double r := by
          refine Nat.le_of_not_lt fun hsm => ?_
          -- r below 2^-27: its square is at most a quarter of the unit
          have h1 : val double r * val double r ≤ 33554432 * t * (33554432 * t) := Nat.mul_le_mul (by omega) (by omega)
          have h2 : q ≤ w := rne_le hUp Rq (by
            rw [hw]
            have e5 : 33554432 * t * (33554432 * t) = x * U := by
              rw [hUt, ht]
              have e6 : 33554432 * (4 * x) * (33554432 * (4 * x)) = (33554432 * 4 * (33554432 * 4)) * (x * x) := by
                rw [← Nat.mul_assoc 33554432 4 x, Nat.mul_mul_mul_comm]
              have e7 : x * (4503599627370496 * (4 * x)) = (4503599627370496 * 4) * (x * x) := by
                rw [← Nat.mul_assoc 4503599627370496 4 x, Nat.mul_left_comm]
              rw [e6, e7]
            omega)
          have h3 : val double q ≤ x := by rw [← hw]; exact val_le h2
          omega
        -- what is told of s
        have hs3 : val double s ≤ U + val double q + t := by
          obtain ⟨c, hc⟩ : ∃ c, c = val double q / t + 1 := ⟨_, rfl⟩
          have h1 : val double q < c * t := by
            have h3 := Nat.lt_mul_div_succ (val double q) (b := t) htp
            rw [hc]
            exact Nat.lt_of_lt_of_eq h3 (Nat.mul_comm _ _)
          have h2 : val double q / t * t ≤ val double q := Nat.div_mul_le_self _ _
          have e : c * t = val double q / t * t + t := by rw [hc, Nat.add_mul, Nat.one_mul]
          by_cases hcb : c ≤ 4503599627370496
          · have h3 : s ≤ rone + c := rne_le Nat.one_pos Rs (by rw [vr1 c hcb, Nat.add_mul, ← hUt]; omega)
            have h4 : val double s ≤ val double (rone + c) := val_le h3
            rw [vr1 c hcb, Nat.add_mul, ← hUt] at h4
            omega
          · have h3 : 4503599627370496 * t ≤ val double q / t * t := Nat.mul_le_mul_right _ (by omega)
            omega
        obtain ⟨d, hd1, hd2, hd3⟩ := abs_plain hUt htp hr2 vr vq hs3
        have h1 : R ≤ rone + d := hi _ (by rw [vr1 d hd1]; exact hd3)
        have h2 : val double R ≤ U + d * t := by
          have := val_le (f := double) h1
          rw [vr1 d hd1, Nat.add_mul, ← hUt] at this; exact this
        -- the ratio is at least 3/4 of what was told of it
        have h3 : 3 * (val double r * val double g) ≤ 4 * (val double l * U) := by
          obtain ⟨p, rfl⟩ : ∃ p, r = p + 1 := ⟨r - 1, by
            have : r ≠ 0 := by intro h; rw [h, val_zero] at hr2; omega
            omega⟩
          have h4 := Rr.2 p rfl
          have h5 : val double (p + 1) ≤ 2 * val double p := by
            refine val_double ?_
            rcases Nat.eq_zero_or_pos p with h | h
            · subst h
              have : val double (0 + 1) = 1 := val_one double
              omega
            · exact h
          have h6 : (val double p + val double (p + 1)) * val double g ≤ 2 * (val double l * U) := by
            rcases h4 with h4 | ⟨h4, _⟩
            · exact Nat.le_of_lt h4
            · exact Nat.le_of_eq h4
          have h7 : 3 * val double (p + 1) * val double g ≤ 2 * (val double p + val double (p + 1)) * val double g := Nat.mul_le_mul_right _ (by omega)
          rw [Nat.mul_assoc, Nat.mul_assoc] at h7
          omega
        have h8 : val double R * val double g ≤ (U + d * t) * val double g := Nat.mul_le_mul_right _ h2
        have h9 : 4 * (d * t * val double g) ≤ 3 * (val double r * val double g) := by
          have h10 := Nat.mul_le_mul_right (val double g) hd2
          have e1 : 4 * (d * t) * val double g = 4 * (d * t * val double g) := Nat.mul_assoc _ _ _
          have e2 : 3 * val double r * val double g = 3 * (val double r * val double g) := Nat.mul_assoc _ _ _
          omega
        rw [Nat.add_mul] at h8 ⊢
        have e : val double g * U = U * val double g := Nat.mul_comm _ _
        omega
    exact Ra.mono hUp Nat.one_pos (by rw [Nat.mul_one, Nat.mul_comm]; exact main) Rm
end Fl
namespace Fl
open Ieee Go
theorem fle_rungs {x y : Nat} (hx : x ≤ double.infRung) (hy : y ≤ double.infRung) : fle .f64 x y = decide (x ≤ y) := by
  have nx : isNaN double x = false := by unfold isNaN; rw [(sgn_rung' hx).2]; exact decide_eq_false (by omega)
  have ny : isNaN double y = false := by unfold isNaN; rw [(sgn_rung' hy).2]; exact decide_eq_false (by omega)
  have kx : key double x = (x : Int) := by unfold key; rw [(sgn_rung' hx).1, (sgn_rung' hx).2]; simp
  have ky : key double y = (y : Int) := by unfold key; rw [(sgn_rung' hy).1, (sgn_rung' hy).2]; simp
  have h := fle_def .f64 x y
  have e : FloatKind.f64.format = double := rfl
  rw [e, nx, ny, kx, ky] at h
  rw [h, Bool.eq_iff_iff]; simp
theorem flt_rungs {x y : Nat} (hx : x ≤ double.infRung) (hy : y ≤ double.infRung) : flt .f64 x y = decide (x < y) := by
  have nx : isNaN double x = false := by unfold isNaN; rw [(sgn_rung' hx).2]; exact decide_eq_false (by omega)
  have ny : isNaN double y = false := by unfold isNaN; rw [(sgn_rung' hy).2]; exact decide_eq_false (by omega)
  have kx : key double x = (x : Int) := by unfold key; rw [(sgn_rung' hx).1, (sgn_rung' hx).2]; simp
  have ky : key double y = (y : Int) := by unfold key; rw [(sgn_rung' hy).1, (sgn_rung' hy).2]; simp
  have h := flt_def .f64 x y
  have e : FloatKind.f64.format = double := rfl
  rw [e, nx, ny, kx, ky] at h
  rw [h, Bool.eq_iff_iff]; simp
theorem abs_neg {a : C} (ha : ltC a) : pAbs (pNeg a) = pAbs a := by
  unfold pAbs pNeg
  simp only [fabs_fneg ha.1, fabs_fneg ha.2, isInf_fneg ha.1, isInf_fneg ha.2, isNaN_fneg ha.1, isNaN_fneg ha.2]
theorem size1_neg {a : C} (ha : ltC a) : pSize1 (pNeg a) = pSize1 a := by
  unfold pSize1 pNeg; simp only [fabs_fneg ha.1, fabs_fneg ha.2]
theorem size1_conj {a : C} (ha : ltC a) : pSize1 (pConj a) = pSize1 a := by
  unfold pSize1 pConj; simp only [fabs_fneg ha.2]
theorem size1_swap (x y : Nat) : pSize1 (y, x) = pSize1 (x, y) := fadd_comm _ _
theorem fabs_fin {x : Nat} (hi : isInf double x = false) (hn : isNaN double x = false) : fabs x = rung double x ∧ rung double x < double.infRung := by
  unfold fabs; rw [hn]
  refine ⟨by simp, ?_⟩
  unfold isInf at hi; unfold isNaN at hn
  simp at hi hn; omega
theorem abs_swap (x y : Nat) : pAbs (y, x) = pAbs (x, y) := by
  unfold pAbs
  dsimp only
  rw [Bool.or_comm (isInf double y), Bool.or_comm (isNaN double y)]
  by_cases hi : (isInf double x || isInf double y) = true
  · rw [if_pos hi, if_pos hi]
  · rw [if_neg hi, if_neg hi]
    by_cases hn : (isNaN double x || isNaN double y) = true
    · rw [if_pos hn, if_pos hn]
    · rw [if_neg hn, if_neg hn]
      simp only [Bool.or_eq_true, not_or, Bool.not_eq_true] at hi hn
      have hx := fabs_fin hi.1 hn.1
      have hy := fabs_fin hi.2 hn.2
      rw [hx.1, hy.1]
      have f1 := flt_rungs (x := rung double x) (y := rung double y) (Nat.le_of_lt hx.2) (Nat.le_of_lt hy.2)
      have f2 := flt_rungs (x := rung double y) (y := rung double x) (Nat.le_of_lt hy.2) (Nat.le_of_lt hx.2)
      rw [f1, f2]
      by_cases h0 : rung double x = 0 ∧ rung double y = 0
      · rw [if_pos h0, if_pos ⟨h0.2, h0.1⟩]
      · rw [if_neg h0, if_neg (fun h => h0 ⟨h.2, h.1⟩)]
        rcases Nat.lt_trichotomy (rung double x) (rung double y) with h | h | h
        · rw [if_neg (by simp; omega), if_pos (by simp; omega)]
        · rw [h]
        · rw [if_pos (by simp; omega), if_neg (by simp; omega)]
/-- A word that is not below nought. -/
def nonneg (x : Nat) : Prop := flt .f64 x 0 = false
theorem nonneg_of_nan {x : Nat} (h : isNaN double x = true) : nonneg x := by
  unfold nonneg; rw [flt_def]
  have h' : isNaN FloatKind.f64.format x = true := h
  rw [h']; rfl
theorem nonneg_of_sgn {x : Nat} (h : sgn double x = false) : nonneg x := by
  unfold nonneg; rw [flt_def]
  have h2 : key FloatKind.f64.format x = (rung double x : Int) := by
    show key double x = _
    unfold key; rw [h]; simp
  have h3 : key FloatKind.f64.format 0 = 0 := by decide
  rw [h2, h3]
  simp
theorem nonneg_fabs (x : Nat) : nonneg (fabs x) := by
  unfold fabs
  split
  · exact nonneg_of_nan (isNaN_qn .f64)
  · refine nonneg_of_sgn ?_
    unfold sgn
    have := rung_lt double x
    rw [Nat.div_eq_of_lt this]; rfl
theorem nonneg_sqrt (x : Nat) : nonneg (fsqrt x) := by
  rcases kinds double x with h | h | h
  · by_cases h0 : rung double x = 0
    · have hr := read_zero h0
      have e : fsqrt x = double.write (.number (sgn double x) 0 double.leastPlace) := by
        unfold fsqrt
        show (((double.read x).root _).map double.write).getD _ = _
        rw [hr]; simp [Datum.root]
      rw [e]
      unfold nonneg; rw [flt_def]
      have hz := write_zero (sgn double x) double.leastPlace
      have hk : key FloatKind.f64.format (double.write (.number (sgn double x) 0 double.leastPlace)) = 0 := by
        show key double _ = 0
        unfold key; rw [hz]; split <;> rfl
      have h3 : key FloatKind.f64.format 0 = 0 := by decide
      rw [hk, h3]; simp
    · cases hs : sgn double x
      · obtain ⟨r, h1, _⟩ := sqrt_fin h hs h0
        rw [h1]
        refine nonneg_of_sgn (sgn_word false ?_)
        have := infRung_lt double; omega
      · obtain ⟨m, e, hr, _, hv⟩ := read_fin h
        have hm : m ≠ 0 := by
          intro hm
          have h1 := le_val double (rung double x)
          rw [hm, Nat.zero_mul] at hv; omega
        have e : fsqrt x = qn .f64 := by
          unfold fsqrt
          show (((double.read x).root _).map double.write).getD _ = _
          rw [hr, hs]; simp [Datum.root, hm]
        rw [e]; exact nonneg_of_nan (isNaN_qn .f64)
  · have hr := read_inf ok_double h
    cases hs : sgn double x
    · have e : fsqrt x = double.write (.infinity false) := by
        unfold fsqrt
        show (((double.read x).root _).map double.write).getD _ = _
        rw [hr, hs]; simp [Datum.root]
      rw [e]; exact nonneg_of_sgn (by decide)
    · have e : fsqrt x = qn .f64 := by
        unfold fsqrt
        show (((double.read x).root _).map double.write).getD _ = _
        rw [hr, hs]; simp [Datum.root]
      rw [e]; exact nonneg_of_nan (isNaN_qn .f64)
  · have hr := read_nan ok_double h
    have e : fsqrt x = qn .f64 := by
      unfold fsqrt
      show (((double.read x).root _).map double.write).getD _ = _
      rw [hr]; simp [Datum.root]
    rw [e]; exact nonneg_of_nan (isNaN_qn .f64)
theorem sqrt_nonneg (a : C) : nonneg (pSqrt a).1 := by
  unfold pSqrt
  split
  · exact nonneg_of_nan (isNaN_qn .f64)
  · split
    · exact nonneg_of_sgn (show sgn double 0 = false by decide)
    · split
      · exact nonneg_sqrt _
      · exact nonneg_fabs _
/-- Between the greater part and the sum of both. -/
theorem abs_between {x y : Nat} (hx : isFin double x = true) (hy : isFin double y = true) (g : Nat) (hg : g = max (rung double x) (rung double y)) :
    fle .f64 g (pAbs (x, y)) = true ∧ fle .f64 (pAbs (x, y)) (pSize1 (x, y)) = true := by
  have fx : rung double x < double.infRung := of_decide_eq_true (p := rung double x < double.infRung) hx
  have fy : rung double y < double.infRung := of_decide_eq_true (p := rung double y < double.infRung) hy
  have ix : isInf double x = false := decide_eq_false (by omega)
  have iy : isInf double y = false := decide_eq_false (by omega)
  have nx : isNaN double x = false := decide_eq_false (by omega)
  have ny : isNaN double y = false := decide_eq_false (by omega)
  have hfx := (fabs_fin ix nx).1
  have hfy := (fabs_fin iy ny).1
  have key : ∀ g l, g < double.infRung → l ≤ g → g ≠ 0 → fle .f64 g (absOf g l) = true ∧ fle .f64 (absOf g l) (fadd g l) = true := by
    intro g l h1 h2 h3
    obtain ⟨a, s, e1, e2, h4, h5⟩ := abs_bounds h1 h2 h3
    rw [e1, e2, fle_rungs (Nat.le_of_lt h1) (Nat.min_le_right _ _), fle_rungs (Nat.min_le_right _ _) (Nat.min_le_right _ _)]
    simp only [decide_eq_true_eq]
    omega
  unfold pAbs pSize1
  dsimp only
  rw [ix, iy, nx, ny, hfx, hfy]
  simp only [Bool.or_self, Bool.false_eq_true, if_false]
  have f1 := flt_rungs (x := rung double x) (y := rung double y) (Nat.le_of_lt fx) (Nat.le_of_lt fy)
  rw [f1]
  by_cases h0 : rung double x = 0 ∧ rung double y = 0
  · rw [if_pos h0, hg, h0.1, h0.2]
    have e : fadd 0 0 = 0 := by decide +kernel
    rw [e]
    exact ⟨by decide, by decide⟩
  · rw [if_neg h0]
    by_cases h : rung double x < rung double y
    · rw [if_pos (by simpa using h)]
      have e : g = rung double y := by omega
      have k := key (rung double y) (rung double x) fy (by omega) (by omega)
      rw [e, fadd_comm (rung double x)]; exact k
    · rw [if_neg (by simpa using h)]
      have e : g = rung double x := by omega
      have k := key (rung double x) (rung double y) fx (by omega) (by omega)
      rw [e]; exact k
end Fl
namespace Fl
open Ieee Go
/-- A finite word, its size by its rung. -/
abbrev sv (x : Nat) : Int := sval double x
theorem abs_sval (x : Nat) : (sval double x).natAbs = val double (rung double x) := by unfold sval; split <;> omega
theorem sval_word (s : Bool) {r : Nat} (h : r ≤ double.infRung) : sval double (double.word s r) = if s then -(val double r : Int) else (val double r : Int) := by
  have hl := infRung_lt double
  unfold sval; rw [sgn_word s (by omega), rung_word s (by omega)]
theorem fin_word (s : Bool) {r : Nat} (h : r < double.infRung) : fin double (double.word s r) := by
  have hl := infRung_lt double
  unfold fin; rw [rung_word s (by omega)]; exact h
theorem zero_rung {x : Nat} : sval double x = 0 ↔ rung double x = 0 := by
  constructor
  · intro h
    have h1 : val double (rung double x) = 0 := by rw [← abs_sval, h]; rfl
    exact val_inj (f := double) (h1.trans (val_zero double).symm)
  · intro h; unfold sval; rw [h, val_zero]; simp
theorem sgn_of_sval {x : Nat} (h : sval double x ≠ 0) : sgn double x = decide (sval double x < 0) := by
  have h1 : rung double x ≠ 0 := fun e => h (zero_rung.2 e)
  have h2 := le_val double (rung double x)
  unfold sval
  cases sgn double x
  · simp
  · simp; omega
/-! ### The operations, told by the exact numbers -/
theorem add_sval {x y : Nat} (hx : fin double x) (hy : fin double y) :
    ∃ r s, fadd x y = double.word s (min r double.infRung) ∧ Rne double (sval double x + sval double y).natAbs 1 r ∧ (sval double x + sval double y ≠ 0 → s = decide (sval double x + sval double y < 0)) := by
  obtain ⟨b, h1, h2⟩ := add_fin ok_double hx hy
  have hb : fadd x y = b := by
    unfold fadd fop
    show (double.add x y).getD _ = b
    rw [h1]; rfl
  obtain ⟨r, h3, h4⟩ := h2
  exact ⟨r, _, hb.trans h4, h3, fun h => if_neg h⟩
theorem mul_sval {x y : Nat} (hx : fin double x) (hy : fin double y) :
    ∃ r, fmul x y = double.word (sgn double x ^^ sgn double y) (min r double.infRung) ∧ Rne double ((sval double x).natAbs * (sval double y).natAbs) (one_ double) r := by
  obtain ⟨b, h1, h2⟩ := mul_fin ok_double hx hy
  have hb : fmul x y = b := by
    unfold fmul fop
    show (double.mul x y).getD _ = b
    rw [h1]; rfl
  obtain ⟨r, h3, h4⟩ := h2
  rw [abs_sval, abs_sval]
  exact ⟨r, hb.trans h4, h3⟩
theorem div_sval {x y : Nat} (hx : fin double x) (hy : fin double y) (h0 : sval double y ≠ 0) :
    ∃ r, fdiv x y = double.word (sgn double x ^^ sgn double y) (min r double.infRung) ∧ Rne double ((sval double x).natAbs * one_ double) (sval double y).natAbs r := by
  obtain ⟨b, h1, h2⟩ := div_fin ok_double hx hy (fun e => h0 (zero_rung.2 e))
  have hb : fdiv x y = b := by
    unfold fdiv fop
    show (double.div x y).getD _ = b
    rw [h1]; rfl
  obtain ⟨r, h3, h4⟩ := h2
  rw [abs_sval, abs_sval]
  exact ⟨r, hb.trans h4, h3⟩
/-! ### Powers of two among the rungs -/
theorem val_inf_ex : ∃ M, M = 2098 ∧ val double double.infRung = 2 ^ M := ⟨2098, rfl, val_inf_double⟩
theorem pw (k : Nat) (h : k ≤ 2097) : ∃ s, val double s = 2 ^ k ∧ s < double.infRung := by
  obtain ⟨s, hs⟩ := repr double k 1 (by rw [binade64]; omega)
  rw [Nat.one_mul] at hs
  refine ⟨s, hs, (val_lt_iff (f := double)).1 ?_⟩
  obtain ⟨M, hM, e⟩ := val_inf_ex
  rw [hs, e]
  exact Nat.pow_lt_pow_right (by omega) (by omega)
theorem one_pow : ∃ K, K = 1074 ∧ one_ double = 2 ^ K := ⟨1074, rfl, by decide +kernel⟩
theorem binade_of_lo {r a : Nat} (ha : 54 ≤ a) (h : 2 ^ a ≤ val double r) : double.binade < r := by
  refine (val_lt_iff (f := double)).1 (Nat.lt_of_lt_of_le ?_ h)
  have e : val double double.binade = 2 ^ 52 := by decide +kernel
  rw [e]; exact Nat.pow_lt_pow_right (by omega) (by omega)
/-- A size of so many digits is a multiple of what its last digit stands for. -/
theorem dvd_of_lo {r a : Nat} (ha : 52 ≤ a) (h : 2 ^ a ≤ val double r) : 2 ^ (a - 52) ∣ val double r := by
  obtain ⟨c, q, hv, hc, _⟩ := val_form double r
  rw [binade64] at hc
  have hq : a - 52 ≤ q := by
    refine Nat.le_of_not_lt fun hlt => ?_
    have h1 : val double r < 2 ^ 53 * 2 ^ q := by
      rw [hv]; exact Nat.mul_lt_mul_of_pos_right (by omega) (Nat.two_pow_pos _)
    rw [← Nat.pow_add] at h1
    have h2 : 2 ^ (53 + q) ≤ 2 ^ a := Nat.pow_le_pow_right (by omega) (by omega)
    omega
  rw [hv]
  exact Nat.dvd_trans (Nat.pow_dvd_pow 2 hq) (Nat.dvd_mul_left _ _)
/-! ### Bounds -/
/-- Finite; nought, or of a size from 2^lo (in units of the least) to 2^hi. -/
def Bd (x lo hi : Nat) : Prop := fin double x ∧ (sval double x = 0 ∨ 2 ^ lo ≤ (sval double x).natAbs) ∧ (sval double x).natAbs ≤ 2 ^ hi
theorem Bd.mono {x a b c d : Nat} (h : Bd x a b) (h1 : c ≤ a) (h2 : b ≤ d) : Bd x c d :=
  ⟨h.1, h.2.1.imp id (Nat.le_trans (Nat.pow_le_pow_right (by omega) h1)), Nat.le_trans h.2.2 (Nat.pow_le_pow_right (by omega) h2)⟩
theorem rne_hi {N D r k : Nat} (hD : 0 < D) (h : Rne double N D r) (hk : k ≤ 2097) (hN : N ≤ 2 ^ k * D) : r < double.infRung ∧ val double r ≤ 2 ^ k := by
  obtain ⟨s, hs, hi⟩ := pw k hk
  have h1 : r ≤ s := rne_le hD h (by rw [hs]; exact hN)
  exact ⟨by omega, by rw [← hs]; exact val_le h1⟩
theorem rne_lo {N D r k : Nat} (hD : 0 < D) (h : Rne double N D r) (hk : k ≤ 2097) (hN : 2 ^ k * D ≤ N) : 2 ^ k ≤ val double r := by
  obtain ⟨s, hs, _⟩ := pw k hk
  have h1 : s ≤ r := le_rne hD h (by rw [hs]; exact hN)
  rw [← hs]; exact val_le h1
theorem rne_zero {D r : Nat} (hD : 0 < D) (h : Rne double 0 D r) : r = 0 := h.unique hD (Rne.zero double D hD)
theorem natAbs_word {s : Bool} {r : Nat} (h : r < double.infRung) : (sval double (double.word s (min r double.infRung))).natAbs = val double r := by
  have e : min r double.infRung = r := by omega
  rw [e, sval_word s (Nat.le_of_lt h)]
  cases s <;> simp
theorem Bd.of {x r lo hi : Nat} {s : Bool} (hx : x = double.word s (min r double.infRung)) (hr : r < double.infRung) (hl : r = 0 ∨ 2 ^ lo ≤ val double r) (hh : val double r ≤ 2 ^ hi) : Bd x lo hi := by
  have e : min r double.infRung = r := by omega
  have h1 := natAbs_word (s := s) hr
  rw [← hx] at h1
  refine ⟨by rw [hx, e]; exact fin_word s hr, ?_, by rw [h1]; exact hh⟩
  rcases hl with h | h
  · left
    have : (sval double x).natAbs = 0 := by rw [h1, h, val_zero]
    omega
  · right; rw [h1]; exact h
theorem Bd.mul {x y a b c d l h : Nat} (hx : Bd x a b) (hy : Bd y c d) (hl : l + 1074 = a + c) (hh : h + 1074 = b + d) (hh' : h ≤ 2097) (hlh : l ≤ 2097) : Bd (fmul x y) l h := by
  obtain ⟨r, h1, h2⟩ := mul_sval hx.1 hy.1
  have hU := one_pos double
  obtain ⟨K, hK, eU⟩ := one_pow
  rw [← hK] at hl hh
  have hhi := rne_hi hU h2 hh' (by
    rw [eU, ← Nat.pow_add, hh, Nat.pow_add]
    exact Nat.mul_le_mul hx.2.2 hy.2.2)
  refine Bd.of h1 hhi.1 ?_ hhi.2
  rcases hx.2.1 with h0 | h0
  · left; rw [h0] at h2; simp at h2; exact rne_zero hU h2
  · rcases hy.2.1 with h0' | h0'
    · left; rw [h0'] at h2; simp at h2; exact rne_zero hU h2
    · right
      refine rne_lo hU h2 hlh ?_
      rw [eU, ← Nat.pow_add, hl, Nat.pow_add]
      exact Nat.mul_le_mul h0 h0'
theorem Bd.div {x y a b c d l h : Nat} (hx : Bd x a b) (hy : Bd y c d) (h0 : sval double y ≠ 0) (hl : l + d = a + 1074) (hh : h + c = b + 1074) (hh' : h ≤ 2097) (hlh : l ≤ 2097) : Bd (fdiv x y) l h := by
  obtain ⟨r, h1, h2⟩ := div_sval hx.1 hy.1 h0
  have hD : 0 < (sval double y).natAbs := by omega
  have hy1 : 2 ^ c ≤ (sval double y).natAbs := hy.2.1.resolve_left h0
  obtain ⟨K, hK, eU⟩ := one_pow
  rw [← hK] at hl hh
  have hhi := rne_hi hD h2 hh' (by
    rw [eU]
    have e1 : (sval double x).natAbs * 2 ^ K ≤ 2 ^ b * 2 ^ K := Nat.mul_le_mul_right _ hx.2.2
    have e2 : 2 ^ h * 2 ^ c ≤ 2 ^ h * (sval double y).natAbs := Nat.mul_le_mul_left _ hy1
    rw [← Nat.pow_add] at e1 e2
    rw [hh] at e2
    exact Nat.le_trans e1 e2)
  refine Bd.of h1 hhi.1 ?_ hhi.2
  rcases hx.2.1 with hz | hz
  · left; rw [hz] at h2; simp at h2; exact rne_zero hD h2
  · right
    refine rne_lo hD h2 hlh ?_
    rw [eU]
    have e1 : 2 ^ a * 2 ^ K ≤ (sval double x).natAbs * 2 ^ K := Nat.mul_le_mul_right _ hz
    have e2 : 2 ^ l * (sval double y).natAbs ≤ 2 ^ l * 2 ^ d := Nat.mul_le_mul_left _ hy.2.2
    rw [← Nat.pow_add] at e1 e2
    rw [hl] at e2
    exact Nat.le_trans e2 e1
theorem Bd.dvd {x a b m : Nat} (hx : Bd x a b) (hm : m + 52 ≤ a) : ((2 ^ m : Nat) : Int) ∣ sval double x := by
  rcases hx.2.1 with h | h
  · rw [h]; exact Int.dvd_zero _
  · rw [abs_sval] at h
    have h1 := dvd_of_lo (r := rung double x) (a := a) (by omega) h
    have h2 : 2 ^ m ∣ val double (rung double x) := Nat.dvd_trans (Nat.pow_dvd_pow 2 (by omega)) h1
    rw [← abs_sval] at h2
    exact Int.ofNat_dvd_left.2 h2
theorem Bd.add {x y a b c d l h : Nat} (hx : Bd x a b) (hy : Bd y c d) (hl1 : l + 52 ≤ a) (hl2 : l + 52 ≤ c) (hh1 : b + 1 ≤ h) (hh2 : d + 1 ≤ h) (hh' : h ≤ 2097) (hlh : l ≤ 2097) : Bd (fadd x y) l h := by
  obtain ⟨r, s, h1, h2, _⟩ := add_sval hx.1 hy.1
  have hp : ∀ k, k + 1 ≤ h → 2 ^ k * 2 ≤ 2 ^ h := fun k hk => by rw [← Nat.pow_succ]; exact Nat.pow_le_pow_right (by omega) hk
  have e1 := hp b hh1
  have e2 := hp d hh2
  have b1 := hx.2.2
  have b2 := hy.2.2
  have hhi := rne_hi Nat.one_pos h2 hh' (by
    rw [Nat.mul_one]
    have := Int.natAbs_add_le (sval double x) (sval double y)
    omega)
  refine Bd.of h1 hhi.1 ?_ hhi.2
  by_cases hz : sval double x + sval double y = 0
  · left; rw [hz] at h2; exact rne_zero Nat.one_pos h2
  · right
    refine rne_lo Nat.one_pos h2 hlh ?_
    rw [Nat.mul_one]
    have hd : ((2 ^ l : Nat) : Int) ∣ sval double x + sval double y := Int.dvd_add (hx.dvd hl1) (hy.dvd hl2)
    have := Int.ofNat_dvd_left.1 hd
    exact Nat.le_of_dvd (by omega) this
theorem Bd.neg {x a b : Nat} (hl : x < 18446744073709551616) (hx : Bd x a b) : Bd (fneg x) a b := by
  have hn : isNaN double x = false := by have := hx.1; unfold fin at this; unfold isNaN; simp; omega
  have e : sval double (fneg x) = -sval double x := by rw [fneg_of_not hn]; exact sval_flip (f := double) hl
  refine ⟨by have := hx.1; unfold fin at *; rw [rung_fneg hl hn]; exact this, ?_, ?_⟩
  · rw [e]; rcases hx.2.1 with h | h
    · left; rw [h]; rfl
    · right; rw [Int.natAbs_neg]; exact h
  · rw [e, Int.natAbs_neg]; exact hx.2.2
theorem sval_fneg {x : Nat} (hl : x < 18446744073709551616) (hx : fin double x) : sval double (fneg x) = -sval double x := by
  have hn : isNaN double x = false := by unfold fin at hx; unfold isNaN; simp; omega
  rw [fneg_of_not hn]; exact sval_flip (f := double) hl
/-! ### Equal numbers -/
theorem feq_of_sval {x y : Nat} (hx : fin double x) (hy : fin double y) (h : sval double x = sval double y) : feq .f64 x y = true := by
  have nx : isNaN double x = false := by unfold fin at hx; unfold isNaN; simp; omega
  have ny : isNaN double y = false := by unfold fin at hy; unfold isNaN; simp; omega
  have h1 := feq_def .f64 x y
  have e : FloatKind.f64.format = double := rfl
  rw [e, nx, ny] at h1
  rw [h1]
  simp only [Bool.not_false, Bool.true_and, decide_eq_true_eq]
  have hr : rung double x = rung double y := val_inj (f := double) (by rw [← abs_sval, ← abs_sval, h])
  by_cases h0 : sval double x = 0
  · have a := zero_rung.1 h0
    have b := zero_rung.1 (h ▸ h0)
    unfold key; rw [a, b]; simp
  · have a := sgn_of_sval h0
    have b := sgn_of_sval (x := y) (by rw [← h]; exact h0)
    unfold key; rw [a, b, h, hr]
/-! ### A power of two -/
theorem val_shift {r : Nat} (i : Nat) (h : double.binade ≤ r) : val double (r + i * double.binade) = val double r * 2 ^ i := by
  rcases rung_cases double r with h1 | ⟨q, m, hm, rfl⟩
  · omega
  · have e : double.binade * (q + 1) + m + i * double.binade = double.binade * (q + i + 1) + m := by
      rw [Nat.mul_comm i, Nat.add_right_comm, ← Nat.mul_add]; congr 2; omega
    rw [e, val_mul_add hm, val_mul_add hm, Nat.pow_add, Nat.mul_assoc]
theorem rne_shift {N D r : Nat} (i : Nat) (h : double.binade < r) : Rne double (N * 2 ^ i) D (r + i * double.binade) ↔ Rne double N D r := by
  have hp : 0 < 2 ^ i := Nat.two_pow_pos _
  have v0 := val_shift (r := r) i (Nat.le_of_lt h)
  have v1 : val double (r + i * double.binade + 1) = val double (r + 1) * 2 ^ i := by
    rw [Nat.add_right_comm]; exact val_shift i (by omega)
  have hpar : (r + i * double.binade) % 2 = r % 2 := by
    have : i * double.binade = 2 * (i * 2251799813685248) := by rw [binade64]; omega
    omega
  obtain ⟨p, rfl⟩ : ∃ p, r = p + 1 := ⟨r - 1, by omega⟩
  have vp : val double (p + i * double.binade) = val double p * 2 ^ i := val_shift i (by omega)
  unfold Rne
  rw [v0, v1, hpar, ← Nat.add_mul]
  have e1 : 2 * (N * 2 ^ i) = 2 * N * 2 ^ i := (Nat.mul_assoc _ _ _).symm
  have e2 : ∀ S, S * 2 ^ i * D = S * D * 2 ^ i := fun S => Nat.mul_right_comm _ _ _
  rw [e1, e2]
  have l1 : ∀ a b : Nat, a * 2 ^ i < b * 2 ^ i ↔ a < b := fun a b => Nat.mul_lt_mul_right hp
  have l2 : ∀ a b : Nat, a * 2 ^ i = b * 2 ^ i ↔ a = b := fun a b => Nat.mul_left_inj (by omega)
  rw [l1, l2]
  constructor
  · rintro ⟨h1, h2⟩
    refine ⟨h1, fun q hq => ?_⟩
    have hq' : q = p := by omega
    subst hq'
    have h3 := h2 (q + i * double.binade) (by omega)
    rw [vp, ← Nat.add_mul, e2, l1, l2] at h3
    exact h3
  · rintro ⟨h1, h2⟩
    refine ⟨h1, fun q hq => ?_⟩
    have hq' : q = p + i * double.binade := by omega
    subst hq'
    rw [vp, ← Nat.add_mul, e2, l1, l2]
    exact h2 p rfl
/-- y is x times 2^i. -/
def Sc (i x y : Nat) : Prop := fin double x ∧ fin double y ∧ sval double y = sval double x * (2 ^ i : Nat)
theorem Sc.abs {i x y : Nat} (h : Sc i x y) : (sval double y).natAbs = (sval double x).natAbs * 2 ^ i := by rw [h.2.2, Int.natAbs_mul]; rfl
theorem Sc.zero {i x y : Nat} (h : Sc i x y) : sval double x = 0 ↔ sval double y = 0 := by
  have hp : 0 < 2 ^ i := Nat.two_pow_pos _
  rw [h.2.2]
  constructor
  · intro e; rw [e]; simp
  · intro e; rcases Int.mul_eq_zero.1 e with h1 | h1
    · exact h1
    · omega
theorem Sc.sgn {i x y : Nat} (h : Sc i x y) (h0 : sval double x ≠ 0) : Fl.sgn double y = Fl.sgn double x := by
  have hp : (0 : Int) < ((2 ^ i : Nat) : Int) := by have := Nat.two_pow_pos i; omega
  rw [sgn_of_sval h0, sgn_of_sval (fun e => h0 (h.zero.2 e)), h.2.2]
  rw [decide_eq_decide]
  constructor
  · intro h1
    rcases Int.lt_or_le (sval double x) 0 with h2 | h2
    · exact h2
    · have := Int.mul_nonneg h2 (Int.le_of_lt hp); omega
  · intro h1
    exact Int.mul_neg_of_neg_of_pos h1 hp
/-- Both results: rounded alike. -/
theorem Sc.of {i r r' x y : Nat} {s s' : Bool} (hx : x = double.word s (min r double.infRung)) (hy : y = double.word s' (min r' double.infRung)) (hr : r < double.infRung) (hr' : r' < double.infRung)
    (h : (r = 0 ∧ r' = 0) ∨ (double.binade < r ∧ r' = r + i * double.binade ∧ s' = s)) : Sc i x y := by
  have e : min r double.infRung = r := by omega
  have e' : min r' double.infRung = r' := by omega
  rw [e] at hx; rw [e'] at hy
  refine ⟨by rw [hx]; exact fin_word s hr, by rw [hy]; exact fin_word s' hr', ?_⟩
  rw [hx, hy, sval_word s (Nat.le_of_lt hr), sval_word s' (Nat.le_of_lt hr')]
  rcases h with ⟨rfl, rfl⟩ | ⟨h1, rfl, rfl⟩
  · rw [val_zero]; cases s <;> cases s' <;> simp
  · rw [val_shift i (Nat.le_of_lt h1)]
    cases s' <;> simp [Int.neg_mul]
theorem Sc.bd {i x y a b : Nat} (h : Sc i x y) (hx : Bd x a b) : Bd y a (b + i) := by
  have hp : 1 ≤ 2 ^ i := Nat.one_le_two_pow
  refine ⟨h.2.1, ?_, ?_⟩
  · rcases hx.2.1 with h0 | h0
    · exact .inl (h.zero.1 h0)
    · right; rw [h.abs]; exact Nat.le_trans h0 (Nat.le_mul_of_pos_right _ hp)
  · rw [h.abs, Nat.pow_add]; exact Nat.mul_le_mul_right _ hx.2.2
theorem fin_of_eq {x r : Nat} {s : Bool} (hx : x = double.word s (min r double.infRung)) (hf : fin double x) : r < double.infRung := by
  have hl := infRung_lt double
  rw [hx] at hf; unfold fin at hf; rw [rung_word _ (by omega)] at hf; omega
theorem Sc.mul {i x y t a b c d : Nat} (h : Sc i x y) (bx : Bd x a b) (bt : Bd t c d) (hl : 1128 ≤ a + c) (hl2 : a + c ≤ 3171) (hb0 : 1074 ≤ b + d) (hh : b + i + d ≤ 3171) : Sc i (fmul x t) (fmul y t) := by
  obtain ⟨r, h1, h2⟩ := mul_sval h.1 bt.1
  obtain ⟨r', h1', h2'⟩ := mul_sval h.2.1 bt.1
  have hU := one_pos double
  have f1 : fin double (fmul x t) := (Bd.mul bx bt (l := a + c - 1074) (h := b + d - 1074) (by omega) (by omega) (by omega) (by omega)).1
  have f2 : fin double (fmul y t) := (Bd.mul (h.bd bx) bt (l := a + c - 1074) (h := b + i + d - 1074) (by omega) (by omega) (by omega) (by omega)).1
  refine Sc.of h1 h1' (fin_of_eq h1 f1) (fin_of_eq h1' f2) ?_
  rw [h.abs, Nat.mul_right_comm] at h2'
  rcases bx.2.1 with h0 | h0
  · left; rw [h0] at h2 h2'; simp at h2 h2'; exact ⟨rne_zero hU h2, rne_zero hU h2'⟩
  · rcases bt.2.1 with h0' | h0'
    · left; rw [h0'] at h2 h2'; simp at h2 h2'; exact ⟨rne_zero hU h2, rne_zero hU h2'⟩
    · right
      have hbig : double.binade < r := by
        refine binade_of_lo (a := a + c - 1074) (by omega) (rne_lo hU h2 (by omega) ?_)
        obtain ⟨K, hK, eU⟩ := one_pow
        have e : a + c - 1074 + K = a + c := by omega
        rw [eU, ← Nat.pow_add, e, Nat.pow_add]
        exact Nat.mul_le_mul h0 h0'
      have hx0 : sval double x ≠ 0 := by
        intro e; rw [e] at h0; have := Nat.two_pow_pos a; simp at h0
      exact ⟨hbig, h2'.unique hU ((rne_shift i hbig).2 h2), by rw [h.sgn hx0]⟩
theorem Sc.div {i x y t a b c d : Nat} (h : Sc i x y) (bx : Bd x a b) (bt : Bd t c d) (ht : sval double t ≠ 0) (hl : d + 54 ≤ a + 1074) (hl2 : a + 1074 ≤ 2097 + d) (hc : c ≤ b + 1074) (hh : b + i + 1074 ≤ 2097 + c) : Sc i (fdiv x t) (fdiv y t) := by
  obtain ⟨r, h1, h2⟩ := div_sval h.1 bt.1 ht
  obtain ⟨r', h1', h2'⟩ := div_sval h.2.1 bt.1 ht
  have hD : 0 < (sval double t).natAbs := by omega
  have f1 : fin double (fdiv x t) := (Bd.div bx bt ht (l := a + 1074 - d) (h := b + 1074 - c) (by omega) (by omega) (by omega) (by omega)).1
  have f2 : fin double (fdiv y t) := (Bd.div (h.bd bx) bt ht (l := a + 1074 - d) (h := b + i + 1074 - c) (by omega) (by omega) (by omega) (by omega)).1
  refine Sc.of h1 h1' (fin_of_eq h1 f1) (fin_of_eq h1' f2) ?_
  rw [h.abs, Nat.mul_right_comm] at h2'
  rcases bx.2.1 with h0 | h0
  · left; rw [h0] at h2 h2'; simp at h2 h2'; exact ⟨rne_zero hD h2, rne_zero hD h2'⟩
  · right
    have hbig : double.binade < r := by
      refine binade_of_lo (a := a + 1074 - d) (by omega) (rne_lo hD h2 (by omega) ?_)
      obtain ⟨K, hK, eU⟩ := one_pow
      rw [eU]
      have e1 : 2 ^ a * 2 ^ K ≤ (sval double x).natAbs * 2 ^ K := Nat.mul_le_mul_right _ h0
      have e2 : 2 ^ (a + 1074 - d) * (sval double t).natAbs ≤ 2 ^ (a + 1074 - d) * 2 ^ d := Nat.mul_le_mul_left _ bt.2.2
      have e : a + 1074 - d + d = a + K := by omega
      rw [← Nat.pow_add] at e1 e2
      rw [e] at e2
      exact Nat.le_trans e2 e1
    have hx0 : sval double x ≠ 0 := by
      intro e; rw [e] at h0; have := Nat.two_pow_pos a; simp at h0
    exact ⟨hbig, h2'.unique hD ((rne_shift i hbig).2 h2), by rw [h.sgn hx0]⟩
theorem Sc.add {i x y u v a b c d l k : Nat} (h : Sc i x y) (h' : Sc i u v) (bx : Bd x a b) (bu : Bd u c d) (hl1 : l + 52 ≤ a) (hl2 : l + 52 ≤ c) (hl : 54 ≤ l) (hl3 : l ≤ 2097) (hb : b ≤ k) (hd : d ≤ k) (hh : k + i + 1 ≤ 2097) : Sc i (fadd x u) (fadd y v) := by
  obtain ⟨r, s, h1, h2, hs⟩ := add_sval h.1 h'.1
  obtain ⟨r', s', h1', h2', hs'⟩ := add_sval h.2.1 h'.2.1
  have f1 : fin double (fadd x u) := (Bd.add bx bu (l := l) (h := k + 1) hl1 hl2 (by omega) (by omega) (by omega) hl3).1
  have f2 : fin double (fadd y v) := (Bd.add (h.bd bx) (h'.bd bu) (l := l) (h := k + i + 1) hl1 hl2 (by omega) (by omega) (by omega) hl3).1
  refine Sc.of h1 h1' (fin_of_eq h1 f1) (fin_of_eq h1' f2) ?_
  have e : sval double y + sval double v = (sval double x + sval double u) * (2 ^ i : Nat) := by rw [h.2.2, h'.2.2, Int.add_mul]
  have hp : (0 : Int) < ((2 ^ i : Nat) : Int) := by have := Nat.two_pow_pos i; omega
  by_cases hz : sval double x + sval double u = 0
  · left
    have hz' : sval double y + sval double v = 0 := by rw [e, hz]; simp
    rw [hz] at h2; rw [hz'] at h2'
    exact ⟨rne_zero Nat.one_pos h2, rne_zero Nat.one_pos h2'⟩
  · right
    have hdv : ((2 ^ l : Nat) : Int) ∣ sval double x + sval double u := Int.dvd_add (bx.dvd hl1) (bu.dvd hl2)
    have hlo := Nat.le_of_dvd (by omega) (Int.ofNat_dvd_left.1 hdv)
    have hbig : double.binade < r := binade_of_lo hl (rne_lo Nat.one_pos h2 hl3 (by rw [Nat.mul_one]; exact hlo))
    have e2 : (sval double y + sval double v).natAbs = (sval double x + sval double u).natAbs * 2 ^ i := by rw [e, Int.natAbs_mul]; rfl
    rw [e2] at h2'
    refine ⟨hbig, h2'.unique Nat.one_pos ((rne_shift i hbig).2 h2), ?_⟩
    have hz' : sval double y + sval double v ≠ 0 := by
      rw [e]; intro hm; rcases Int.mul_eq_zero.1 hm with h3 | h3
      · exact hz h3
      · omega
    rw [hs hz, hs' hz', e, decide_eq_decide]
    constructor
    · intro h3
      rcases Int.lt_or_le (sval double x + sval double u) 0 with h4 | h4
      · exact h4
      · have := Int.mul_nonneg h4 (Int.le_of_lt hp); omega
    · intro h3; exact Int.mul_neg_of_neg_of_pos h3 hp
theorem Sc.neg {i x y : Nat} (h : Sc i x y) (hx : x < 18446744073709551616) (hy : y < 18446744073709551616) : Sc i (fneg x) (fneg y) := by
  have nx : isNaN double x = false := by have := h.1; unfold fin at this; unfold isNaN; simp; omega
  have ny : isNaN double y = false := by have := h.2.1; unfold fin at this; unfold isNaN; simp; omega
  refine ⟨by have := h.1; unfold fin at *; rw [rung_fneg hx nx]; exact this, by have := h.2.1; unfold fin at *; rw [rung_fneg hy ny]; exact this, ?_⟩
  rw [sval_fneg hx h.1, sval_fneg hy h.2.1, h.2.2, Int.neg_mul]
end Fl
namespace Fl
open Ieee Go
/-- x is z times 2^k, in units of the least. -/
def Ex (x : Nat) (z : Int) (k : Nat) : Prop := x < 18446744073709551616 ∧ fin double x ∧ sval double x = z * (2 ^ k : Nat)
theorem ex_round {c k D r : Nat} (hD : 0 < D) (hc : c < 9007199254740992) (hk : k ≤ 2045) (h : Rne double (c * 2 ^ k * D) D r) : r < double.infRung ∧ val double r = c * 2 ^ k := by
  obtain ⟨s, hs⟩ := repr double k c (by rw [binade64]; omega)
  have e : r = s := h.eq_of_exact hD (by rw [hs])
  subst e
  refine ⟨(val_lt_iff (f := double)).1 ?_, hs⟩
  obtain ⟨M, hM, e⟩ := val_inf_ex
  rw [hs, e]
  have h1 : c * 2 ^ k < 2 ^ 53 * 2 ^ k := Nat.mul_lt_mul_of_pos_right (by omega) (Nat.two_pow_pos _)
  rw [← Nat.pow_add] at h1
  exact Nat.lt_of_lt_of_le h1 (Nat.pow_le_pow_right (by omega) (by omega))
theorem ex_of {x r k : Nat} {s : Bool} {z : Int} (hx : x = double.word s (min r double.infRung)) (hr : r < double.infRung) (hv : val double r = z.natAbs * 2 ^ k) (hs : z ≠ 0 → s = decide (z < 0)) : Ex x z k := by
  have hl := infRung_lt double
  have e : min r double.infRung = r := by omega
  rw [e] at hx
  refine ⟨by rw [hx]; exact word_lt (f := double) s (by omega), by rw [hx]; exact fin_word s hr, ?_⟩
  rw [hx, sval_word s (Nat.le_of_lt hr), hv]
  by_cases hz : z = 0
  · subst hz; cases s <;> simp
  · rw [hs hz]
    by_cases hn : z < 0
    · have e2 : (z.natAbs : Int) = -z := by omega
      rw [decide_eq_true hn, if_pos rfl, Int.natCast_mul, e2, Int.neg_mul, Int.neg_neg]
    · have e2 : (z.natAbs : Int) = z := by omega
      rw [decide_eq_false hn, if_neg (by simp), Int.natCast_mul, e2]
theorem two_pos (k : Nat) : (0 : Int) < ((2 ^ k : Nat) : Int) := by have := Nat.two_pow_pos k; omega
theorem mul_two_lt {z : Int} {k : Nat} : z * (2 ^ k : Nat) < 0 ↔ z < 0 := by
  have hp := two_pos k
  constructor
  · intro h
    rcases Int.lt_or_le z 0 with h1 | h1
    · exact h1
    · have := Int.mul_nonneg h1 (Int.le_of_lt hp); omega
  · intro h; exact Int.mul_neg_of_neg_of_pos h hp
theorem mul_two_eq {z : Int} {k : Nat} : z * (2 ^ k : Nat) = 0 ↔ z = 0 := by
  have hp := two_pos k
  constructor
  · intro h; rcases Int.mul_eq_zero.1 h with h1 | h1
    · exact h1
    · omega
  · intro h; rw [h]; simp
theorem Ex.add {x y k : Nat} {a b : Int} (hx : Ex x a k) (hy : Ex y b k) (hb : (a + b).natAbs < 9007199254740992) (hk : k ≤ 2045) : Ex (fadd x y) (a + b) k := by
  obtain ⟨r, s, h1, h2, h3⟩ := add_sval hx.2.1 hy.2.1
  have e : sval double x + sval double y = (a + b) * (2 ^ k : Nat) := by rw [hx.2.2, hy.2.2, Int.add_mul]
  rw [e] at h2 h3
  have e2 : ((a + b) * (2 ^ k : Nat)).natAbs = (a + b).natAbs * 2 ^ k * 1 := by rw [Int.natAbs_mul, Nat.mul_one]; rfl
  rw [e2] at h2
  have h4 := ex_round Nat.one_pos hb hk h2
  refine ex_of h1 h4.1 h4.2 (fun hz => ?_)
  rw [h3 (fun h => hz (mul_two_eq.1 h)), decide_eq_decide]
  exact mul_two_lt
theorem Ex.neg {x k : Nat} {a : Int} (hx : Ex x a k) : Ex (fneg x) (-a) k := by
  have nx : isNaN double x = false := by have := hx.2.1; unfold fin at this; unfold isNaN; simp; omega
  refine ⟨fneg_lt hx.1, by have := hx.2.1; unfold fin at *; rw [rung_fneg hx.1 nx]; exact this, ?_⟩
  rw [sval_fneg hx.1 hx.2.1, hx.2.2, Int.neg_mul]
theorem Ex.sub {x y k : Nat} {a b : Int} (hx : Ex x a k) (hy : Ex y b k) (hb : (a - b).natAbs < 9007199254740992) (hk : k ≤ 2045) : Ex (fsub x y) (a - b) k := by
  rw [fsub_eq x hy.1]
  have h := hx.add hy.neg (by rw [← Int.sub_eq_add_neg]; exact hb) hk
  rw [← Int.sub_eq_add_neg] at h; exact h
theorem sgn_of_ex {x k : Nat} {a : Int} (hx : Ex x a k) (h0 : a ≠ 0) : Fl.sgn double x = decide (a < 0) := by
  rw [sgn_of_sval (by rw [hx.2.2]; exact fun h => h0 (mul_two_eq.1 h)), hx.2.2, decide_eq_decide]
  exact mul_two_lt
theorem xor_lt {a b : Int} (ha : a ≠ 0) (hb : b ≠ 0) : (decide (a < 0) ^^ decide (b < 0)) = decide (a * b < 0) := by
  rcases Int.lt_or_le a 0 with h1 | h1 <;> rcases Int.lt_or_le b 0 with h2 | h2
  · have := Int.mul_pos_of_neg_of_neg h1 h2
    rw [decide_eq_true h1, decide_eq_true h2, decide_eq_false (by omega)]; rfl
  · have := Int.mul_neg_of_neg_of_pos h1 (show 0 < b by omega)
    rw [decide_eq_true h1, decide_eq_false (by omega), decide_eq_true this]; rfl
  · have := Int.mul_neg_of_pos_of_neg (show 0 < a by omega) h2
    rw [decide_eq_false (by omega), decide_eq_true h2, decide_eq_true this]; rfl
  · have := Int.mul_pos (show 0 < a by omega) (show 0 < b by omega)
    rw [decide_eq_false (by omega), decide_eq_false (by omega), decide_eq_false (by omega)]; rfl
theorem Ex.mul {x y k m n : Nat} {a b : Int} (hx : Ex x a k) (hy : Ex y b m) (hn : n + 1074 = k + m) (hb : (a * b).natAbs < 9007199254740992) (hk : n ≤ 2045) : Ex (fmul x y) (a * b) n := by
  obtain ⟨r, h1, h2⟩ := mul_sval hx.2.1 hy.2.1
  obtain ⟨K, hK, eU⟩ := one_pow
  rw [← hK] at hn
  have e : (sval double x).natAbs * (sval double y).natAbs = (a * b).natAbs * 2 ^ n * one_ double := by
    rw [hx.2.2, hy.2.2, Int.natAbs_mul, Int.natAbs_mul, Int.natAbs_mul, eU, Nat.mul_assoc _ (2 ^ n), ← Nat.pow_add, hn, Nat.pow_add]
    exact Nat.mul_mul_mul_comm _ _ _ _
  rw [e] at h2
  have h4 := ex_round (one_pos double) hb hk h2
  refine ex_of h1 h4.1 h4.2 (fun hz => ?_)
  have ha : a ≠ 0 := fun h => hz (by rw [h]; simp)
  have hb' : b ≠ 0 := fun h => hz (by rw [h]; simp)
  rw [sgn_of_ex hx ha, sgn_of_ex hy hb', xor_lt ha hb']
/-- A quotient by one, or by minus one. -/
theorem Ex.div {x y k : Nat} {a u : Int} (hx : Ex x a k) (hy : Ex y u 1074) (hu : u = 1 ∨ u = -1) (hb : a.natAbs < 9007199254740992) (hk : k ≤ 2045) : Ex (fdiv x y) (a * u) k := by
  obtain ⟨K, hK, eU⟩ := one_pow
  have hy' : Ex y u K := by rw [hK]; exact hy
  have hu0 : u ≠ 0 := by omega
  obtain ⟨r, h1, h2⟩ := div_sval hx.2.1 hy.2.1 (by rw [hy'.2.2]; exact fun h => hu0 (mul_two_eq.1 h))
  have e1 : (sval double y).natAbs = one_ double := by
    rw [hy'.2.2, Int.natAbs_mul, eU]
    have : u.natAbs = 1 := by omega
    rw [this, Nat.one_mul]; rfl
  have e : (sval double x).natAbs = (a * u).natAbs * 2 ^ k := by
    rw [hx.2.2, Int.natAbs_mul, Int.natAbs_mul]
    have : u.natAbs = 1 := by omega
    rw [this, Nat.mul_one]; rfl
  rw [e1, e] at h2
  have h4 := ex_round (one_pos double) (by rw [Int.natAbs_mul]; have : u.natAbs = 1 := by omega
                                           rw [this, Nat.mul_one]; exact hb) hk h2
  refine ex_of h1 h4.1 h4.2 (fun hz => ?_)
  have ha : a ≠ 0 := fun h => hz (by rw [h]; simp)
  rw [sgn_of_ex hx ha, sgn_of_ex hy' hu0, xor_lt ha hu0]
theorem Ex.feq {x y k : Nat} {a : Int} (hx : Ex x a k) (hy : Ex y a k) : feq .f64 x y = true := feq_of_sval hx.2.1 hy.2.1 (by rw [hx.2.2, hy.2.2])
theorem Ex.nan {x k : Nat} {a : Int} (hx : Ex x a k) : isNaN double x = false := by have := hx.2.1; unfold fin at this; unfold isNaN; simp; omega
theorem Ex.cn {x k : Nat} {a : Int} (hx : Ex x a k) : Fl.cn .f64 x = x := cn_of_not (k := .f64) hx.nan
theorem Ex.bd {x k n : Nat} {a : Int} (hx : Ex x a k) (hn : a.natAbs ≤ 2 ^ n) : Bd x k (k + n) := by
  have e : (sval double x).natAbs = a.natAbs * 2 ^ k := by rw [hx.2.2, Int.natAbs_mul]; rfl
  refine ⟨hx.2.1, ?_, ?_⟩
  · by_cases h : a = 0
    · left; rw [hx.2.2, h]; simp
    · right; rw [e]; exact Nat.le_mul_of_pos_left _ (by omega)
  · rw [e, Nat.pow_add, Nat.mul_comm (2 ^ k)]; exact Nat.mul_le_mul_right _ hn
theorem Ex.sc {x y k i : Nat} {a : Int} (hx : Ex x a k) (hy : Ex y a (k + i)) : Sc i x y := by
  refine ⟨hx.2.1, hy.2.1, ?_⟩
  rw [hx.2.2, hy.2.2, Nat.pow_add, Int.natCast_mul, Int.mul_assoc]
/-- The float of a whole number. -/
theorem ex_nearest {z : Int} (h : z.natAbs < 9007199254740992) : Ex (FloatKind.f64.nearest z) z 1074 := by
  obtain ⟨r, h1, h2⟩ := nearest_rounds ok_double (decide (z < 0)) z.natAbs 0
  obtain ⟨K, hK, eU⟩ := one_pow
  rw [least64] at h1
  have e1 : ((0 : Int) - -1074).toNat = K := by omega
  have e2 : ((-1074 : Int) - 0).toNat = 0 := by omega
  rw [e1, e2, Nat.pow_zero] at h1
  have h3 := ex_round (c := z.natAbs) (k := K) Nat.one_pos h (by omega) (by rw [Nat.mul_one]; exact h1)
  have h4 : Ex (FloatKind.f64.nearest z) z K := ex_of h2 h3.1 h3.2 (fun _ => rfl)
  rw [hK] at h4; exact h4
/-- Two to a power, above the subnormals. -/
theorem ex_two {n : Nat} (h : n ≤ 2045) : Ex (double.binade * (n + 1)) 1 (n + 52) := by
  have hv : val double (double.binade * (n + 1)) = 2 ^ (n + 52) := by
    have := val_mul_add (f := double) (q := n) (m := 0) (by rw [binade64]; omega)
    rw [Nat.add_zero, Nat.add_zero] at this
    rw [this, Nat.add_comm n 52, Nat.pow_add]; congr 1
  have hi : double.binade * (n + 1) < double.infRung := by
    rw [binade64, infRung64]; omega
  have hw := wordF (Nat.le_of_lt hi)
  refine ex_of (r := double.binade * (n + 1)) (s := false) ?_ hi (by rw [hv]; simp) (fun _ => by decide)
  have e : min (double.binade * (n + 1)) double.infRung = double.binade * (n + 1) := by omega
  rw [e, hw]
/-! ### A power of two goes in and out of a quotient -/
theorem Bd.add_nz {x y a b c d l h : Nat} (hx : Bd x a b) (hy : Bd y c d) (hl1 : l + 52 ≤ a) (hl2 : l + 52 ≤ c) (hh1 : b + 1 ≤ h) (hh2 : d + 1 ≤ h) (hh' : h ≤ 2097) (hlh : l ≤ 2097)
    (hz : sval double x + sval double y ≠ 0) : sval double (fadd x y) ≠ 0 := by
  obtain ⟨r, s, h1, h2, _⟩ := add_sval hx.1 hy.1
  have f1 : fin double (fadd x y) := (Bd.add hx hy hl1 hl2 hh1 hh2 hh' hlh).1
  have hr := fin_of_eq h1 f1
  have hn := natAbs_word (s := s) hr
  rw [← h1] at hn
  intro e
  rw [e] at hn
  have hd : ((2 ^ l : Nat) : Int) ∣ sval double x + sval double y := Int.dvd_add (hx.dvd hl1) (hy.dvd hl2)
  have h3 := Nat.le_of_dvd (by omega) (Int.ofNat_dvd_left.1 hd)
  have h4 := rne_lo Nat.one_pos h2 hlh (by rw [Nat.mul_one]; exact h3)
  have := Nat.two_pow_pos l
  simp at hn; omega
theorem sgn_of_mul {x y : Nat} (hx : fin double x) (hy : fin double y) : Fl.sgn double (fmul x y) = (Fl.sgn double x ^^ Fl.sgn double y) := by
  have hl := infRung_lt double
  obtain ⟨r, h1, _⟩ := mul_sval hx hy
  rw [h1, sgn_word _ (by omega)]
theorem sgn_of_div {x y : Nat} (hx : fin double x) (hy : fin double y) (h0 : sval double y ≠ 0) : Fl.sgn double (fdiv x y) = (Fl.sgn double x ^^ Fl.sgn double y) := by
  have hl := infRung_lt double
  obtain ⟨r, h1, _⟩ := div_sval hx hy h0
  rw [h1, sgn_word _ (by omega)]
/-- Of two numbers of one sign, of which the one is not nought, the sum is not. -/
theorem same_sgn_sum {x y : Nat} (h : Fl.sgn double x = Fl.sgn double y) (h0 : sval double x ≠ 0) : sval double x + sval double y ≠ 0 := by
  unfold sval at *
  rw [← h]
  cases Fl.sgn double x <;> simp at * <;> omega
/-- The ratio of two bounds, and what the quotient is divided by. -/
theorem ratio_bd {b c : Nat} (hb : Bd b 1074 1089) (hc : Bd c 1074 1089) (h0 : sval double b ≠ 0) :
    Bd (fdiv c b) 1059 1089 ∧ Bd (fadd b (fmul c (fdiv c b))) 1007 1105 ∧ sval double (fadd b (fmul c (fdiv c b))) ≠ 0 := by
  have h1 : Bd (fdiv c b) 1059 1089 := hc.div hb h0 (by omega) (by omega) (by omega) (by omega)
  have h2 : Bd (fmul c (fdiv c b)) 1059 1104 := hc.mul h1 (by omega) (by omega) (by omega) (by omega)
  have hs : Fl.sgn double b = Fl.sgn double (fmul c (fdiv c b)) := by
    rw [sgn_of_mul hc.1 h1.1, sgn_of_div hc.1 hb.1 h0]
    cases Fl.sgn double c <;> cases Fl.sgn double b <;> rfl
  exact ⟨h1, hb.add h2 (by omega) (by omega) (by omega) (by omega) (by omega) (by omega), hb.add_nz h2 (l := 1007) (h := 1105) (by omega) (by omega) (by omega) (by omega) (by omega) (by omega) (same_sgn_sum hs h0)⟩
/-- One part of a quotient. -/
theorem part_sc {i x y u v r t : Nat} (h : Sc i x y) (h' : Sc i u v) (hi : i ≤ 128) (bx : Bd x 946 1216) (bu : Bd u 946 1216) (br : Bd r 1059 1089) (bt : Bd t 1007 1105) (ht : sval double t ≠ 0) :
    Sc i (fdiv (fadd x (fmul u r)) t) (fdiv (fadd y (fmul v r)) t) ∧ Bd (fdiv (fadd x (fmul u r)) t) 848 1299 := by
  have b1 : Bd (fmul u r) 931 1231 := bu.mul br (by omega) (by omega) (by omega) (by omega)
  have b2 : Bd (fadd x (fmul u r)) 879 1232 := bx.add b1 (by omega) (by omega) (by omega) (by omega) (by omega) (by omega)
  have s1 : Sc i (fmul u r) (fmul v r) := h'.mul bu br (by omega) (by omega) (by omega) (by omega)
  have s2 : Sc i (fadd x (fmul u r)) (fadd y (fmul v r)) := h.add s1 bx b1 (l := 879) (k := 1231) (by omega) (by omega) (by omega) (by omega) (by omega) (by omega) (by omega)
  exact ⟨s2.div b2 bt ht (by omega) (by omega) (by omega) (by omega), b2.div bt ht (by omega) (by omega) (by omega) (by omega)⟩
theorem part_sc_neg {i x y u v r t : Nat} (h : Sc i x y) (h' : Sc i u v) (hi : i ≤ 128) (bx : Bd x 946 1216) (bu : Bd u 946 1216) (br : Bd r 1059 1089) (bt : Bd t 1007 1105) (ht : sval double t ≠ 0) :
    Sc i (fdiv (fsub x (fmul u r)) t) (fdiv (fsub y (fmul v r)) t) ∧ Bd (fdiv (fsub x (fmul u r)) t) 848 1299 := by
  have b1 : Bd (fmul u r) 931 1231 := bu.mul br (by omega) (by omega) (by omega) (by omega)
  have b1n := b1.neg (fmul_lt _ _)
  have b2 : Bd (fadd x (fneg (fmul u r))) 879 1232 := bx.add b1n (by omega) (by omega) (by omega) (by omega) (by omega) (by omega)
  have s1 : Sc i (fmul u r) (fmul v r) := h'.mul bu br (by omega) (by omega) (by omega) (by omega)
  have s1n := s1.neg (fmul_lt _ _) (fmul_lt _ _)
  have s2 : Sc i (fadd x (fneg (fmul u r))) (fadd y (fneg (fmul v r))) := h.add s1n bx b1n (l := 879) (k := 1231) (by omega) (by omega) (by omega) (by omega) (by omega) (by omega) (by omega)
  rw [fsub_eq x (fmul_lt _ _), fsub_eq y (fmul_lt _ _)]
  exact ⟨s2.div b2 bt ht (by omega) (by omega) (by omega) (by omega), b2.div bt ht (by omega) (by omega) (by omega) (by omega)⟩
/-- Less the product's other side. -/
theorem part_sc_rev {i x y u v r t : Nat} (h : Sc i x y) (h' : Sc i u v) (hi : i ≤ 128) (bx : Bd x 946 1216) (bu : Bd u 946 1216) (hlx : x < 18446744073709551616) (hly : y < 18446744073709551616) (br : Bd r 1059 1089) (bt : Bd t 1007 1105) (ht : sval double t ≠ 0) :
    Sc i (fdiv (fsub (fmul u r) x) t) (fdiv (fsub (fmul v r) y) t) ∧ Bd (fdiv (fsub (fmul u r) x) t) 848 1299 := by
  have b1 : Bd (fmul u r) 931 1231 := bu.mul br (by omega) (by omega) (by omega) (by omega)
  have bxn := bx.neg hlx
  have b2 : Bd (fadd (fmul u r) (fneg x)) 879 1232 := b1.add bxn (by omega) (by omega) (by omega) (by omega) (by omega) (by omega)
  have s1 : Sc i (fmul u r) (fmul v r) := h'.mul bu br (by omega) (by omega) (by omega) (by omega)
  have sxn := h.neg hlx hly
  have s2 : Sc i (fadd (fmul u r) (fneg x)) (fadd (fmul v r) (fneg y)) := s1.add sxn b1 bxn (l := 879) (k := 1231) (by omega) (by omega) (by omega) (by omega) (by omega) (by omega) (by omega)
  rw [fsub_eq (fmul u r) hlx, fsub_eq (fmul v r) hly]
  exact ⟨s2.div b2 bt ht (by omega) (by omega) (by omega) (by omega), b2.div bt ht (by omega) (by omega) (by omega) (by omega)⟩
theorem fle_of_zero {b c : Nat} (hb : fin double b) (hc : fin double c) (h0 : sval double b = 0) (h : fle .f64 (fabs c) (fabs b) = true) : sval double c = 0 := by
  have nb : isNaN double b = false := by unfold fin at hb; unfold isNaN; simp; omega
  have nc : isNaN double c = false := by unfold fin at hc; unfold isNaN; simp; omega
  have ib : isInf double b = false := by unfold fin at hb; unfold isInf; simp; omega
  have ic : isInf double c = false := by unfold fin at hc; unfold isInf; simp; omega
  have eb := fabs_fin ib nb
  have ec := fabs_fin ic nc
  rw [eb.1, ec.1, fle_rungs (Nat.le_of_lt ec.2) (Nat.le_of_lt eb.2), zero_rung.1 h0] at h
  have h1 : rung double c = 0 := by simpa using h
  exact zero_rung.2 h1
theorem fle_total {b c : Nat} (hb : fin double b) (hc : fin double c) (h : fle .f64 (fabs c) (fabs b) = false) : sval double c ≠ 0 := by
  intro h0
  have nb : isNaN double b = false := by unfold fin at hb; unfold isNaN; simp; omega
  have nc : isNaN double c = false := by unfold fin at hc; unfold isNaN; simp; omega
  have ib : isInf double b = false := by unfold fin at hb; unfold isInf; simp; omega
  have ic : isInf double c = false := by unfold fin at hc; unfold isInf; simp; omega
  have eb := fabs_fin ib nb
  have ec := fabs_fin ic nc
  rw [eb.1, ec.1, fle_rungs (Nat.le_of_lt ec.2) (Nat.le_of_lt eb.2), zero_rung.1 h0] at h
  simp at h
theorem div_sc {i : Nat} {x y b : C} (h1 : Sc i x.1 y.1) (h2 : Sc i x.2 y.2) (hi : i ≤ 128) (b1 : Bd x.1 946 1216) (b2 : Bd x.2 946 1216) (lx : ltC x) (ly : ltC y)
    (c1 : Bd b.1 1074 1089) (c2 : Bd b.2 1074 1089) (h0 : sval double b.1 ≠ 0 ∨ sval double b.2 ≠ 0) :
    (Sc i (pDiv x b).1 (pDiv y b).1 ∧ Bd (pDiv x b).1 848 1299) ∧ (Sc i (pDiv x b).2 (pDiv y b).2 ∧ Bd (pDiv x b).2 848 1299) := by
  unfold pDiv
  by_cases hf : fle .f64 (fabs b.2) (fabs b.1) = true
  · rw [if_pos hf, if_pos hf]
    have hn : sval double b.1 ≠ 0 := by
      intro e
      rcases h0 with h | h
      · exact h e
      · exact h (fle_of_zero c1.1 c2.1 e hf)
    obtain ⟨br, bt, ht⟩ := ratio_bd c1 c2 hn
    exact ⟨part_sc h1 h2 hi b1 b2 br bt ht, part_sc_neg h2 h1 hi b2 b1 br bt ht⟩
  · rw [if_neg hf, if_neg hf]
    have hn : sval double b.2 ≠ 0 := fle_total c1.1 c2.1 (Bool.eq_false_iff.2 hf)
    obtain ⟨br, bt, ht⟩ := ratio_bd c2 c1 hn
    rw [fadd_comm] at bt ht
    dsimp only
    rw [fadd_comm (fmul x.1 _), fadd_comm (fmul y.1 _)]
    exact ⟨part_sc h2 h1 hi b2 b1 br bt ht, part_sc_rev h1 h2 hi b1 b2 lx.1 ly.1 br bt ht⟩
/-- A power of two times a number. -/
theorem two_mul_up {x T i a b : Nat} (hT : Ex T 1 (1074 + i)) (bx : Bd x a b) (ha : 54 ≤ a) (hh : b + i ≤ 2097) : Sc i x (fmul T x) := by
  obtain ⟨K, hK, eU⟩ := one_pow
  rw [← hK] at hT
  obtain ⟨r, h1, h2⟩ := mul_sval hT.2.1 bx.1
  have e : (sval double T).natAbs = 2 ^ K * 2 ^ i := by rw [hT.2.2, Int.one_mul, ← Nat.pow_add]; rfl
  rw [e, Nat.mul_assoc, Nat.mul_comm, ← eU, Nat.mul_comm (2 ^ i)] at h2
  rcases bx.2.1 with h0 | h0
  · rw [h0] at h2; simp at h2
    have hr := rne_zero (one_pos double) h2
    subst hr
    refine ⟨bx.1, by rw [h1]; exact fin_word _ (by rw [infRung64]; decide), ?_⟩
    have : min 0 double.infRung = 0 := by omega
    rw [h1, this, sval_word _ (Nat.zero_le _), val_zero, h0]; simp
  · rw [abs_sval] at h0 h2
    have hbig := binade_of_lo ha h0
    have hv := val_shift (r := rung double x) i (Nat.le_of_lt hbig)
    rw [← hv] at h2
    have hr : r = rung double x + i * double.binade := h2.eq_of_exact (one_pos double) rfl
    have hi : r < double.infRung := by
      refine (val_lt_iff (f := double)).1 ?_
      obtain ⟨M, hM, eM⟩ := val_inf_ex
      rw [hr, hv, eM, ← abs_sval]
      have h3 : (sval double x).natAbs * 2 ^ i ≤ 2 ^ b * 2 ^ i := Nat.mul_le_mul_right _ bx.2.2
      rw [← Nat.pow_add] at h3
      exact Nat.lt_of_le_of_lt h3 (Nat.pow_lt_pow_right (by omega) (by omega))
    have em : min r double.infRung = r := by omega
    have hs : Fl.sgn double T = false := by rw [sgn_of_ex hT (by omega)]; rfl
    rw [em, hs, Bool.false_xor] at h1
    refine ⟨bx.1, by rw [h1]; exact fin_word _ hi, ?_⟩
    rw [h1, sval_word _ (Nat.le_of_lt hi), hr, hv]
    unfold sval
    cases Fl.sgn double x <;> simp [Int.neg_mul]
theorem two_mul_down {x T i a b : Nat} (hT : Ex T 1 (1074 - i)) (hi : i ≤ 1000) (bx : Bd x a b) (ha : 54 + i ≤ a) : Sc i (fmul T x) x := by
  obtain ⟨K, hK, eU⟩ := one_pow
  rw [← hK] at hT
  obtain ⟨r, h1, h2⟩ := mul_sval hT.2.1 bx.1
  have e : (sval double T).natAbs = 2 ^ (K - i) := by rw [hT.2.2, Int.one_mul]; rfl
  rw [e] at h2
  rcases bx.2.1 with h0 | h0
  · rw [h0] at h2; simp at h2
    have hr := rne_zero (one_pos double) h2
    subst hr
    have : min 0 double.infRung = 0 := by omega
    refine ⟨by rw [h1]; exact fin_word _ (by rw [infRung64]; decide), bx.1, ?_⟩
    rw [h1, this, sval_word _ (Nat.zero_le _), val_zero, h0]; simp
  · rw [abs_sval] at h0 h2
    -- the rung so many binades below
    have hbx : double.binade * (i + 1) < rung double x := by
      refine (val_lt_iff (f := double)).1 (Nat.lt_of_lt_of_le ?_ h0)
      have hv := val_mul_add (f := double) (q := i) (m := 0) (by rw [binade64]; omega)
      rw [Nat.add_zero, Nat.add_zero] at hv
      rw [hv, binade64]
      have h3 : 4503599627370496 * 2 ^ i < 2 ^ 53 * 2 ^ i := Nat.mul_lt_mul_of_pos_right (by omega) (Nat.two_pow_pos _)
      rw [← Nat.pow_add] at h3
      exact Nat.lt_of_lt_of_le h3 (Nat.pow_le_pow_right (by omega) (by omega))
    have em1 : double.binade * (i + 1) = i * double.binade + double.binade := by rw [Nat.mul_add, Nat.mul_one, Nat.mul_comm]
    obtain ⟨p, hp⟩ : ∃ p, rung double x = p + i * double.binade := ⟨rung double x - i * double.binade, by omega⟩
    have hpb : double.binade ≤ p := by omega
    have hv := val_shift (r := p) i hpb
    rw [hp, hv] at h2
    have hN : 2 ^ (K - i) * (val double p * 2 ^ i) = val double p * one_ double := by
      have hki : K - i + i = K := by omega
      rw [eU, Nat.mul_left_comm, ← Nat.pow_add, hki]
    rw [hN] at h2
    have hr : r = p := h2.eq_of_exact (one_pos double) rfl
    subst hr
    have hif : r < double.infRung := by have := bx.1; unfold fin at this; omega
    have em : min r double.infRung = r := by omega
    have hs : Fl.sgn double T = false := by rw [sgn_of_ex hT (by omega)]; rfl
    rw [em, hs, Bool.false_xor] at h1
    refine ⟨by rw [h1]; exact fin_word _ hif, bx.1, ?_⟩
    rw [h1, sval_word _ (Nat.le_of_lt hif)]
    have e3 : sval double x = if Fl.sgn double x then -(val double (rung double x) : Int) else (val double (rung double x) : Int) := rfl
    rw [e3, hp, hv]
    cases Fl.sgn double x <;> simp [Int.neg_mul]
theorem sc_eq {i x y z : Nat} (h : Sc i x y) (h' : Sc i x z) : feq .f64 y z = true := feq_of_sval h.2.1 h'.2.1 (by rw [h.2.2, h'.2.2])
theorem sc_eq' {i x y z : Nat} (h : Sc i y x) (h' : Sc i z x) : feq .f64 y z = true := by
  refine feq_of_sval h.1 h'.1 ?_
  have hp := two_pos i
  have e : sval double y * (2 ^ i : Nat) = sval double z * (2 ^ i : Nat) := by rw [← h.2.2, ← h'.2.2]
  exact Int.eq_of_mul_eq_mul_right (by omega) e
end Fl
namespace Fl
open Ieee Go
theorem ex_zero {x k : Nat} (hx : x < 18446744073709551616) (h : rung double x = 0) : Ex x 0 k :=
  ⟨hx, by unfold fin; rw [h, infRung64]; decide, by rw [zero_rung.2 h]; simp⟩
theorem ex_one : Ex 4607182418800017408 1 1074 := by
  have h := ex_two (n := 1022) (by omega)
  rw [binade64] at h; exact h
theorem ex_minus : Ex 13830554455654793216 (-1) 1074 := by
  have h := ex_one.neg
  have e : fneg 4607182418800017408 = 13830554455654793216 := by decide +kernel
  rw [e] at h; exact h
theorem Ex.at {x k : Nat} {a b : Int} (h : Ex x a k) (e : a = b) : Ex x b k := e ▸ h
theorem quot_minus {P Q : Nat} {p q : Int} (hp : Ex P p 1074) (hq : Ex Q q 1074) (bp : p.natAbs < 9007199254740992) :
    Ex (pDiv (P, Q) (13830554455654793216, 0)).1 (-p) 1074 ∧ (q.natAbs < 9007199254740992 → Ex (pDiv (P, Q) (13830554455654793216, 0)).2 (-q) 1074) := by
  have e1 : fle .f64 (fabs 0) (fabs 13830554455654793216) = true := by decide +kernel
  have e2 : fdiv 0 13830554455654793216 = 9223372036854775808 := by decide +kernel
  have e3 : fadd 13830554455654793216 (fmul 0 9223372036854775808) = 13830554455654793216 := by decide +kernel
  have z : Ex 9223372036854775808 0 1074 := ex_zero (by decide) (by decide)
  unfold pDiv
  rw [if_pos e1]
  dsimp only
  rw [e2, e3]
  have m1 := hq.mul z (n := 1074) (by omega) (by simp) (by omega)
  have m2 := hp.mul z (n := 1074) (by omega) (by simp) (by omega)
  have s1 := (hp.add m1 (by simpa using bp) (by omega)).at (b := p) (by simp)
  refine ⟨(s1.div ex_minus (.inr rfl) bp (by omega)).at (by omega), fun bq => ?_⟩
  have s2 := (hq.sub m2 (by simpa using bq) (by omega)).at (b := q) (by simp)
  exact (s2.div ex_minus (.inr rfl) bq (by omega)).at (by omega)
theorem quot_i {P Q : Nat} {p q : Int} (hp : Ex P p 1074) (hq : Ex Q q 1074) (bp : p.natAbs < 9007199254740992) (bq : q.natAbs < 9007199254740992) :
    Ex (pDiv (P, Q) (0, 4607182418800017408)).1 q 1074 ∧ Ex (pDiv (P, Q) (0, 4607182418800017408)).2 (-p) 1074 := by
  have e1 : ¬ fle .f64 (fabs 4607182418800017408) (fabs 0) = true := by decide +kernel
  have e2 : fdiv 0 4607182418800017408 = 0 := by decide +kernel
  have e3 : fadd (fmul 0 0) 4607182418800017408 = 4607182418800017408 := by decide +kernel
  have z : Ex 0 0 1074 := ex_zero (by decide) (by decide)
  unfold pDiv
  rw [if_neg e1]
  dsimp only
  rw [e2, e3]
  have m1 := hp.mul z (n := 1074) (by omega) (by simp) (by omega)
  have m2 := hq.mul z (n := 1074) (by omega) (by simp) (by omega)
  have s1 := (m1.add hq (by simpa using bq) (by omega)).at (b := q) (by simp)
  have s2 := (m2.sub hp (by simpa using bp) (by omega)).at (b := -p) (by simp)
  exact ⟨(s1.div ex_one (.inl rfl) bq (by omega)).at (by omega), (s2.div ex_one (.inl rfl) (by simpa using bp) (by omega)).at (by omega)⟩
theorem quot_mi {P Q : Nat} {p q : Int} (hp : Ex P p 1074) (hq : Ex Q q 1074) (bp : p.natAbs < 9007199254740992) (bq : q.natAbs < 9007199254740992) :
    Ex (pDiv (P, Q) (0, 13830554455654793216)).1 (-q) 1074 ∧ Ex (pDiv (P, Q) (0, 13830554455654793216)).2 p 1074 := by
  have e1 : ¬ fle .f64 (fabs 13830554455654793216) (fabs 0) = true := by decide +kernel
  have e2 : fdiv 0 13830554455654793216 = 9223372036854775808 := by decide +kernel
  have e3 : fadd (fmul 0 9223372036854775808) 13830554455654793216 = 13830554455654793216 := by decide +kernel
  have z : Ex 9223372036854775808 0 1074 := ex_zero (by decide) (by decide)
  unfold pDiv
  rw [if_neg e1]
  dsimp only
  rw [e2, e3]
  have m1 := hp.mul z (n := 1074) (by omega) (by simp) (by omega)
  have m2 := hq.mul z (n := 1074) (by omega) (by simp) (by omega)
  have s1 := (m1.add hq (by simpa using bq) (by omega)).at (b := q) (by simp)
  have s2 := (m2.sub hp (by simpa using bp) (by omega)).at (b := -p) (by simp)
  exact ⟨(s1.div ex_minus (.inr rfl) bq (by omega)).at (by omega), (s2.div ex_minus (.inr rfl) (by simpa using bp) (by omega)).at (by omega)⟩
/-- All are finite. -/
def finC (a : C) : Prop := fin double a.1 ∧ fin double a.2
theorem twos_quot {P Q D E T n : Nat} {p q c d : Int} (hp : Ex P p 1074) (hq : Ex Q q 1074) (hc : Ex D c 1074) (hd : Ex E d 1074) (hT : Ex T 1 (n + 946)) (hn : n < 256)
    (bp : p.natAbs ≤ 2 ^ 15) (bq : q.natAbs ≤ 2 ^ 15) (bc : c.natAbs ≤ 2 ^ 15) (bd : d.natAbs ≤ 2 ^ 15) (h0 : c ≠ 0 ∨ d ≠ 0) :
    (feq .f64 (pDiv (fmul T P, fmul T Q) (D, E)).1 (fmul T (pDiv (P, Q) (D, E)).1) = true ∧ feq .f64 (pDiv (fmul T P, fmul T Q) (D, E)).2 (fmul T (pDiv (P, Q) (D, E)).2) = true) ∧
    finC (pDiv (fmul T P, fmul T Q) (D, E)) ∧ finC (pDiv (P, Q) (D, E)) ∧ finC (fmul T (pDiv (P, Q) (D, E)).1, fmul T (pDiv (P, Q) (D, E)).2) := by
  have tp : Ex (fmul T P) p (n + 946) := (hT.mul hp (n := n + 946) (by omega) (by rw [Int.one_mul]; omega) (by omega)).at (Int.one_mul _)
  have tq : Ex (fmul T Q) q (n + 946) := (hT.mul hq (n := n + 946) (by omega) (by rw [Int.one_mul]; omega) (by omega)).at (Int.one_mul _)
  have c1 : Bd D 1074 1089 := (hc.bd bc).mono (by omega) (by omega)
  have c2 : Bd E 1074 1089 := (hd.bd bd).mono (by omega) (by omega)
  have z0 : sval double D ≠ 0 ∨ sval double E ≠ 0 := by
    rcases h0 with h | h
    · left; rw [hc.2.2]; exact fun e => h (mul_two_eq.1 e)
    · right; rw [hd.2.2]; exact fun e => h (mul_two_eq.1 e)
  have lx : ltC (P, Q) := ⟨hp.1, hq.1⟩
  have ly : ltC (fmul T P, fmul T Q) := ⟨fmul_lt _ _, fmul_lt _ _⟩
  have b1 : Bd P 946 1216 := (hp.bd bp).mono (by omega) (by omega)
  have b2 : Bd Q 946 1216 := (hq.bd bq).mono (by omega) (by omega)
  have b3 : Bd (fmul T P) 946 1216 := (tp.bd bp).mono (by omega) (by omega)
  have b4 : Bd (fmul T Q) 946 1216 := (tq.bd bq).mono (by omega) (by omega)
  rcases Nat.lt_or_ge n 128 with hlt | hge
  · -- down
    obtain ⟨i, hi⟩ : ∃ i, i = 128 - n := ⟨_, rfl⟩
    have ek : n + 946 = 1074 - i := by omega
    have e1 : n + 946 + i = 1074 := by omega
    have s1 : Sc i (fmul T P) P := tp.sc (by rw [e1]; exact hp)
    have s2 : Sc i (fmul T Q) Q := tq.sc (by rw [e1]; exact hq)
    have s := div_sc (x := (fmul T P, fmul T Q)) (y := (P, Q)) (b := (D, E)) s1 s2 (by omega) b3 b4 ly lx c1 c2 z0
    have ss := div_sc (i := 0) (x := (P, Q)) (y := (P, Q)) (b := (D, E)) ⟨hp.2.1, hp.2.1, by simp⟩ ⟨hq.2.1, hq.2.1, by simp⟩ (by omega) b1 b2 lx lx c1 c2 z0
    have hT' : Ex T 1 (1074 - i) := by rw [← ek]; exact hT
    have u1 := two_mul_down hT' (by omega) ss.1.2 (by omega)
    have u2 := two_mul_down hT' (by omega) ss.2.2 (by omega)
    exact ⟨⟨sc_eq' s.1.1 u1, sc_eq' s.2.1 u2⟩, ⟨s.1.1.1, s.2.1.1⟩, ⟨ss.1.1.1, ss.2.1.1⟩, ⟨u1.1, u2.1⟩⟩
  · obtain ⟨i, hi⟩ : ∃ i, i = n - 128 := ⟨_, rfl⟩
    have ek : n + 946 = 1074 + i := by omega
    have s1 : Sc i P (fmul T P) := hp.sc (by rw [← ek]; exact tp)
    have s2 : Sc i Q (fmul T Q) := hq.sc (by rw [← ek]; exact tq)
    have s := div_sc (x := (P, Q)) (y := (fmul T P, fmul T Q)) (b := (D, E)) s1 s2 (by omega) b1 b2 lx ly c1 c2 z0
    have hT' : Ex T 1 (1074 + i) := by rw [← ek]; exact hT
    have u1 := two_mul_up hT' s.1.2 (by omega) (by omega)
    have u2 := two_mul_up hT' s.2.2 (by omega) (by omega)
    exact ⟨⟨sc_eq s.1.1 u1, sc_eq s.2.1 u2⟩, ⟨s.1.1.2.1, s.2.1.2.1⟩, ⟨s.1.1.1, s.2.1.1⟩, ⟨u1.2.1, u2.2.1⟩⟩
end Fl
