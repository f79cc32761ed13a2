/- Pure theory of binary floats: rungs, their values, rounding to nearest even as a relation; no program in sight. -/
import Ieee.Arith
import Derived.Laws.FloatArith
namespace Fl
open Ieee

/-- A format of at least one fraction bit. -/
def val (f : Format) (r : Nat) : Nat := if r < f.binade then r else (f.binade + r % f.binade) * 2 ^ (r / f.binade - 1)
def gap (f : Format) (r : Nat) : Nat := 2 ^ (r / f.binade - 1)

theorem binade_pos (f : Format) : 0 < f.binade := Nat.two_pow_pos _

theorem gap_pos (f : Format) (r : Nat) : 0 < gap f r := Nat.two_pow_pos _

theorem val_small {f : Format} {r : Nat} (h : r < f.binade) : val f r = r := by simp [val, h]

theorem val_mul_add {f : Format} {q m : Nat} (hm : m < f.binade) : val f (f.binade * (q + 1) + m) = (f.binade + m) * 2 ^ q := by
  have hB := binade_pos f
  have h1 : ¬ (f.binade * (q + 1) + m < f.binade) := by
    rw [Nat.mul_add]; omega
  have h2 : (f.binade * (q + 1) + m) % f.binade = m := by rw [Nat.mul_add_mod, Nat.mod_eq_of_lt hm]
  have h3 : (f.binade * (q + 1) + m) / f.binade = q + 1 := by
    rw [Nat.mul_add_div hB, Nat.div_eq_of_lt hm, Nat.add_zero]
  simp only [val, h1, if_false, h2, h3, Nat.add_sub_cancel]

theorem gap_mul_add {f : Format} {q m : Nat} (hm : m < f.binade) : gap f (f.binade * (q + 1) + m) = 2 ^ q := by
  have hB := binade_pos f
  have h3 : (f.binade * (q + 1) + m) / f.binade = q + 1 := by
    rw [Nat.mul_add_div hB, Nat.div_eq_of_lt hm, Nat.add_zero]
  simp only [gap, h3, Nat.add_sub_cancel]

theorem gap_small {f : Format} {r : Nat} (h : r < f.binade) : gap f r = 1 := by
  simp [gap, Nat.div_eq_of_lt h]

/-- Each rung is below its binade, or stands in one. -/
theorem rung_cases (f : Format) (r : Nat) : r < f.binade ∨ ∃ q m, m < f.binade ∧ r = f.binade * (q + 1) + m := by
  have hB := binade_pos f
  by_cases h : r < f.binade
  · exact .inl h
  · refine .inr ⟨r / f.binade - 1, r % f.binade, Nat.mod_lt _ hB, ?_⟩
    have h1 : 1 ≤ r / f.binade := (Nat.le_div_iff_mul_le hB).2 (by omega)
    have h2 := Nat.div_add_mod r f.binade
    rw [Nat.sub_add_cancel h1]; omega

theorem val_succ (f : Format) (r : Nat) : val f (r + 1) = val f r + gap f r := by
  have hB := binade_pos f
  rcases rung_cases f r with h | ⟨q, m, hm, rfl⟩
  · rw [gap_small h, val_small h]
    by_cases h' : r + 1 < f.binade
    · rw [val_small h']
    · have : r + 1 = f.binade * (0 + 1) + 0 := by omega
      rw [this, val_mul_add hB]; omega
  · rw [val_mul_add hm, gap_mul_add hm]
    by_cases h' : m + 1 < f.binade
    · rw [Nat.add_assoc, val_mul_add h', ← Nat.add_assoc, Nat.add_mul (f.binade + m) 1, Nat.one_mul]
    · have e : f.binade * (q + 1) + m + 1 = f.binade * (q + 1 + 1) + 0 := by
        have h1 : m + 1 = f.binade := by omega
        rw [Nat.mul_add f.binade (q + 1) 1]; omega
      have h1 : m + 1 = f.binade := by omega
      rw [e, val_mul_add hB, Nat.pow_succ, Nat.add_zero]
      have h2 : (f.binade + m) * 2 ^ q + 2 ^ q = (f.binade + m + 1) * 2 ^ q := by rw [Nat.add_mul (f.binade + m) 1, Nat.one_mul]
      rw [h2, Nat.add_assoc, h1, ← Nat.two_mul, Nat.mul_comm 2, Nat.mul_assoc, Nat.mul_comm 2]

theorem val_lt_succ (f : Format) (r : Nat) : val f r < val f (r + 1) := by
  have := val_succ f r; have := gap_pos f r; omega

theorem val_lt {f : Format} {a b : Nat} (h : a < b) : val f a < val f b := by
  induction b with
  | zero => omega
  | succ b ih =>
    have := val_lt_succ f b
    by_cases e : a = b
    · subst e; exact this
    · have := ih (by omega); omega

theorem val_le {f : Format} {a b : Nat} (h : a ≤ b) : val f a ≤ val f b := by
  by_cases e : a = b
  · subst e; exact Nat.le_refl _
  · exact Nat.le_of_lt (val_lt (by omega))

theorem val_lt_iff {f : Format} {a b : Nat} : val f a < val f b ↔ a < b :=
  ⟨fun h => Nat.lt_of_not_le fun h' => by have := val_le (f := f) h'; omega, val_lt⟩
theorem val_le_iff {f : Format} {a b : Nat} : val f a ≤ val f b ↔ a ≤ b :=
  ⟨fun h => Nat.le_of_not_lt fun h' => by have := val_lt (f := f) h'; omega, val_le⟩
theorem val_inj {f : Format} {a b : Nat} (h : val f a = val f b) : a = b := by
  have h1 := (val_le_iff (f := f)).1 (Nat.le_of_eq h)
  have h2 := (val_le_iff (f := f)).1 (Nat.le_of_eq h.symm)
  omega
theorem val_zero (f : Format) : val f 0 = 0 := val_small (binade_pos f)
theorem val_one (f : Format) : val f 1 = 1 := by rw [val_succ, val_zero, gap_small (binade_pos f)]
theorem le_val (f : Format) (r : Nat) : r ≤ val f r := by
  induction r with
  | zero => omega
  | succ r ih => have := val_lt_succ f r; omega

/-- 'N / D' is rounded to rung 'r': it lies between the middles beside it, and is on one only if r is even. -/
def Rne (f : Format) (N D r : Nat) : Prop :=
  (2 * N < (val f r + val f (r + 1)) * D ∨ (2 * N = (val f r + val f (r + 1)) * D ∧ r % 2 = 0)) ∧
  (∀ q, r = q + 1 → ((val f q + val f r) * D < 2 * N ∨ ((val f q + val f r) * D = 2 * N ∧ r % 2 = 0)))

theorem Rne.mono {f : Format} {N D r N' D' r' : Nat} (hD : 0 < D) (hD' : 0 < D') (hle : N * D' ≤ N' * D) (h : Rne f N D r) (h' : Rne f N' D' r') : r ≤ r' := by
  refine Nat.le_of_not_lt fun hlt => ?_
  obtain ⟨q, rfl⟩ : ∃ q, r = q + 1 := ⟨r - 1, by omega⟩
  have h1 := h.2 q rfl
  have h2 := h'.1
  have a1 : val f r' ≤ val f q := val_le (by omega)
  have a2 : val f (r' + 1) ≤ val f (q + 1) := val_le (by omega)
  have hS : val f r' + val f (r' + 1) ≤ val f q + val f (q + 1) := by omega
  generalize hs : val f q + val f (q + 1) = S at *
  generalize hs' : val f r' + val f (r' + 1) = S' at *
  have b1 : S' * D * D' ≤ S * D * D' := Nat.mul_le_mul_right _ (Nat.mul_le_mul_right _ hS)
  have b0 : 0 < D * D' := Nat.mul_pos hD hD'
  have e1 : 2 * N' * D = 2 * (N' * D) := by rw [Nat.mul_assoc]
  have e2 : 2 * N * D' = 2 * (N * D') := by rw [Nat.mul_assoc]
  have e3 : S' * D' * D = S' * D * D' := Nat.mul_right_comm _ _ _
  have c1 : S * D * D' ≤ 2 * N * D' := by
    rcases h1 with h1 | ⟨h1, _⟩
    · exact Nat.mul_le_mul_right _ (Nat.le_of_lt h1)
    · rw [h1]; exact Nat.le_refl _
  have c2 : 2 * N' * D ≤ S' * D' * D := by
    rcases h2 with h2 | ⟨h2, _⟩
    · exact Nat.mul_le_mul_right _ (Nat.le_of_lt h2)
    · rw [h2]; exact Nat.le_refl _
  rcases h1 with h1 | ⟨h1, p1⟩
  · have := Nat.mul_lt_mul_of_pos_right h1 hD'
    omega
  · rcases h2 with h2 | ⟨h2, p2⟩
    · have := Nat.mul_lt_mul_of_pos_right h2 hD
      omega
    · have hSS : S * (D * D') = S' * (D * D') := by
        rw [← Nat.mul_assoc, ← Nat.mul_assoc]; omega
      have hSS := Nat.eq_of_mul_eq_mul_right b0 hSS
      have : val f r' = val f q := by omega
      have := val_inj this
      omega

theorem Rne.unique {f : Format} {N D r r' : Nat} (hD : 0 < D) (h : Rne f N D r) (h' : Rne f N D r') : r = r' :=
  Nat.le_antisymm (h.mono hD hD (Nat.le_refl _) h') (h'.mono hD hD (Nat.le_refl _) h)

theorem Rne.congr {f : Format} {N D N' D' r r' : Nat} (hD : 0 < D) (hD' : 0 < D') (e : N * D' = N' * D) (h : Rne f N D r) (h' : Rne f N' D' r') : r = r' :=
  Nat.le_antisymm (h.mono hD hD' (Nat.le_of_eq e) h') (h'.mono hD' hD (Nat.le_of_eq e.symm) h)

theorem Rne.scale {f : Format} {N D r : Nat} (c : Nat) (hc : 0 < c) : Rne f (N * c) (D * c) r ↔ Rne f N D r := by
  unfold Rne
  have k1 : ∀ S : Nat, 2 * (N * c) < S * (D * c) ↔ 2 * N < S * D := fun S => by
    rw [← Nat.mul_assoc, ← Nat.mul_assoc]; exact Nat.mul_lt_mul_right hc
  have k2 : ∀ S : Nat, 2 * (N * c) = S * (D * c) ↔ 2 * N = S * D := fun S => by
    rw [← Nat.mul_assoc, ← Nat.mul_assoc]; exact Nat.mul_left_inj (by omega)
  have k3 : ∀ S : Nat, S * (D * c) < 2 * (N * c) ↔ S * D < 2 * N := fun S => by
    rw [← Nat.mul_assoc, ← Nat.mul_assoc]; exact Nat.mul_lt_mul_right hc
  have k4 : ∀ S : Nat, S * (D * c) = 2 * (N * c) ↔ S * D = 2 * N := fun S => by
    rw [← Nat.mul_assoc, ← Nat.mul_assoc]; exact Nat.mul_left_inj (by omega)
  simp only [k1, k2, k3, k4]

/-- What is on a rung is rounded to it. -/
theorem Rne.exact (f : Format) (D r : Nat) (hD : 0 < D) : Rne f (val f r * D) D r := by
  refine ⟨.inl ?_, fun q hq => .inl ?_⟩
  · rw [← Nat.mul_assoc]
    exact Nat.mul_lt_mul_of_pos_right (by have := val_lt_succ f r; omega) hD
  · subst hq
    rw [← Nat.mul_assoc]
    exact Nat.mul_lt_mul_of_pos_right (by have := val_lt_succ f q; omega) hD

theorem Rne.eq_of_exact {f : Format} {N D r s : Nat} (hD : 0 < D) (h : Rne f N D r) (e : N = val f s * D) : r = s := by
  subst e; exact h.unique hD (Rne.exact f D s hD)
end Fl
namespace Fl
open Ieee

/-- 'n / g' is rounded to the whole number k. -/
def CutTo (n g k : Nat) : Prop :=
  (2 * n < (2 * k + 1) * g ∨ (2 * n = (2 * k + 1) * g ∧ k % 2 = 0)) ∧
  (1 ≤ k → ((2 * k - 1) * g < 2 * n ∨ ((2 * k - 1) * g = 2 * n ∧ k % 2 = 0)))

theorem cut_even (neg : Bool) (n drop : Nat) : CutTo n (2 ^ drop) (Toward.even.cut neg n drop) := by
  have hcut : ∀ g : Nat, 0 < g → CutTo n g (n / g + (decide (g < 2 * (n % g)) || (g == 2 * (n % g) && n / g % 2 == 1)).toNat) := by
    intro g hg
    have hd := Nat.div_add_mod n g
    have hr := Nat.mod_lt n hg
    generalize n / g = l at *
    generalize n % g = r at *
    have hm : g * l = l * g := Nat.mul_comm _ _
    have x1 : (2 * l + 1) * g = 2 * (l * g) + g := by rw [Nat.add_mul, Nat.mul_assoc, Nat.one_mul]
    have x2 : (2 * (l + 1) + 1) * g = 2 * (l * g) + 3 * g := by rw [Nat.add_mul, Nat.mul_assoc, Nat.add_mul, Nat.one_mul]; omega
    have x3 : 1 ≤ l → (2 * l - 1) * g = 2 * (l * g) - g := by intro _; rw [Nat.sub_mul, Nat.mul_assoc, Nat.one_mul]
    have x4 : (2 * (l + 1) - 1) * g = 2 * (l * g) + g := by
      have : 2 * (l + 1) - 1 = 2 * l + 1 := by omega
      rw [this, x1]
    have x5 : 1 ≤ l → g ≤ l * g := fun h => Nat.le_mul_of_pos_left g h
    by_cases c1 : g < 2 * r
    · simp only [c1, decide_true, Bool.true_or, Bool.toNat_true]
      unfold CutTo
      rw [x2, x4]
      exact ⟨.inl (by omega), fun _ => .inl (by omega)⟩
    · by_cases c2 : g = 2 * r
      · by_cases c3 : l % 2 = 1
        · have e : (decide (g < 2 * r) || (g == 2 * r && l % 2 == 1)) = true := by simp [c2, c3]
          rw [e, Bool.toNat_true]
          unfold CutTo
          rw [x2, x4]
          exact ⟨.inl (by omega), fun _ => .inr ⟨by omega, by omega⟩⟩
        · have e : (decide (g < 2 * r) || (g == 2 * r && l % 2 == 1)) = false := by simp [c1, c3]
          rw [e, Bool.toNat_false, Nat.add_zero]
          unfold CutTo
          rw [x1]
          refine ⟨.inr ⟨by omega, by omega⟩, fun h => .inl ?_⟩
          rw [x3 h]; have := x5 h; omega
      · have e : (decide (g < 2 * r) || (g == 2 * r && l % 2 == 1)) = false := by simp [c1, c2]
        rw [e, Bool.toNat_false, Nat.add_zero]
        unfold CutTo
        rw [x1]
        refine ⟨.inl (by omega), fun h => .inl ?_⟩
        rw [x3 h]; have := x5 h; omega
  unfold Toward.cut
  by_cases hd : drop ≤ n.log2 + 2
  · have h := hcut (2 ^ drop) (Nat.two_pow_pos _)
    simp only [Nat.min_eq_left hd, Nat.one_shiftLeft]
    exact h
  · have hlt : 2 * n < 2 ^ (n.log2 + 2) := by
      by_cases h0 : n = 0
      · subst h0; simp
      · have := Nat.lt_log2_self (n := n)
        rw [Nat.pow_succ]
        omega
    have hle : 2 ^ (n.log2 + 2) ≤ 2 ^ drop := Nat.pow_le_pow_right (by omega) (by omega)
    simp only [Nat.min_eq_right (Nat.le_of_lt (Nat.lt_of_not_le hd)), Nat.one_shiftLeft]
    have hlow : n / 2 ^ (n.log2 + 2) = 0 := Nat.div_eq_of_lt (by omega)
    have hmod : n % 2 ^ (n.log2 + 2) = n := Nat.mod_eq_of_lt (by omega)
    rw [hlow, hmod]
    have e : (decide (2 ^ (n.log2 + 2) < 2 * n) || (2 ^ (n.log2 + 2) == 2 * n && 0 % 2 == 1)) = false := by
      have : ¬ 2 ^ (n.log2 + 2) < 2 * n := by omega
      simp [this]
    rw [e]
    simp only [Bool.toNat_false, Nat.add_zero]
    unfold CutTo
    refine ⟨.inl ?_, fun h => by omega⟩
    simp only [Nat.mul_zero, Nat.zero_add, Nat.one_mul]
    omega

/-- The rung of 'nearest', before it is held against infinity's. -/
def rungOf (f : Format) (neg : Bool) (mag : Nat) (place : Int) : Nat :=
  if mag = 0 then 0 else
  let last := max (place + mag.log2 - f.fractionBits) f.leastPlace
  (last - f.leastPlace).toNat * f.binade + Toward.even.cut neg (mag <<< (place - last).toNat) (last - place).toNat

theorem nearest_eq (f : Format) (neg : Bool) (mag : Nat) (place : Int) : f.nearest neg mag place = f.word neg (min (rungOf f neg mag place) f.infRung) := by
  unfold Format.nearest rungOf
  by_cases h : mag = 0 <;> simp [h]

theorem rne_of_cut {f : Format} (hp : 1 ≤ f.fractionBits) {N D n g E k : Nat} (hD : 0 < D) (hg : 0 < g) (hx : n * 2 ^ E * D = N * g)
    (hk : CutTo n g k) (hhi : n < 2 * f.binade * g) (hlo : E = 0 ∨ f.binade * g ≤ n) : Rne f N D (E * f.binade + k) := by
  have hB := binade_pos f
  have hBe : f.binade % 2 = 0 := by
    obtain ⟨p, hp'⟩ : ∃ p, f.fractionBits = p + 1 := ⟨f.fractionBits - 1, by omega⟩
    unfold Format.binade; rw [hp', Nat.pow_succ]; omega
  have hE := Nat.two_pow_pos E
  -- bounds on k
  have hk2 : k ≤ 2 * f.binade := by
    refine Nat.le_of_not_lt fun h => ?_
    have h1 := hk.2 (by omega)
    have h2 : 2 * (2 * f.binade * g) ≤ (2 * k - 1) * g := by
      rw [← Nat.mul_assoc]; exact Nat.mul_le_mul_right _ (by omega)
    rcases h1 with h1 | ⟨h1, _⟩ <;> omega
  have hkB : E = 0 ∨ f.binade ≤ k := by
    rcases hlo with h | h
    · exact .inl h
    · refine .inr (Nat.le_of_not_lt fun h' => ?_)
      have h1 := hk.1
      have h2 : (2 * k + 1) * g ≤ (2 * f.binade - 1) * g := Nat.mul_le_mul_right _ (by omega)
      have h3 : (2 * f.binade - 1) * g = 2 * (f.binade * g) - g := by rw [Nat.sub_mul, Nat.mul_assoc, Nat.one_mul]
      have h4 := Nat.le_mul_of_pos_left g hB
      rcases h1 with h1 | ⟨h1, _⟩ <;> omega
  -- values
  have hval : ∀ j, j ≤ 2 * f.binade → (E = 0 ∨ f.binade ≤ j) → val f (E * f.binade + j) = j * 2 ^ E := by
    intro j hj hjE
    by_cases hj1 : j < f.binade
    · have : E = 0 := by omega
      subst this
      simp only [Nat.zero_mul, Nat.zero_add, Nat.pow_zero, Nat.mul_one]
      exact val_small hj1
    · by_cases hj2 : j = 2 * f.binade
      · subst hj2
        have e : E * f.binade + 2 * f.binade = f.binade * (E + 1 + 1) + 0 := by
          rw [Nat.mul_comm E, Nat.mul_add, Nat.mul_add]; omega
        rw [e, val_mul_add hB, Nat.pow_succ, Nat.add_zero, Nat.mul_comm 2 f.binade, Nat.mul_assoc, Nat.mul_comm 2]
      · have e : E * f.binade + j = f.binade * (E + 1) + (j - f.binade) := by
          rw [Nat.mul_comm E, Nat.mul_add]; omega
        rw [e, val_mul_add (by omega)]
        congr 1; omega
  have hgap : 2 ^ E ≤ gap f (E * f.binade + k) := by
    unfold gap
    refine Nat.pow_le_pow_right (by omega) ?_
    rcases hkB with h | h
    · omega
    · have : E + 1 ≤ (E * f.binade + k) / f.binade := (Nat.le_div_iff_mul_le hB).2 (by rw [Nat.add_mul]; omega)
      omega
  have hpar : (E * f.binade + k) % 2 = k % 2 := by
    obtain ⟨c, hc⟩ : ∃ c, f.binade = 2 * c := ⟨f.binade / 2, by omega⟩
    rw [hc, show E * (2 * c) = 2 * (E * c) from by rw [← Nat.mul_assoc, Nat.mul_comm E 2, Nat.mul_assoc]]
    omega
  have hv := hval k hk2 hkB
  -- comparisons are carried over
  have key : ∀ S : Nat, (2 * n < S * g → 2 * N < S * 2 ^ E * D) ∧ (2 * n = S * g → 2 * N = S * 2 ^ E * D) ∧ (S * g < 2 * n → S * 2 ^ E * D < 2 * N) ∧ (S * g = 2 * n → S * 2 ^ E * D = 2 * N) := by
    intro S
    have hc : 0 < 2 ^ E * D := Nat.mul_pos hE hD
    have e1 : 2 * n * (2 ^ E * D) = 2 * N * g := by rw [Nat.mul_assoc, ← Nat.mul_assoc n, hx, Nat.mul_assoc]
    have e2 : S * g * (2 ^ E * D) = S * 2 ^ E * D * g := by
      rw [Nat.mul_assoc, Nat.mul_comm g, ← Nat.mul_assoc, ← Nat.mul_assoc]
    refine ⟨fun h => ?_, fun h => ?_, fun h => ?_, fun h => ?_⟩
    · refine Nat.lt_of_mul_lt_mul_right (a := g) ?_
      rw [← e1, ← e2]; exact Nat.mul_lt_mul_of_pos_right h hc
    · refine Nat.eq_of_mul_eq_mul_right hg ?_
      rw [← e1, ← e2, h]
    · refine Nat.lt_of_mul_lt_mul_right (a := g) ?_
      rw [← e1, ← e2]; exact Nat.mul_lt_mul_of_pos_right h hc
    · refine Nat.eq_of_mul_eq_mul_right hg ?_
      rw [← e1, ← e2, h]
  constructor
  · -- above
    rw [val_succ, hv]
    have hsum : (2 * k + 1) * 2 ^ E ≤ k * 2 ^ E + (k * 2 ^ E + gap f (E * f.binade + k)) := by
      rw [Nat.add_mul, Nat.one_mul, Nat.mul_assoc]; omega
    have hsum' := Nat.mul_le_mul_right D hsum
    by_cases he : gap f (E * f.binade + k) = 2 ^ E
    · have e : k * 2 ^ E + (k * 2 ^ E + gap f (E * f.binade + k)) = (2 * k + 1) * 2 ^ E := by
        rw [he, Nat.add_mul, Nat.one_mul, Nat.mul_assoc]; omega
      rw [e, hpar]
      rcases hk.1 with h | ⟨h, hpe⟩
      · exact .inl ((key _).1 h)
      · exact .inr ⟨(key _).2.1 h, hpe⟩
    · refine .inl ?_
      have hsum2 : (2 * k + 1) * 2 ^ E < k * 2 ^ E + (k * 2 ^ E + gap f (E * f.binade + k)) := by
        rw [Nat.add_mul, Nat.one_mul, Nat.mul_assoc]; omega
      have hsum3 := Nat.mul_lt_mul_of_pos_right hsum2 hD
      rcases hk.1 with h | ⟨h, _⟩
      · have := (key _).1 h; omega
      · have := (key _).2.1 h; omega
  · intro q hq
    by_cases hk0 : k = f.binade ∧ E ≠ 0
    · refine .inl ?_
      obtain ⟨rfl, hE0⟩ := hk0
      have hlo' : f.binade * g ≤ n := by rcases hlo with h | h; exact absurd h hE0; exact h
      have h1 : val f q < val f (E * f.binade + f.binade) := by rw [hq]; exact val_lt_succ f q
      have h2 : val f (E * f.binade + f.binade) * D ≤ N := by
        rw [hv]
        refine Nat.le_of_mul_le_mul_right ?_ hg
        rw [← hx]
        have := Nat.mul_le_mul_right (2 ^ E * D) hlo'
        calc f.binade * 2 ^ E * D * g = f.binade * g * (2 ^ E * D) := by
              rw [Nat.mul_assoc f.binade g, Nat.mul_comm g, ← Nat.mul_assoc, ← Nat.mul_assoc]
          _ ≤ n * (2 ^ E * D) := this
          _ = n * 2 ^ E * D := by rw [← Nat.mul_assoc]
      have h3 := Nat.mul_lt_mul_of_pos_right h1 hD
      rw [Nat.add_mul]; omega
    · have hk1 : 1 ≤ k := by
        refine Nat.pos_of_ne_zero fun h => ?_
        subst h
        rcases hkB with h | h
        · subst h; simp at hq
        · omega
      have hq' : q = E * f.binade + (k - 1) := by omega
      have hv' := hval (k - 1) (by omega) (by omega)
      have e : val f q + val f (E * f.binade + k) = (2 * k - 1) * 2 ^ E := by
        rw [hq', hv', hv, ← Nat.add_mul]
        congr 1; omega
      rw [e, hpar]
      rcases hk.2 hk1 with h | ⟨h, hpe⟩
      · exact .inl ((key _).2.2.1 h)
      · exact .inr ⟨(key _).2.2.2 h, hpe⟩

theorem Rne.zero (f : Format) (D : Nat) (hD : 0 < D) : Rne f 0 D 0 := by
  have := Rne.exact f D 0 hD
  rwa [val_zero, Nat.zero_mul] at this

/-- THE MODEL'S NEAREST WORD IS ROUNDED TO NEAREST EVEN. -/
theorem rungOf_rne {f : Format} (hp : 1 ≤ f.fractionBits) (neg : Bool) (mag : Nat) (place : Int) :
    Rne f (mag * 2 ^ (place - f.leastPlace).toNat) (2 ^ (f.leastPlace - place).toNat) (rungOf f neg mag place) := by
  have hD : 0 < 2 ^ (f.leastPlace - place).toNat := Nat.two_pow_pos _
  by_cases h0 : mag = 0
  · subst h0
    rw [Nat.zero_mul]
    exact Rne.zero f _ hD
  · unfold rungOf
    rw [if_neg h0]
    dsimp only
    generalize hL : f.leastPlace = L at *
    generalize hl : max (place + (mag.log2 : Int) - (f.fractionBits : Int)) L = last
    have hlL : L ≤ last := by omega
    have hl1 : place + (mag.log2 : Int) - (f.fractionBits : Int) ≤ last := by omega
    have hl2 : last = L ∨ last = place + (mag.log2 : Int) - (f.fractionBits : Int) := by omega
    have m1 : mag < 2 ^ (mag.log2 + 1) := Nat.lt_log2_self
    have m2 : 2 ^ mag.log2 ≤ mag := Nat.log2_self_le h0
    rw [Nat.shiftLeft_eq]
    by_cases hc : last ≤ place
    · have e1 : (last - place).toNat = 0 := by omega
      rw [e1]
      have hk := cut_even neg (mag * 2 ^ (place - last).toNat) 0
      refine rne_of_cut hp hD (by simp) ?_ hk ?_ ?_
      · have e2 : (place - L).toNat = (place - last).toNat + (last - L).toNat := by omega
        have e3 : (L - place).toNat = 0 := by omega
        rw [e2, e3, Nat.pow_add, Nat.pow_zero, Nat.mul_one, Nat.mul_one, Nat.mul_assoc]
      · rw [Nat.pow_zero, Nat.mul_one]
        calc mag * 2 ^ (place - last).toNat < 2 ^ (mag.log2 + 1) * 2 ^ (place - last).toNat := Nat.mul_lt_mul_of_pos_right m1 (Nat.two_pow_pos _)
          _ = 2 ^ (mag.log2 + 1 + (place - last).toNat) := (Nat.pow_add 2 (mag.log2 + 1) _).symm
          _ ≤ 2 ^ (f.fractionBits + 1) := Nat.pow_le_pow_right (by omega) (by omega)
          _ = 2 * f.binade := by unfold Format.binade; rw [Nat.pow_succ, Nat.mul_comm]
      · rcases hl2 with h | h
        · left; omega
        · right
          rw [Nat.pow_zero, Nat.mul_one]
          calc f.binade = 2 ^ f.fractionBits := rfl
            _ = 2 ^ (mag.log2 + (place - last).toNat) := by congr 1; omega
            _ = 2 ^ mag.log2 * 2 ^ (place - last).toNat := by rw [Nat.pow_add]
            _ ≤ mag * 2 ^ (place - last).toNat := Nat.mul_le_mul_right _ m2
    · have e1 : (place - last).toNat = 0 := by omega
      rw [e1, Nat.pow_zero, Nat.mul_one]
      have hk := cut_even neg mag (last - place).toNat
      refine rne_of_cut hp hD (Nat.two_pow_pos _) ?_ hk ?_ ?_
      · rw [Nat.mul_assoc, Nat.mul_assoc, ← Nat.pow_add, ← Nat.pow_add]
        congr 2; omega
      · calc mag < 2 ^ (mag.log2 + 1) := m1
          _ ≤ 2 ^ (f.fractionBits + 1 + (last - place).toNat) := Nat.pow_le_pow_right (by omega) (by omega)
          _ = 2 * f.binade * 2 ^ (last - place).toNat := by rw [Nat.pow_add, Nat.pow_succ, Nat.mul_comm 2]; rfl
      · rcases hl2 with h | h
        · left; omega
        · right
          calc f.binade * 2 ^ (last - place).toNat = 2 ^ (f.fractionBits + (last - place).toNat) := by rw [Nat.pow_add]; rfl
            _ = 2 ^ mag.log2 := by congr 1; omega
            _ ≤ mag := m2
end Fl
namespace Fl
open Ieee

/-- A format with at least two bits of each field. -/
structure Ok (f : Format) : Prop where
  hp : 2 ≤ f.fractionBits
  he : 2 ≤ f.exponentBits
theorem ok_double : Ok double := ⟨by decide, by decide⟩
theorem ok_single : Ok single := ⟨by decide, by decide⟩

/-- The rung and the sign of a word. -/
def rung (f : Format) (x : Nat) : Nat := x % f.signWeight
def sgn (f : Format) (x : Nat) : Bool := x / f.signWeight % 2 == 1
def fin (f : Format) (x : Nat) : Prop := rung f x < f.infRung
/-- A finite word's value, in units of the least place. -/
def sval (f : Format) (x : Nat) : Int := if sgn f x then -(val f (rung f x) : Int) else (val f (rung f x) : Int)

theorem signWeight_pos (f : Format) : 0 < f.signWeight := Nat.two_pow_pos _
theorem width_two (f : Format) : 2 ^ f.width = 2 * f.signWeight := by
  unfold Format.width Format.signWeight
  rw [Nat.add_assoc, Nat.add_comm 1, Nat.pow_succ, Nat.mul_comm]

theorem infRung_add (f : Format) : f.infRung + f.binade = f.signWeight := by
  have h : 0 < 2 ^ f.exponentBits := Nat.two_pow_pos _
  unfold Format.infRung Format.signWeight
  rw [Nat.pow_add, ← Nat.succ_mul]
  exact congrArg (· * f.binade) (by omega)

theorem infRung_lt (f : Format) : f.infRung < f.signWeight := by
  have := infRung_add f; have := binade_pos f; omega

theorem binade_le_inf {f : Format} (ok : Ok f) : 3 * f.binade ≤ f.infRung := by
  have : 4 ≤ 2 ^ f.exponentBits := by
    calc 4 = 2 ^ 2 := rfl
      _ ≤ 2 ^ f.exponentBits := Nat.pow_le_pow_right (by omega) ok.he
  exact Nat.mul_le_mul_right f.binade (show 3 ≤ 2 ^ f.exponentBits - 1 by omega)

theorem rung_lt (f : Format) (x : Nat) : rung f x < f.signWeight := Nat.mod_lt _ (signWeight_pos f)

theorem rung_word {f : Format} (s : Bool) {r : Nat} (h : r < f.signWeight) : rung f (f.word s r) = r := by
  unfold rung Format.word
  cases s
  · simp [Nat.mod_eq_of_lt h]
  · simp [Nat.mod_eq_of_lt h]

theorem sgn_word {f : Format} (s : Bool) {r : Nat} (h : r < f.signWeight) : sgn f (f.word s r) = s := by
  have := signWeight_pos f
  unfold sgn Format.word
  cases s
  · simp [Nat.div_eq_of_lt h]
  · simp [Nat.add_div_left, this, Nat.div_eq_of_lt h]

theorem word_lt {f : Format} (s : Bool) {r : Nat} (h : r < f.signWeight) : f.word s r < 2 ^ f.width := by
  rw [width_two]; unfold Format.word; cases s <;> simp <;> omega

theorem word_split {f : Format} {x : Nat} (h : x < 2 ^ f.width) : x = f.word (sgn f x) (rung f x) := by
  have hp := signWeight_pos f
  rw [width_two] at h
  have hd := Nat.div_add_mod x f.signWeight
  have hlt : x / f.signWeight < 2 := by
    rw [Nat.div_lt_iff_lt_mul hp]; omega
  unfold sgn rung Format.word
  generalize x / f.signWeight = q at *
  rcases (show q = 0 ∨ q = 1 by omega) with rfl | rfl
  · simp; omega
  · simp; omega

theorem word_inj {f : Format} {x y : Nat} (hx : x < 2 ^ f.width) (hy : y < 2 ^ f.width) (hs : sgn f x = sgn f y) (hr : rung f x = rung f y) : x = y := by
  rw [word_split hx, word_split hy, hs, hr]

theorem read_eq (f : Format) (x : Nat) : f.read x = (if rung f x < f.binade then Datum.number (sgn f x) (rung f x) f.leastPlace
    else if rung f x < f.infRung then Datum.number (sgn f x) (f.binade + rung f x % f.binade) (f.leastPlace + (rung f x / f.binade - 1 : Nat))
    else if rung f x = f.infRung then Datum.infinity (sgn f x) else Datum.nan (sgn f x) (rung f x - f.infRung)) := rfl

/-- A finite word reads as a number of its value. -/
theorem read_fin {f : Format} {x : Nat} (h : fin f x) : ∃ m e, f.read x = .number (sgn f x) m e ∧ f.leastPlace ≤ e ∧ m * 2 ^ (e - f.leastPlace).toNat = val f (rung f x) := by
  unfold fin at h
  rw [read_eq]
  by_cases h1 : rung f x < f.binade
  · refine ⟨rung f x, f.leastPlace, by rw [if_pos h1], Int.le_refl _, ?_⟩
    rw [val_small h1]; simp
  · refine ⟨_, _, by rw [if_neg h1, if_pos h], by omega, ?_⟩
    unfold val
    rw [if_neg h1]
    congr 2
    omega

theorem read_inf {f : Format} (ok : Ok f) {x : Nat} (h : rung f x = f.infRung) : f.read x = .infinity (sgn f x) := by
  have h1 := binade_le_inf ok
  have h2 := binade_pos f
  rw [read_eq, if_neg (by omega), if_neg (by omega), if_pos h]

theorem read_nan {f : Format} (ok : Ok f) {x : Nat} (h : f.infRung < rung f x) : f.read x = .nan (sgn f x) (rung f x - f.infRung) := by
  have h1 := binade_le_inf ok
  have h2 := binade_pos f
  rw [read_eq, if_neg (by omega), if_neg (by omega), if_neg (by omega)]

/-- The three kinds of words. -/
theorem kinds (f : Format) (x : Nat) : fin f x ∨ rung f x = f.infRung ∨ f.infRung < rung f x := by unfold fin; omega

def isNaN (f : Format) (x : Nat) : Bool := decide (f.infRung < rung f x)
def isInf (f : Format) (x : Nat) : Bool := decide (rung f x = f.infRung)
def isFin (f : Format) (x : Nat) : Bool := decide (rung f x < f.infRung)

theorem isNaN_read {f : Format} (ok : Ok f) (x : Nat) : (f.read x).isNaN = isNaN f x := by
  unfold isNaN
  rcases kinds f x with h | h | h
  · obtain ⟨m, e, hr, _⟩ := read_fin h
    rw [hr]; unfold fin at h
    have : ¬ f.infRung < rung f x := by omega
    simp [Datum.isNaN, this]
  · rw [read_inf ok h]; simp [Datum.isNaN, h]
  · rw [read_nan ok h]; simp [Datum.isNaN, h]

theorem signed_eq (s : Bool) (m up : Nat) : signed s m up = if s then -((m * 2 ^ up : Nat) : Int) else ((m * 2 ^ up : Nat) : Int) := by
  unfold signed; rw [Nat.shiftLeft_eq]

theorem sval_eq {f : Format} {x m : Nat} {e base : Int} (hb : f.leastPlace ≤ base) (he : base ≤ e) (h : m * 2 ^ (e - f.leastPlace).toNat = val f (rung f x)) :
    signed (sgn f x) m (e - base).toNat * (2 : Int) ^ (base - f.leastPlace).toNat = sval f x := by
  have h1 : (e - f.leastPlace).toNat = (e - base).toNat + (base - f.leastPlace).toNat := by omega
  rw [h1, Nat.pow_add, ← Nat.mul_assoc] at h
  rw [signed_eq, sval, ← h]
  cases sgn f x
  · simp
  · simp [Int.neg_mul]

/-- 'b' is 'N / D' with a sign, rounded. -/
def Rounds (f : Format) (s : Bool) (N D b : Nat) : Prop := ∃ r, Rne f N D r ∧ b = f.word s (min r f.infRung)

theorem Rounds.congr {f : Format} {s : Bool} {N D N' D' b b' : Nat} (hD : 0 < D) (hD' : 0 < D') (e : N * D' = N' * D) (h : Rounds f s N D b) (h' : Rounds f s N' D' b') : b = b' := by
  obtain ⟨r, h1, rfl⟩ := h
  obtain ⟨r', h1', rfl⟩ := h'
  rw [h1.congr hD hD' e h1']

theorem Rounds.lt {f : Format} {s : Bool} {N D b : Nat} (h : Rounds f s N D b) : b < 2 ^ f.width := by
  obtain ⟨r, _, rfl⟩ := h
  have := infRung_lt f
  exact word_lt s (by omega)

theorem Rounds.sgn {f : Format} {s : Bool} {N D b : Nat} (h : Rounds f s N D b) : Fl.sgn f b = s := by
  obtain ⟨r, _, rfl⟩ := h
  have := infRung_lt f
  exact sgn_word s (by omega)

theorem Rounds.rung {f : Format} {s : Bool} {N D b : Nat} (h : Rounds f s N D b) : ∃ r, Rne f N D r ∧ Fl.rung f b = min r f.infRung := by
  obtain ⟨r, h1, rfl⟩ := h
  have := infRung_lt f
  exact ⟨r, h1, rung_word s (by omega)⟩

theorem nearest_rounds {f : Format} (ok : Ok f) (neg : Bool) (mag : Nat) (place : Int) :
    Rounds f neg (mag * 2 ^ (place - f.leastPlace).toNat) (2 ^ (f.leastPlace - place).toNat) (f.nearest neg mag place) :=
  ⟨_, rungOf_rne (by have := ok.hp; omega) neg mag place, nearest_eq f neg mag place⟩

theorem natAbs_mul_pow (a : Int) (k : Nat) : (a * (2 : Int) ^ k).natAbs = a.natAbs * 2 ^ k := by
  rw [Int.natAbs_mul, Int.natAbs_pow]; rfl

/-- THE SUM of two finite words: the exact sum, rounded once. -/
theorem add_fin {f : Format} (ok : Ok f) {x y : Nat} (hx : fin f x) (hy : fin f y) :
    ∃ b, f.add x y = some b ∧ Rounds f (if sval f x + sval f y = 0 then sgn f x && sgn f y else decide (sval f x + sval f y < 0)) (sval f x + sval f y).natAbs 1 b := by
  obtain ⟨m, i, hrx, hi, hvx⟩ := read_fin hx
  obtain ⟨n, j, hry, hj, hvy⟩ := read_fin hy
  refine ⟨_, by rw [Format.add, hrx, hry]; rfl, ?_⟩
  have hb : f.leastPlace ≤ min i j := by omega
  have e1 := sval_eq (x := x) hb (Int.min_le_left i j) hvx
  have e2 := sval_eq (x := y) hb (Int.min_le_right i j) hvy
  have hsum : (signed (sgn f x) m (i - min i j).toNat + signed (sgn f y) n (j - min i j).toNat) * (2 : Int) ^ (min i j - f.leastPlace).toNat = sval f x + sval f y := by
    rw [Int.add_mul, e1, e2]
  generalize signed (sgn f x) m (i - min i j).toNat + signed (sgn f y) n (j - min i j).toNat = T at *
  have hpos : (0 : Int) < (2 : Int) ^ (min i j - f.leastPlace).toNat := Int.pow_pos (by omega)
  have hz : (T = 0) ↔ (sval f x + sval f y = 0) := by
    rw [← hsum]; constructor
    · intro h; rw [h, Int.zero_mul]
    · intro h; rcases Int.mul_eq_zero.1 h with h | h
      · exact h
      · omega
  have hn : (T < 0) ↔ (sval f x + sval f y < 0) := by
    rw [← hsum]; constructor
    · intro h; exact Int.mul_neg_of_neg_of_pos h hpos
    · intro h; refine Int.lt_of_not_ge fun h' => ?_
      have := Int.mul_nonneg h' (Int.le_of_lt hpos); omega
  have hr := nearest_rounds ok (if T = 0 then sgn f x && sgn f y else decide (T < 0)) T.natAbs (min i j)
  have e3 : (f.leastPlace - min i j).toNat = 0 := by omega
  rw [e3, ← natAbs_mul_pow, hsum] at hr
  simp only [hz, hn] at hr
  simp only [Format.write, hz, hn]
  exact hr
end Fl
namespace Fl
open Ieee

/-- A word with its sign bit turned. -/
def flip (f : Format) (x : Nat) : Nat := x ^^^ f.signWeight

theorem flip_eq {f : Format} {x : Nat} (h : x < 2 ^ f.width) : flip f x = f.word (!sgn f x) (rung f x) := by
  have e1 : flip f x / f.signWeight = x / f.signWeight ^^^ 1 := by
    unfold flip
    have := Nat.xor_div_two_pow (a := x) (b := f.signWeight) (n := f.exponentBits + f.fractionBits)
    unfold Format.signWeight at *
    rw [this, Nat.div_self (Nat.two_pow_pos _)]
  have e2 : flip f x % f.signWeight = x % f.signWeight := by
    unfold flip
    have := Nat.xor_mod_two_pow (a := x) (b := f.signWeight) (n := f.exponentBits + f.fractionBits)
    unfold Format.signWeight at *
    rw [this, Nat.mod_self, Nat.xor_zero]
  have hlt : flip f x < 2 ^ f.width := by
    refine Nat.xor_lt_two_pow h ?_
    rw [width_two]; have := signWeight_pos f; omega
  rw [word_split hlt]
  have hx : x / f.signWeight < 2 := by
    rw [Nat.div_lt_iff_lt_mul (signWeight_pos f), ← width_two]; exact h
  have s1 : sgn f (flip f x) = !sgn f x := by
    unfold sgn
    rw [e1]
    generalize x / f.signWeight = q at *
    rcases (show q = 0 ∨ q = 1 by omega) with rfl | rfl <;> decide
  rw [s1]
  unfold rung
  rw [e2]

theorem flip_lt {f : Format} {x : Nat} (h : x < 2 ^ f.width) : flip f x < 2 ^ f.width := by
  rw [flip_eq h]; exact word_lt _ (rung_lt f x)
theorem rung_flip {f : Format} {x : Nat} (h : x < 2 ^ f.width) : rung f (flip f x) = rung f x := by
  rw [flip_eq h, rung_word _ (rung_lt f x)]
theorem sgn_flip {f : Format} {x : Nat} (h : x < 2 ^ f.width) : sgn f (flip f x) = !sgn f x := by
  rw [flip_eq h, sgn_word _ (rung_lt f x)]
theorem flip_flip (f : Format) (x : Nat) : flip f (flip f x) = x := by
  unfold flip; rw [Nat.xor_assoc, Nat.xor_self, Nat.xor_zero]
theorem sval_flip {f : Format} {x : Nat} (h : x < 2 ^ f.width) : sval f (flip f x) = -sval f x := by
  unfold sval; rw [sgn_flip h, rung_flip h]; cases sgn f x <;> simp

theorem read_flip {f : Format} {x : Nat} (h : x < 2 ^ f.width) : f.read (flip f x) = (f.read x).opposite := by
  rw [read_eq, read_eq, rung_flip h, sgn_flip h]
  split
  · rfl
  · split
    · rfl
    · split <;> rfl

/-- A difference is a sum with the opposite. -/
theorem sub_eq {f : Format} {x y : Nat} (hy : y < 2 ^ f.width) : f.sub x y = f.add x (flip f y) := by
  unfold Format.sub Format.add
  rw [read_flip hy]

theorem least_le {f : Format} (ok : Ok f) : f.leastPlace ≤ 0 := by
  have h := ok.he
  unfold Format.leastPlace
  have : 2 ≤ (2 : Int) ^ (f.exponentBits - 1) := by
    obtain ⟨k, hk⟩ : ∃ k, f.exponentBits - 1 = k + 1 := ⟨f.exponentBits - 2, by omega⟩
    rw [hk, Int.pow_succ]
    have : (0 : Int) < 2 ^ k := Int.pow_pos (by omega)
    omega
  omega

/-- Units in one. -/
def one_ (f : Format) : Nat := 2 ^ (-f.leastPlace).toNat
theorem one_pos (f : Format) : 0 < one_ f := Nat.two_pow_pos _

theorem Rne.of_eq {f : Format} {N D N' D' r : Nat} (hD : 0 < D) (hD' : 0 < D') (e : N * D' = N' * D) (h : Rne f N D r) : Rne f N' D' r := by
  rw [← Rne.scale D hD, ← e, Nat.mul_comm D' D, Rne.scale D' hD']
  exact h

theorem Rounds.of_eq {f : Format} {s : Bool} {N D N' D' b : Nat} (hD : 0 < D) (hD' : 0 < D') (e : N * D' = N' * D) (h : Rounds f s N D b) : Rounds f s N' D' b := by
  obtain ⟨r, h1, h2⟩ := h
  exact ⟨r, h1.of_eq hD hD' e, h2⟩

/-- THE PRODUCT of two finite words: the exact product, rounded once. -/
theorem mul_fin {f : Format} (ok : Ok f) {x y : Nat} (hx : fin f x) (hy : fin f y) :
    ∃ b, f.mul x y = some b ∧ Rounds f (sgn f x ^^ sgn f y) (val f (rung f x) * val f (rung f y)) (one_ f) b := by
  obtain ⟨m, i, hrx, hi, hvx⟩ := read_fin hx
  obtain ⟨n, j, hry, hj, hvy⟩ := read_fin hy
  refine ⟨_, by rw [Format.mul, hrx, hry]; rfl, ?_⟩
  have hr := nearest_rounds ok (sgn f x ^^ sgn f y) (m * n) (i + j)
  have hl := least_le ok
  refine hr.of_eq (Nat.two_pow_pos _) (one_pos f) ?_
  rw [← hvx, ← hvy]
  unfold one_
  generalize f.leastPlace = L at *
  have e1 : m * 2 ^ (i - L).toNat * (n * 2 ^ (j - L).toNat) * 2 ^ (L - (i + j)).toNat = m * n * 2 ^ ((i - L).toNat + (j - L).toNat + (L - (i + j)).toNat) := by
    rw [Nat.pow_add, Nat.pow_add]
    ac_rfl
  have e2 : m * n * 2 ^ (i + j - L).toNat * 2 ^ (-L).toNat = m * n * 2 ^ ((i + j - L).toNat + (-L).toNat) := by
    rw [Nat.pow_add]; ac_rfl
  rw [e1, e2]
  congr 2
  omega

/-- The two neighbours' sum is a number of few digits times a power of two. -/
theorem mid_form (f : Format) (r : Nat) : ∃ c e, val f r + val f (r + 1) = c * 2 ^ e ∧ c < 4 * f.binade := by
  rw [val_succ]
  rcases rung_cases f r with h | ⟨q, m, hm, rfl⟩
  · refine ⟨2 * r + 1, 0, ?_, by omega⟩
    rw [val_small h, gap_small h]; omega
  · refine ⟨2 * (f.binade + m) + 1, q, ?_, by omega⟩
    rw [val_mul_add hm, gap_mul_add hm, Nat.add_mul (2 * (f.binade + m)), Nat.one_mul, Nat.mul_assoc]; omega

/-- A quotient cut off, with one digit more that tells whether anything was left, is rounded as the quotient itself. -/
theorem rne_sticky {f : Format} {A n a b r : Nat} (hn : 0 < n) (hq : 2 * f.binade ≤ A / n)
    (h : Rne f ((2 * (A / n) + (A % n != 0).toNat) * 2 ^ a) (2 * 2 ^ b) r) : Rne f (A * 2 ^ a) (n * 2 ^ b) r := by
  have hd := Nat.div_add_mod A n
  have hm := Nat.mod_lt A hn
  have hst : (A % n != 0).toNat = if A % n = 0 then 0 else 1 := by by_cases h0 : A % n = 0 <;> simp [h0]
  rw [hst] at h
  have ha := Nat.two_pow_pos a
  have hb := Nat.two_pow_pos b
  -- at each sum of neighbours the two stand alike
  have key : ∀ c e : Nat, c < 4 * f.binade →
      (2 * ((2 * (A / n) + if A % n = 0 then 0 else 1) * 2 ^ a) < c * 2 ^ e * (2 * 2 ^ b) → 2 * (A * 2 ^ a) < c * 2 ^ e * (n * 2 ^ b)) ∧
      (2 * ((2 * (A / n) + if A % n = 0 then 0 else 1) * 2 ^ a) = c * 2 ^ e * (2 * 2 ^ b) → 2 * (A * 2 ^ a) = c * 2 ^ e * (n * 2 ^ b)) ∧
      (c * 2 ^ e * (2 * 2 ^ b) < 2 * ((2 * (A / n) + if A % n = 0 then 0 else 1) * 2 ^ a) → c * 2 ^ e * (n * 2 ^ b) < 2 * (A * 2 ^ a)) := by
    intro c e hc
    generalize hQ : A / n = Q at *
    generalize hR : A % n = R at *
    have hA : A = n * Q + R := hd.symm
    have hsle : (if R = 0 then 0 else 1) ≤ 1 := by split <;> omega
    by_cases hbig : e + b ≤ a
    · -- the sum lies below both
      have l1 : c * 2 ^ e * 2 ^ b < 4 * f.binade * 2 ^ a := by
        rw [Nat.mul_assoc, ← Nat.pow_add]
        exact Nat.lt_of_lt_of_le (Nat.mul_lt_mul_of_pos_right hc (Nat.two_pow_pos _)) (Nat.mul_le_mul_left _ (Nat.pow_le_pow_right (by omega) hbig))
      have l2 : 4 * f.binade * 2 ^ a ≤ 2 * Q * 2 ^ a := Nat.mul_le_mul_right _ (by omega)
      have l3 : c * 2 ^ e * (2 * 2 ^ b) < 2 * ((2 * Q + if R = 0 then 0 else 1) * 2 ^ a) := by
        have : c * 2 ^ e * (2 * 2 ^ b) = 2 * (c * 2 ^ e * 2 ^ b) := by ac_rfl
        rw [this, Nat.add_mul]
        omega
      have l4 : c * 2 ^ e * (n * 2 ^ b) < 2 * (A * 2 ^ a) := by
        have e1 : c * 2 ^ e * (n * 2 ^ b) = n * (c * 2 ^ e * 2 ^ b) := by ac_rfl
        have e2 : n * (2 * Q * 2 ^ a) ≤ 2 * (A * 2 ^ a) := by
          have : n * (2 * Q * 2 ^ a) = 2 * ((n * Q) * 2 ^ a) := by ac_rfl
          rw [this, hA]
          exact Nat.mul_le_mul_left _ (Nat.mul_le_mul_right _ (by omega))
        rw [e1]
        exact Nat.lt_of_lt_of_le (Nat.mul_lt_mul_of_pos_left (Nat.lt_of_lt_of_le l1 l2) hn) e2
      exact ⟨fun h => by omega, fun h => by omega, fun _ => l4⟩
    · -- it is a whole number of units
      obtain ⟨k, hk⟩ : ∃ k, e + b = a + 1 + k := ⟨e + b - (a + 1), by omega⟩
      have ht : c * 2 ^ e * 2 ^ b = 2 * (c * 2 ^ k) * 2 ^ a := by
        rw [Nat.mul_assoc, ← Nat.pow_add, hk, Nat.pow_add, Nat.pow_succ]; ac_rfl
      generalize c * 2 ^ k = T at ht
      have t1 : c * 2 ^ e * (2 * 2 ^ b) = 2 * (2 * T * 2 ^ a) := by rw [← ht]; ac_rfl
      have t2 : c * 2 ^ e * (n * 2 ^ b) = 2 * (n * T * 2 ^ a) := by
        have : c * 2 ^ e * (n * 2 ^ b) = n * (c * 2 ^ e * 2 ^ b) := by ac_rfl
        rw [this, ht]; ac_rfl
      rw [t1, t2]
      have c1 : ∀ u v : Nat, 2 * (u * 2 ^ a) < 2 * (v * 2 ^ a) ↔ u < v := fun u v => by
        rw [Nat.mul_lt_mul_left (by omega)]; exact Nat.mul_lt_mul_right ha
      have c2 : ∀ u v : Nat, 2 * (u * 2 ^ a) = 2 * (v * 2 ^ a) ↔ u = v := fun u v => by
        rw [Nat.mul_right_inj (by omega)]; exact Nat.mul_left_inj (by omega)
      rw [c1, c2, c1, c1, c2, c1, hA]
      have lt_or : ∀ u v : Nat, u < v → n * u + n ≤ n * v := fun u v h => by
        rw [← Nat.mul_succ]; exact Nat.mul_le_mul_left _ h
      refine ⟨fun h => ?_, fun h => ?_, fun h => ?_⟩
      · have := lt_or Q T (by omega); omega
      · by_cases hR0 : R = 0
        · rw [if_pos hR0] at h; have : Q = T := by omega
          rw [hR0, this]; omega
        · rw [if_neg hR0] at h; omega
      · by_cases hQT : T < Q
        · have := lt_or T Q hQT; omega
        · by_cases hR0 : R = 0
          · rw [if_pos hR0] at h; omega
          · have : Q = T := by rw [if_neg hR0] at h; omega
            rw [this]; omega
  constructor
  · obtain ⟨c, e, hS, hc⟩ := mid_form f r
    have k := key c e hc
    have h1 := h.1
    rw [hS] at h1 ⊢
    rcases h1 with h1 | ⟨h1, hp⟩
    · exact .inl (k.1 h1)
    · exact .inr ⟨k.2.1 h1, hp⟩
  · rintro q rfl
    obtain ⟨c, e, hS, hc⟩ := mid_form f q
    have k := key c e hc
    have h1 := h.2 q rfl
    rw [hS] at h1 ⊢
    rcases h1 with h1 | ⟨h1, hp⟩
    · exact .inl (k.2.2 h1)
    · exact .inr ⟨(k.2.1 h1.symm).symm, hp⟩

/-- THE QUOTIENT of two finite words, the second not 0: the exact quotient, rounded once. -/
theorem div_fin {f : Format} (ok : Ok f) {x y : Nat} (hx : fin f x) (hy : fin f y) (h0 : rung f y ≠ 0) :
    ∃ b, f.div x y = some b ∧ Rounds f (sgn f x ^^ sgn f y) (val f (rung f x) * one_ f) (val f (rung f y)) b := by
  obtain ⟨m, i, hrx, hi, hvx⟩ := read_fin hx
  obtain ⟨n, j, hry, hj, hvy⟩ := read_fin hy
  have hvpos : 0 < val f (rung f y) := by have := le_val f (rung f y); omega
  have hn : n ≠ 0 := by
    intro h; rw [h, Nat.zero_mul] at hvy; omega
  have hnp : 0 < n := by omega
  refine ⟨_, by rw [Format.div, hrx, hry]; simp only [Datum.quotient, hn, if_false]; rfl, ?_⟩
  have hl := least_le ok
  generalize hmore : f.fractionBits + 2 + n.log2 - m.log2 = more
  rw [Nat.shiftLeft_eq]
  generalize hA : m * 2 ^ more = A
  obtain ⟨r, hrne, hb⟩ := nearest_rounds ok (sgn f x ^^ sgn f y) (2 * (A / n) + (A % n != 0).toNat) (i - j - more - 1)
  refine ⟨r, ?_, hb⟩
  by_cases hm0 : m = 0
  · subst hm0
    have hA0 : A = 0 := by rw [← hA, Nat.zero_mul]
    subst hA0
    rw [Nat.zero_mul] at hvx
    rw [← hvx]
    refine Rne.of_eq (Nat.two_pow_pos _) hvpos ?_ hrne
    simp
  · -- the digits suffice
    have hq : 2 * f.binade ≤ A / n := by
      rw [Nat.le_div_iff_mul_le hnp, ← hA]
      have m1 : 2 ^ m.log2 ≤ m := Nat.log2_self_le hm0
      have n1 : n < 2 ^ (n.log2 + 1) := Nat.lt_log2_self
      calc 2 * f.binade * n ≤ 2 * f.binade * 2 ^ (n.log2 + 1) := Nat.mul_le_mul_left _ (Nat.le_of_lt n1)
        _ = 2 ^ (f.fractionBits + 2 + n.log2) := by
          unfold Format.binade
          rw [show f.fractionBits + 2 + n.log2 = 1 + f.fractionBits + (n.log2 + 1) from by omega, Nat.pow_add 2 (1 + f.fractionBits), Nat.pow_add 2 1]
        _ ≤ 2 ^ (m.log2 + more) := Nat.pow_le_pow_right (by omega) (by omega)
        _ = 2 ^ m.log2 * 2 ^ more := Nat.pow_add _ _ _
        _ ≤ m * 2 ^ more := Nat.mul_le_mul_right _ m1
    generalize hL : f.leastPlace = L at *
    -- the word's place as two powers
    have hrne2 : Rne f ((2 * (A / n) + (A % n != 0).toNat) * 2 ^ (i - j - more - L).toNat) (2 * 2 ^ (L - (i - j - more)).toNat) r := by
      refine Rne.of_eq (Nat.two_pow_pos _) (Nat.mul_pos (by omega) (Nat.two_pow_pos _)) ?_ hrne
      generalize 2 * (A / n) + (A % n != 0).toNat = G
      have e1 : G * 2 ^ (i - j - more - 1 - L).toNat * (2 * 2 ^ (L - (i - j - more)).toNat) = G * 2 ^ ((i - j - more - 1 - L).toNat + (1 + (L - (i - j - more)).toNat)) := by
        rw [Nat.pow_add, Nat.pow_add, Nat.pow_one]; ac_rfl
      have e2 : G * 2 ^ (i - j - more - L).toNat * 2 ^ (L - (i - j - more - 1)).toNat = G * 2 ^ ((i - j - more - L).toNat + (L - (i - j - more - 1)).toNat) := by
        rw [Nat.pow_add]; ac_rfl
      rw [e1, e2]
      congr 2
      omega
    have h3 := rne_sticky hnp hq hrne2
    refine Rne.of_eq (Nat.mul_pos hnp (Nat.two_pow_pos _)) hvpos ?_ h3
    rw [← hvx, ← hvy, ← hA]
    unfold one_
    rw [hL]
    have e1 : m * 2 ^ more * 2 ^ (i - j - more - L).toNat * (n * 2 ^ (j - L).toNat) = m * n * 2 ^ (more + (i - j - more - L).toNat + (j - L).toNat) := by
      rw [Nat.pow_add, Nat.pow_add]; ac_rfl
    have e2 : m * 2 ^ (i - L).toNat * 2 ^ (-L).toNat * (n * 2 ^ (L - (i - j - more)).toNat) = m * n * 2 ^ ((i - L).toNat + (-L).toNat + (L - (i - j - more)).toNat) := by
      rw [Nat.pow_add, Nat.pow_add]; ac_rfl
    rw [e1, e2]
    congr 2
    omega
end Fl
namespace Fl
open Ieee Go

theorem ok_kind (k : FloatKind) : Ok k.format := by cases k; exact ok_single; exact ok_double

/-- The one NaN. -/
def qn (k : FloatKind) : Nat := k.format.infRung + 1
/-- A word, all NaNs being one. -/
def cn (k : FloatKind) (x : Nat) : Nat := if isNaN k.format x then qn k else x

theorem isNaN_qn (k : FloatKind) : isNaN k.format (qn k) = true := by cases k <;> decide
theorem qn_lt (k : FloatKind) : qn k < 2 ^ k.format.width := by cases k <;> decide
theorem cn_of_nan {k : FloatKind} {x : Nat} (h : isNaN k.format x = true) : cn k x = qn k := by simp [cn, h]
theorem cn_of_not {k : FloatKind} {x : Nat} (h : isNaN k.format x = false) : cn k x = x := by simp [cn, h]
theorem cn_cn (k : FloatKind) (x : Nat) : cn k (cn k x) = cn k x := by
  by_cases h : isNaN k.format x = true
  · rw [cn_of_nan h, cn_of_nan (isNaN_qn k)]
  · have h' : isNaN k.format x = false := by simpa using h
    rw [cn_of_not h', cn_of_not h']
theorem isNaN_cn (k : FloatKind) (x : Nat) : isNaN k.format (cn k x) = isNaN k.format x := by
  by_cases h : isNaN k.format x = true
  · rw [cn_of_nan h, isNaN_qn, h]
  · rw [cn_of_not (by simpa using h)]
theorem cn_lt {k : FloatKind} {x : Nat} (h : x < 2 ^ k.format.width) : cn k x < 2 ^ k.format.width := by
  unfold cn; split
  · exact qn_lt k
  · exact h
/-- Two words are one up to NaN just if their bits are the same, or both are NaN. -/
theorem cn_eq_iff {k : FloatKind} {x y : Nat} : cn k x = cn k y ↔ x = y ∨ (isNaN k.format x = true ∧ isNaN k.format y = true) := by
  by_cases hx : isNaN k.format x = true <;> by_cases hy : isNaN k.format y = true
  · simp [cn_of_nan hx, cn_of_nan hy, hx, hy]
  · rw [cn_of_nan hx, cn_of_not (by simpa using hy)]
    constructor
    · intro h; rw [← h, isNaN_qn] at hy; simp at hy
    · rintro (rfl | ⟨_, h⟩)
      · exact absurd hx hy
      · exact absurd h hy
  · rw [cn_of_nan hy, cn_of_not (by simpa using hx)]
    constructor
    · intro h; rw [h, isNaN_qn] at hx; simp at hx
    · rintro (rfl | ⟨h, _⟩)
      · exact absurd hy hx
      · exact absurd h hx
  · rw [cn_of_not (by simpa using hx), cn_of_not (by simpa using hy)]
    simp [hx]

/-- A NaN reads as a NaN; else a word and its canonical one are one. -/
theorem read_cn_cases (k : FloatKind) (x : Nat) : cn k x = x ∨ (∃ s t s' t', k.format.read x = .nan s t ∧ k.format.read (cn k x) = .nan s' t') := by
  by_cases h : isNaN k.format x = true
  · right
    have h1 := read_nan (ok_kind k) (x := x) (by simpa [isNaN] using h)
    have h2 := read_nan (ok_kind k) (x := cn k x) (by have := isNaN_cn k x; rw [h] at this; simpa [isNaN] using this)
    exact ⟨_, _, _, _, h1, h2⟩
  · left; exact cn_of_not (by simpa using h)

theorem sum_nan_l (s t d) : Datum.sum (.nan s t) d = none := by simp [Datum.sum]
theorem sum_nan_r (s t d) : Datum.sum d (.nan s t) = none := by cases d <;> simp [Datum.sum]
theorem product_nan_l (s t d) : Datum.product (.nan s t) d = none := by simp [Datum.product]
theorem product_nan_r (s t d) : Datum.product d (.nan s t) = none := by cases d <;> simp [Datum.product]
theorem quotient_nan_l (g s t d) : Datum.quotient g (.nan s t) d = none := by simp [Datum.quotient]
theorem quotient_nan_r (g s t d) : Datum.quotient g d (.nan s t) = none := by cases d <;> simp [Datum.quotient]

/-- An operation hangs on its operands up to NaN. -/
theorem floatBits_cn (op : BinOp) (k : FloatKind) (x y : Nat) : floatBits op k (cn k x) (cn k y) = floatBits op k x y := by
  have hx := read_cn_cases k x
  have hy := read_cn_cases k y
  rcases hx with hx | ⟨s, t, s', t', h1, h2⟩
  · rcases hy with hy | ⟨s, t, s', t', h1, h2⟩
    · rw [hx, hy]
    · rw [hx]
      cases op <;> simp only [floatBits, Format.add, Format.sub, Format.mul, Format.div, h1, h2, Datum.opposite, sum_nan_r, product_nan_r, quotient_nan_r]
  · cases op <;> simp only [floatBits, Format.add, Format.sub, Format.mul, Format.div, h1, h2, sum_nan_l, product_nan_l, quotient_nan_l]

/-- The operation as a function, the one NaN where it has no answer. -/
def fop (op : BinOp) (k : FloatKind) (x y : Nat) : Nat := (floatBits op k x y).getD (qn k)

theorem fop_cn (op : BinOp) (k : FloatKind) (x y : Nat) : fop op k (cn k x) (cn k y) = fop op k x y := by
  unfold fop; rw [floatBits_cn]

theorem nearest_not_nan (k : FloatKind) (s : Bool) (m : Nat) (e : Int) : isNaN k.format (k.format.nearest s m e) = false := by
  obtain ⟨r, _, h⟩ := (nearest_rounds (ok_kind k) s m e).rung
  simp [isNaN, h]; omega

theorem write_not_nan (k : FloatKind) {d : Datum} (h : d.isNaN = false) : isNaN k.format (k.format.write d) = false := by
  cases d with
  | number s m e => exact nearest_not_nan k s m e
  | infinity s =>
    have := infRung_lt k.format
    simp [Format.write, isNaN, rung_word s this]
  | nan s t => simp [Datum.isNaN] at h

theorem sum_not_nan {a b d : Datum} (h : a.sum b = some d) : d.isNaN = false := by
  cases a <;> cases b <;> simp [Datum.sum] at h
  · subst h; rfl
  · subst h; rfl
  · subst h; rfl
  · obtain ⟨_, rfl⟩ := h; rfl
theorem product_not_nan {a b d : Datum} (h : a.product b = some d) : d.isNaN = false := by
  cases a <;> cases b <;> simp [Datum.product] at h
  · subst h; rfl
  · obtain ⟨_, rfl⟩ := h; rfl
  · obtain ⟨_, rfl⟩ := h; rfl
  · subst h; rfl
theorem quotient_not_nan {g : Nat} {a b d : Datum} (h : Datum.quotient g a b = some d) : d.isNaN = false := by
  cases a with
  | nan => simp [quotient_nan_l] at h
  | infinity s =>
    cases b with
    | nan => simp [quotient_nan_r] at h
    | infinity t => simp [Datum.quotient] at h
    | number t n j => simp [Datum.quotient] at h; subst h; rfl
  | number s m i =>
    cases b with
    | nan => simp [quotient_nan_r] at h
    | infinity t => simp [Datum.quotient] at h; subst h; rfl
    | number t n j =>
      simp only [Datum.quotient] at h
      split at h
      · split at h
        · cases h
        · cases h; rfl
      · cases h; rfl

theorem map_write_not_nan (k : FloatKind) {o : Option Datum} {r : Nat} (h : o.map k.format.write = some r) (hn : ∀ d, o = some d → d.isNaN = false) : isNaN k.format r = false := by
  obtain ⟨d, hd, rfl⟩ := Option.map_eq_some_iff.1 h
  exact write_not_nan k (hn d hd)

theorem floatBits_not_nan {op : BinOp} {k : FloatKind} {x y r : Nat} (h : floatBits op k x y = some r) : isNaN k.format r = false := by
  unfold floatBits at h
  cases op <;> simp only at h <;> first | (cases h; done) | skip
  · exact map_write_not_nan k h fun d hd => sum_not_nan hd
  · exact map_write_not_nan k h fun d hd => sum_not_nan hd
  · exact map_write_not_nan k h fun d hd => product_not_nan hd
  · exact map_write_not_nan k h fun d hd => quotient_not_nan hd

theorem cn_fop (op : BinOp) (k : FloatKind) (x y : Nat) : cn k (fop op k x y) = fop op k x y := by
  unfold fop
  cases h : floatBits op k x y with
  | none => simp [cn_of_nan (isNaN_qn k)]
  | some r => simp [cn_of_not (floatBits_not_nan h)]

theorem floatBits_lt {op : BinOp} {k : FloatKind} {x y r : Nat} (h : floatBits op k x y = some r) : r < 2 ^ k.format.width := by
  have := floatBits_wf h
  cases k
  · have h' : r < 4294967296 := by simpa [Lit.wf] using this
    exact h'
  · have h' : r < 18446744073709551616 := by simpa [Lit.wf] using this
    exact h'

theorem fop_lt (op : BinOp) (k : FloatKind) (x y : Nat) : fop op k x y < 2 ^ k.format.width := by
  unfold fop
  cases h : floatBits op k x y with
  | none => exact qn_lt k
  | some r => exact floatBits_lt h

/-- How two words stand to each other hangs on them up to NaN. -/
theorem order_cn (k : FloatKind) (x y : Nat) : k.format.order (cn k x) (cn k y) = k.format.order x y := by
  have hx := read_cn_cases k x
  have hy := read_cn_cases k y
  unfold Format.order
  rcases hx with hx | ⟨s, t, s', t', h1, h2⟩
  · rcases hy with hy | ⟨s, t, s', t', h1, h2⟩
    · rw [hx, hy]
    · rw [hx, h1, h2]
      cases k.format.read x <;> simp [Datum.order]
  · rw [h1, h2]; simp [Datum.order]

/-- The square root as a function. -/
def fsqrt (x : Nat) : Nat := (FloatKind.f64.format.sqrt x).getD (qn .f64)
theorem fsqrt_cn (x : Nat) : fsqrt (cn .f64 x) = fsqrt x := by
  unfold fsqrt Format.sqrt
  rcases read_cn_cases .f64 x with h | ⟨s, t, s', t', h1, h2⟩
  · rw [h]
  · rw [h1, h2]; simp [Datum.root]
theorem root_not_nan {g : Nat} {a d : Datum} (h : Datum.root g a = some d) : d.isNaN = false := by
  cases a with
  | nan => simp [Datum.root] at h
  | infinity s => simp [Datum.root] at h; obtain ⟨_, rfl⟩ := h; rfl
  | number s m i =>
    simp only [Datum.root] at h
    split at h
    · cases h; rfl
    · split at h
      · cases h
      · cases h; rfl
theorem cn_fsqrt (x : Nat) : cn .f64 (fsqrt x) = fsqrt x := by
  unfold fsqrt
  cases h : FloatKind.f64.format.sqrt x with
  | none => exact cn_of_nan (isNaN_qn .f64)
  | some r => exact cn_of_not (map_write_not_nan .f64 h fun d hd => root_not_nan hd)
theorem fsqrt_lt (x : Nat) : fsqrt x < 2 ^ 64 := by
  unfold fsqrt
  cases h : FloatKind.f64.format.sqrt x with
  | none => exact qn_lt .f64
  | some r => exact FloatKind.f64.format.sqrt_lt h

/-- What a NaN that the tape draws comes to. -/
theorem nan_cut (k : FloatKind) (x y t : Nat) : isNaN k.format ((Question.nanBits k x y).cut t) = true ∧ (Question.nanBits k x y).cut t < 2 ^ k.format.width := by
  cases k
  · have h1 : (t / 2) % (2 ^ 23 - 1) < 2 ^ 23 - 1 := Nat.mod_lt _ (by decide)
    have h2 : t % 2 < 2 := Nat.mod_lt _ (by decide)
    have e : (Question.nanBits .f32 x y).cut t = (t % 2) * 2 ^ 31 + 0x7f800000 + 1 + (t / 2) % (2 ^ 23 - 1) := rfl
    have s : FloatKind.f32.format.signWeight = 2147483648 := by decide
    have i : FloatKind.f32.format.infRung = 2139095040 := by decide
    have wd : 2 ^ FloatKind.f32.format.width = 4294967296 := by decide
    rw [e, wd]; unfold isNaN rung; rw [s, i]
    generalize (t / 2) % (2 ^ 23 - 1) = a at *
    generalize t % 2 = b at *
    simp only [decide_eq_true_eq]
    omega
  · have h1 : (t / 2) % (2 ^ 52 - 1) < 2 ^ 52 - 1 := Nat.mod_lt _ (by decide)
    have h2 : t % 2 < 2 := Nat.mod_lt _ (by decide)
    have e : (Question.nanBits .f64 x y).cut t = (t % 2) * 2 ^ 63 + 0x7ff0000000000000 + 1 + (t / 2) % (2 ^ 52 - 1) := rfl
    have s : FloatKind.f64.format.signWeight = 9223372036854775808 := by decide
    have i : FloatKind.f64.format.infRung = 9218868437227405312 := by decide
    have wd : 2 ^ FloatKind.f64.format.width = 18446744073709551616 := by decide
    rw [e, wd]; unfold isNaN rung; rw [s, i]
    generalize (t / 2) % (2 ^ 52 - 1) = a at *
    generalize t % 2 = b at *
    simp only [decide_eq_true_eq]
    omega
theorem nanConv_cut (k : FloatKind) (x t : Nat) : isNaN k.format ((Question.nanConv k x).cut t) = true ∧ (Question.nanConv k x).cut t < 2 ^ k.format.width := by
  have := nan_cut k 0 0 t
  cases k <;> exact this
end Fl
