/- The model's nearest word, by its rung: that it is rounded to nearest even. -/
import Derived.Test.YtdkcdcbbpebgmaaFlA
namespace Fl
open Ieee

/-- 'n / g' is rounded to the whole number k. -/
def CutTo (n g k : Nat) : Prop :=
  (2 * n < (2 * k + 1) * g ∨ (2 * n = (2 * k + 1) * g ∧ k % 2 = 0)) ∧
  (1 ≤ k → ((2 * k - 1) * g < 2 * n ∨ ((2 * k - 1) * g = 2 * n ∧ k % 2 = 0)))

theorem cut_even (neg : Bool) (n drop : Nat) : CutTo n (2 ^ drop) (Toward.even.cut neg n drop) := by
  have hcut : ∀ g : Nat, 0 < g → CutTo n g (n / g + (decide (g < 2 * (n % g)) || (g == 2 * (n % g) && n / g % 2 == 1)).toNat) := by
    intro g hg
    have hd := Nat.div_add_mod n g
    have hr := Nat.mod_lt n hg
    generalize n / g = l at *
    generalize n % g = r at *
    have hm : g * l = l * g := Nat.mul_comm _ _
    have x1 : (2 * l + 1) * g = 2 * (l * g) + g := by rw [Nat.add_mul, Nat.mul_assoc, Nat.one_mul]
    have x2 : (2 * (l + 1) + 1) * g = 2 * (l * g) + 3 * g := by rw [Nat.add_mul, Nat.mul_assoc, Nat.add_mul, Nat.one_mul]; omega
    have x3 : 1 ≤ l → (2 * l - 1) * g = 2 * (l * g) - g := by intro _; rw [Nat.sub_mul, Nat.mul_assoc, Nat.one_mul]
    have x4 : (2 * (l + 1) - 1) * g = 2 * (l * g) + g := by
      have : 2 * (l + 1) - 1 = 2 * l + 1 := by omega
      rw [this, x1]
    have x5 : 1 ≤ l → g ≤ l * g := fun h => Nat.le_mul_of_pos_left g h
    by_cases c1 : g < 2 * r
    · simp only [c1, decide_true, Bool.true_or, Bool.toNat_true]
      unfold CutTo
      rw [x2, x4]
      exact ⟨.inl (by omega), fun _ => .inl (by omega)⟩
    · by_cases c2 : g = 2 * r
      · by_cases c3 : l % 2 = 1
        · have e : (decide (g < 2 * r) || (g == 2 * r && l % 2 == 1)) = true := by simp [c2, c3]
          rw [e, Bool.toNat_true]
          unfold CutTo
          rw [x2, x4]
          exact ⟨.inl (by omega), fun _ => .inr ⟨by omega, by omega⟩⟩
        · have e : (decide (g < 2 * r) || (g == 2 * r && l % 2 == 1)) = false := by simp [c1, c3]
          rw [e, Bool.toNat_false, Nat.add_zero]
          unfold CutTo
          rw [x1]
          refine ⟨.inr ⟨by omega, by omega⟩, fun h => .inl ?_⟩
          rw [x3 h]; have := x5 h; omega
      · have e : (decide (g < 2 * r) || (g == 2 * r && l % 2 == 1)) = false := by simp [c1, c2]
        rw [e, Bool.toNat_false, Nat.add_zero]
        unfold CutTo
        rw [x1]
        refine ⟨.inl (by omega), fun h => .inl ?_⟩
        rw [x3 h]; have := x5 h; omega
  unfold Toward.cut
  by_cases hd : drop ≤ n.log2 + 2
  · have h := hcut (2 ^ drop) (Nat.two_pow_pos _)
    simp only [Nat.min_eq_left hd, Nat.one_shiftLeft]
    exact h
  · have hlt : 2 * n < 2 ^ (n.log2 + 2) := by
      by_cases h0 : n = 0
      · subst h0; simp
      · have := Nat.lt_log2_self (n := n)
        rw [Nat.pow_succ]
        omega
    have hle : 2 ^ (n.log2 + 2) ≤ 2 ^ drop := Nat.pow_le_pow_right (by omega) (by omega)
    simp only [Nat.min_eq_right (Nat.le_of_lt (Nat.lt_of_not_le hd)), Nat.one_shiftLeft]
    have hlow : n / 2 ^ (n.log2 + 2) = 0 := Nat.div_eq_of_lt (by omega)
    have hmod : n % 2 ^ (n.log2 + 2) = n := Nat.mod_eq_of_lt (by omega)
    rw [hlow, hmod]
    have e : (decide (2 ^ (n.log2 + 2) < 2 * n) || (2 ^ (n.log2 + 2) == 2 * n && 0 % 2 == 1)) = false := by
      have : ¬ 2 ^ (n.log2 + 2) < 2 * n := by omega
      simp [this]
    rw [e]
    simp only [Bool.toNat_false, Nat.add_zero]
    unfold CutTo
    refine ⟨.inl ?_, fun h => by omega⟩
    simp only [Nat.mul_zero, Nat.zero_add, Nat.one_mul]
    omega

/-- The rung of 'nearest', before it is held against infinity's. -/
def rungOf (f : Format) (neg : Bool) (mag : Nat) (place : Int) : Nat :=
  if mag = 0 then 0 else
  let last := max (place + mag.log2 - f.fractionBits) f.leastPlace
  (last - f.leastPlace).toNat * f.binade + Toward.even.cut neg (mag <<< (place - last).toNat) (last - place).toNat

theorem nearest_eq (f : Format) (neg : Bool) (mag : Nat) (place : Int) : f.nearest neg mag place = f.word neg (min (rungOf f neg mag place) f.infRung) := by
  unfold Format.nearest rungOf
  by_cases h : mag = 0 <;> simp [h]

theorem rne_of_cut {f : Format} (hp : 1 ≤ f.fractionBits) {N D n g E k : Nat} (hD : 0 < D) (hg : 0 < g) (hx : n * 2 ^ E * D = N * g)
    (hk : CutTo n g k) (hhi : n < 2 * f.binade * g) (hlo : E = 0 ∨ f.binade * g ≤ n) : Rne f N D (E * f.binade + k) := by
  have hB := binade_pos f
  have hBe : f.binade % 2 = 0 := by
    obtain ⟨p, hp'⟩ : ∃ p, f.fractionBits = p + 1 := ⟨f.fractionBits - 1, by omega⟩
    unfold Format.binade; rw [hp', Nat.pow_succ]; omega
  have hE := Nat.two_pow_pos E
  -- bounds on k
  have hk2 : k ≤ 2 * f.binade := by
    refine Nat.le_of_not_lt fun h => ?_
    have h1 := hk.2 (by omega)
    have h2 : 2 * (2 * f.binade * g) ≤ (2 * k - 1) * g := by
      rw [← Nat.mul_assoc]; exact Nat.mul_le_mul_right _ (by omega)
    rcases h1 with h1 | ⟨h1, _⟩ <;> omega
  have hkB : E = 0 ∨ f.binade ≤ k := by
    rcases hlo with h | h
    · exact .inl h
    · refine .inr (Nat.le_of_not_lt fun h' => ?_)
      have h1 := hk.1
      have h2 : (2 * k + 1) * g ≤ (2 * f.binade - 1) * g := Nat.mul_le_mul_right _ (by omega)
      have h3 : (2 * f.binade - 1) * g = 2 * (f.binade * g) - g := by rw [Nat.sub_mul, Nat.mul_assoc, Nat.one_mul]
      have h4 := Nat.le_mul_of_pos_left g hB
      rcases h1 with h1 | ⟨h1, _⟩ <;> omega
  -- values
  have hval : ∀ j, j ≤ 2 * f.binade → (E = 0 ∨ f.binade ≤ j) → val f (E * f.binade + j) = j * 2 ^ E := by
    intro j hj hjE
    by_cases hj1 : j < f.binade
    · have : E = 0 := by omega
      subst this
      simp only [Nat.zero_mul, Nat.zero_add, Nat.pow_zero, Nat.mul_one]
      exact val_small hj1
    · by_cases hj2 : j = 2 * f.binade
      · subst hj2
        have e : E * f.binade + 2 * f.binade = f.binade * (E + 1 + 1) + 0 := by
          rw [Nat.mul_comm E, Nat.mul_add, Nat.mul_add]; omega
        rw [e, val_mul_add hB, Nat.pow_succ, Nat.add_zero, Nat.mul_comm 2 f.binade, Nat.mul_assoc, Nat.mul_comm 2]
      · have e : E * f.binade + j = f.binade * (E + 1) + (j - f.binade) := by
          rw [Nat.mul_comm E, Nat.mul_add]; omega
        rw [e, val_mul_add (by omega)]
        congr 1; omega
  have hgap : 2 ^ E ≤ gap f (E * f.binade + k) := by
    unfold gap
    refine Nat.pow_le_pow_right (by omega) ?_
    rcases hkB with h | h
    · omega
    · have : E + 1 ≤ (E * f.binade + k) / f.binade := (Nat.le_div_iff_mul_le hB).2 (by rw [Nat.add_mul]; omega)
      omega
  have hpar : (E * f.binade + k) % 2 = k % 2 := by
    obtain ⟨c, hc⟩ : ∃ c, f.binade = 2 * c := ⟨f.binade / 2, by omega⟩
    rw [hc, show E * (2 * c) = 2 * (E * c) from by rw [← Nat.mul_assoc, Nat.mul_comm E 2, Nat.mul_assoc]]
    omega
  have hv := hval k hk2 hkB
  -- comparisons are carried over
  have key : ∀ S : Nat, (2 * n < S * g → 2 * N < S * 2 ^ E * D) ∧ (2 * n = S * g → 2 * N = S * 2 ^ E * D) ∧ (S * g < 2 * n → S * 2 ^ E * D < 2 * N) ∧ (S * g = 2 * n → S * 2 ^ E * D = 2 * N) := by
    intro S
    have hc : 0 < 2 ^ E * D := Nat.mul_pos hE hD
    have e1 : 2 * n * (2 ^ E * D) = 2 * N * g := by rw [Nat.mul_assoc, ← Nat.mul_assoc n, hx, Nat.mul_assoc]
    have e2 : S * g * (2 ^ E * D) = S * 2 ^ E * D * g := by
      rw [Nat.mul_assoc, Nat.mul_comm g, ← Nat.mul_assoc, ← Nat.mul_assoc]
    refine ⟨fun h => ?_, fun h => ?_, fun h => ?_, fun h => ?_⟩
    · refine Nat.lt_of_mul_lt_mul_right (a := g) ?_
      rw [← e1, ← e2]; exact Nat.mul_lt_mul_of_pos_right h hc
    · refine Nat.eq_of_mul_eq_mul_right hg ?_
      rw [← e1, ← e2, h]
    · refine Nat.lt_of_mul_lt_mul_right (a := g) ?_
      rw [← e1, ← e2]; exact Nat.mul_lt_mul_of_pos_right h hc
    · refine Nat.eq_of_mul_eq_mul_right hg ?_
      rw [← e1, ← e2, h]
  constructor
  · -- above
    rw [val_succ, hv]
    have hsum : (2 * k + 1) * 2 ^ E ≤ k * 2 ^ E + (k * 2 ^ E + gap f (E * f.binade + k)) := by
      rw [Nat.add_mul, Nat.one_mul, Nat.mul_assoc]; omega
    have hsum' := Nat.mul_le_mul_right D hsum
    by_cases he : gap f (E * f.binade + k) = 2 ^ E
    · have e : k * 2 ^ E + (k * 2 ^ E + gap f (E * f.binade + k)) = (2 * k + 1) * 2 ^ E := by
        rw [he, Nat.add_mul, Nat.one_mul, Nat.mul_assoc]; omega
      rw [e, hpar]
      rcases hk.1 with h | ⟨h, hpe⟩
      · exact .inl ((key _).1 h)
      · exact .inr ⟨(key _).2.1 h, hpe⟩
    · refine .inl ?_
      have hsum2 : (2 * k + 1) * 2 ^ E < k * 2 ^ E + (k * 2 ^ E + gap f (E * f.binade + k)) := by
        rw [Nat.add_mul, Nat.one_mul, Nat.mul_assoc]; omega
      have hsum3 := Nat.mul_lt_mul_of_pos_right hsum2 hD
      rcases hk.1 with h | ⟨h, _⟩
      · have := (key _).1 h; omega
      · have := (key _).2.1 h; omega
  · intro q hq
    by_cases hk0 : k = f.binade ∧ E ≠ 0
    · refine .inl ?_
      obtain ⟨rfl, hE0⟩ := hk0
      have hlo' : f.binade * g ≤ n := by rcases hlo with h | h; exact absurd h hE0; exact h
      have h1 : val f q < val f (E * f.binade + f.binade) := by rw [hq]; exact val_lt_succ f q
      have h2 : val f (E * f.binade + f.binade) * D ≤ N := by
        rw [hv]
        refine Nat.le_of_mul_le_mul_right ?_ hg
        rw [← hx]
        have := Nat.mul_le_mul_right (2 ^ E * D) hlo'
        calc f.binade * 2 ^ E * D * g = f.binade * g * (2 ^ E * D) := by
              rw [Nat.mul_assoc f.binade g, Nat.mul_comm g, ← Nat.mul_assoc, ← Nat.mul_assoc]
          _ ≤ n * (2 ^ E * D) := this
          _ = n * 2 ^ E * D := by rw [← Nat.mul_assoc]
      have h3 := Nat.mul_lt_mul_of_pos_right h1 hD
      rw [Nat.add_mul]; omega
    · have hk1 : 1 ≤ k := by
        refine Nat.pos_of_ne_zero fun h => ?_
        subst h
        rcases hkB with h | h
        · subst h; simp at hq
        · omega
      have hq' : q = E * f.binade + (k - 1) := by omega
      have hv' := hval (k - 1) (by omega) (by omega)
      have e : val f q + val f (E * f.binade + k) = (2 * k - 1) * 2 ^ E := by
        rw [hq', hv', hv, ← Nat.add_mul]
        congr 1; omega
      rw [e, hpar]
      rcases hk.2 hk1 with h | ⟨h, hpe⟩
      · exact .inl ((key _).2.2.1 h)
      · exact .inr ⟨(key _).2.2.2 h, hpe⟩

theorem Rne.zero (f : Format) (D : Nat) (hD : 0 < D) : Rne f 0 D 0 := by
  have := Rne.exact f D 0 hD
  rwa [val_zero, Nat.zero_mul] at this

/-- THE MODEL'S NEAREST WORD IS ROUNDED TO NEAREST EVEN. -/
theorem rungOf_rne {f : Format} (hp : 1 ≤ f.fractionBits) (neg : Bool) (mag : Nat) (place : Int) :
    Rne f (mag * 2 ^ (place - f.leastPlace).toNat) (2 ^ (f.leastPlace - place).toNat) (rungOf f neg mag place) := by
  have hD : 0 < 2 ^ (f.leastPlace - place).toNat := Nat.two_pow_pos _
  by_cases h0 : mag = 0
  · subst h0
    rw [Nat.zero_mul]
    exact Rne.zero f _ hD
  · unfold rungOf
    rw [if_neg h0]
    dsimp only
    generalize hL : f.leastPlace = L at *
    generalize hl : max (place + (mag.log2 : Int) - (f.fractionBits : Int)) L = last
    have hlL : L ≤ last := by omega
    have hl1 : place + (mag.log2 : Int) - (f.fractionBits : Int) ≤ last := by omega
    have hl2 : last = L ∨ last = place + (mag.log2 : Int) - (f.fractionBits : Int) := by omega
    have m1 : mag < 2 ^ (mag.log2 + 1) := Nat.lt_log2_self
    have m2 : 2 ^ mag.log2 ≤ mag := Nat.log2_self_le h0
    rw [Nat.shiftLeft_eq]
    by_cases hc : last ≤ place
    · have e1 : (last - place).toNat = 0 := by omega
      rw [e1]
      have hk := cut_even neg (mag * 2 ^ (place - last).toNat) 0
      refine rne_of_cut hp hD (by simp) ?_ hk ?_ ?_
      · have e2 : (place - L).toNat = (place - last).toNat + (last - L).toNat := by omega
        have e3 : (L - place).toNat = 0 := by omega
        rw [e2, e3, Nat.pow_add, Nat.pow_zero, Nat.mul_one, Nat.mul_one, Nat.mul_assoc]
      · rw [Nat.pow_zero, Nat.mul_one]
        calc mag * 2 ^ (place - last).toNat < 2 ^ (mag.log2 + 1) * 2 ^ (place - last).toNat := Nat.mul_lt_mul_of_pos_right m1 (Nat.two_pow_pos _)
          _ = 2 ^ (mag.log2 + 1 + (place - last).toNat) := (Nat.pow_add 2 (mag.log2 + 1) _).symm
          _ ≤ 2 ^ (f.fractionBits + 1) := Nat.pow_le_pow_right (by omega) (by omega)
          _ = 2 * f.binade := by unfold Format.binade; rw [Nat.pow_succ, Nat.mul_comm]
      · rcases hl2 with h | h
        · left; omega
        · right
          rw [Nat.pow_zero, Nat.mul_one]
          calc f.binade = 2 ^ f.fractionBits := rfl
            _ = 2 ^ (mag.log2 + (place - last).toNat) := by congr 1; omega
            _ = 2 ^ mag.log2 * 2 ^ (place - last).toNat := by rw [Nat.pow_add]
            _ ≤ mag * 2 ^ (place - last).toNat := Nat.mul_le_mul_right _ m2
    · have e1 : (place - last).toNat = 0 := by omega
      rw [e1, Nat.pow_zero, Nat.mul_one]
      have hk := cut_even neg mag (last - place).toNat
      refine rne_of_cut hp hD (Nat.two_pow_pos _) ?_ hk ?_ ?_
      · rw [Nat.mul_assoc, Nat.mul_assoc, ← Nat.pow_add, ← Nat.pow_add]
        congr 2; omega
      · calc mag < 2 ^ (mag.log2 + 1) := m1
          _ ≤ 2 ^ (f.fractionBits + 1 + (last - place).toNat) := Nat.pow_le_pow_right (by omega) (by omega)
          _ = 2 * f.binade * 2 ^ (last - place).toNat := by rw [Nat.pow_add, Nat.pow_succ, Nat.mul_comm 2]; rfl
      · rcases hl2 with h | h
        · left; omega
        · right
          calc f.binade * 2 ^ (last - place).toNat = 2 ^ (f.fractionBits + (last - place).toNat) := by rw [Nat.pow_add]; rfl
            _ = 2 ^ mag.log2 := by congr 1; omega
            _ ≤ mag := m2
end Fl
