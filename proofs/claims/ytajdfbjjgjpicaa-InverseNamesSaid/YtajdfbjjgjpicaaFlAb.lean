/- The size of a number, between its greater part and the sum of both. -/
import Derived.Test.YtajdfbjjgjpicaaFlSq
namespace Fl
open Ieee Go
/-! ### The operations on words without a sign -/
theorem wordF {r : Nat} (_h : r ≤ double.infRung) : double.word false r = r := by unfold Format.word; simp
theorem sgn_rung' {r : Nat} (h : r ≤ double.infRung) : sgn double r = false ∧ rung double r = r := by
  have hl := infRung_lt double
  have h1 := sgn_word (f := double) false (r := r) (by omega)
  have h2 := rung_word (f := double) false (r := r) (by omega)
  rw [wordF h] at h1 h2
  exact ⟨h1, h2⟩
theorem fin_rung {r : Nat} (h : r < double.infRung) : fin double r := by unfold fin; rw [(sgn_rung' (Nat.le_of_lt h)).2]; exact h
theorem sval_pos {r : Nat} (h : r ≤ double.infRung) : sval double r = (val double r : Int) := by
  unfold sval; rw [(sgn_rung' h).1, (sgn_rung' h).2]; simp
theorem fadd_pos {x y : Nat} (hx : x < double.infRung) (hy : y < double.infRung) :
    ∃ r, fadd x y = min r double.infRung ∧ Rne double (val double x + val double y) 1 r := by
  obtain ⟨b, h1, h2⟩ := add_fin ok_double (fin_rung hx) (fin_rung hy)
  have hb : fadd x y = b := by
    unfold fadd fop
    show (double.add x y).getD _ = b
    rw [h1]; rfl
  rw [sval_pos (Nat.le_of_lt hx), sval_pos (Nat.le_of_lt hy)] at h2
  have hs : (if (val double x : Int) + (val double y : Int) = 0 then sgn double x && sgn double y else decide ((val double x : Int) + (val double y : Int) < 0)) = false := by
    rw [(sgn_rung' (Nat.le_of_lt hx)).1]
    split
    · rfl
    · exact decide_eq_false (by omega)
  rw [hs] at h2
  have hn : ((val double x : Int) + (val double y : Int)).natAbs = val double x + val double y := by omega
  rw [hn] at h2
  obtain ⟨r, h3, h4⟩ := h2
  refine ⟨r, ?_, h3⟩
  rw [hb, h4, wordF (Nat.min_le_right _ _)]
theorem fmul_pos {x y : Nat} (hx : x < double.infRung) (hy : y < double.infRung) :
    ∃ r, fmul x y = min r double.infRung ∧ Rne double (val double x * val double y) (one_ double) r := by
  obtain ⟨b, h1, h2⟩ := mul_fin ok_double (fin_rung hx) (fin_rung hy)
  have hb : fmul x y = b := by
    unfold fmul fop
    show (double.mul x y).getD _ = b
    rw [h1]; rfl
  rw [(sgn_rung' (Nat.le_of_lt hx)).1, (sgn_rung' (Nat.le_of_lt hy)).1, (sgn_rung' (Nat.le_of_lt hx)).2, (sgn_rung' (Nat.le_of_lt hy)).2] at h2
  obtain ⟨r, h3, h4⟩ := h2
  refine ⟨r, ?_, h3⟩
  rw [hb, h4]
  exact wordF (Nat.min_le_right _ _)
theorem fdiv_pos {x y : Nat} (hx : x < double.infRung) (hy : y < double.infRung) (h0 : y ≠ 0) :
    ∃ r, fdiv x y = min r double.infRung ∧ Rne double (val double x * one_ double) (val double y) r := by
  obtain ⟨b, h1, h2⟩ := div_fin ok_double (fin_rung hx) (fin_rung hy) (by rw [(sgn_rung' (Nat.le_of_lt hy)).2]; exact h0)
  have hb : fdiv x y = b := by
    unfold fdiv fop
    show (double.div x y).getD _ = b
    rw [h1]; rfl
  rw [(sgn_rung' (Nat.le_of_lt hx)).1, (sgn_rung' (Nat.le_of_lt hy)).1, (sgn_rung' (Nat.le_of_lt hx)).2, (sgn_rung' (Nat.le_of_lt hy)).2] at h2
  obtain ⟨r, h3, h4⟩ := h2
  refine ⟨r, ?_, h3⟩
  rw [hb, h4]
  exact wordF (Nat.min_le_right _ _)
theorem fsqrt_pos {x : Nat} (hx : x < double.infRung) (h0 : x ≠ 0) :
    ∃ r, fsqrt x = min r double.infRung ∧ (∀ s, val double s * val double s ≤ val double x * one_ double → s ≤ r) ∧ (∀ s, val double x * one_ double ≤ val double s * val double s → r ≤ s) := by
  have e := sgn_rung' (Nat.le_of_lt hx)
  obtain ⟨r, h1, h2, h3⟩ := sqrt_fin (fin_rung hx) e.1 (by rw [e.2]; exact h0)
  rw [e.2] at h2 h3
  exact ⟨r, by rw [h1, wordF (Nat.min_le_right _ _)], h2, h3⟩
/-- Rungs of both sides of an exact number. -/
theorem rne_le {N D r s : Nat} (hD : 0 < D) (h : Rne double N D r) (hs : N ≤ val double s * D) : r ≤ s :=
  h.mono hD hD (Nat.mul_le_mul_right D hs) (Rne.exact double D s hD)
theorem le_rne {N D r s : Nat} (hD : 0 < D) (h : Rne double N D r) (hs : val double s * D ≤ N) : s ≤ r :=
  (Rne.exact double D s hD).mono hD hD (Nat.mul_le_mul_right D hs) h
/-! ### Above one -/
def rone : Nat := 4607182418800017408
/-- A quarter of the unit of the words from one to two. -/
def qt : Nat := 2 ^ 1020
theorem qt_pos : 0 < qt := by decide +kernel
theorem pow_1022 : (2 : Nat) ^ 1022 = 4 * qt := by decide +kernel
theorem pow_1023 : (2 : Nat) ^ 1023 = 2 * (4 * qt) := by decide +kernel
theorem one_unit : one_ double = 4503599627370496 * (4 * qt) := by decide +kernel
theorem val_qt : ∃ w, val double w = qt := ⟨4363988038922010624, by decide +kernel⟩
theorem val_rone (c : Nat) (hc : c ≤ 4503599627370496) : val double (rone + c) = (4503599627370496 + c) * (4 * qt) := by
  have hb := binade64
  by_cases h : c = 4503599627370496
  · subst h
    have e : rone + 4503599627370496 = double.binade * (1023 + 1) + 0 := by rw [hb]; rfl
    rw [e, val_mul_add (by rw [hb]; omega), hb, Nat.add_zero, pow_1023]
    generalize 4 * qt = t
    omega
  · have e : rone + c = double.binade * (1022 + 1) + c := by rw [hb]; show 4607182418800017408 + c = 4503599627370496 * 1023 + c; omega
    rw [e, val_mul_add (by rw [hb]; omega), hb, pow_1022]
/-- What is rounded off a rung is not more than half the rung. -/
theorem val_double {q : Nat} (h : 1 ≤ q) : val double (q + 1) ≤ 2 * val double q := by
  rw [val_succ]
  have hg : gap double q ≤ val double q := by
    rcases rung_cases double q with h1 | ⟨k, m, hm, rfl⟩
    · rw [gap_small h1, val_small h1]; exact h
    · rw [gap_mul_add hm, val_mul_add hm]
      exact Nat.le_mul_of_pos_left _ (by rw [binade64]; omega)
  omega
theorem rone_fin : rone < double.infRung := by rw [infRung64]; decide
theorem inf_big : rone + 4503599627370496 < double.infRung := by rw [infRung64]; decide
/-- The plain numbers of the matter: t a unit, U one. -/
theorem abs_plain {t U vr vq vs : Nat} (hU : U = 4503599627370496 * t) (ht : 0 < t) (hr1 : 33554432 * t ≤ vr) (hr2 : vr ≤ U) (hq : vq ≤ vr) (hs : vs ≤ U + vq + t) :
    ∃ d, d ≤ 4503599627370496 ∧ 4 * (d * t) ≤ 3 * vr ∧ vs * U ≤ ((4503599627370496 + d) * t) * ((4503599627370496 + d) * t) := by
  refine ⟨3 * vr / (4 * t), ?_, ?_, ?_⟩
  · have h1 : 3 * vr / (4 * t) * (4 * t) ≤ 3 * vr := Nat.div_mul_le_self _ _
    refine Nat.le_of_not_lt fun h => ?_
    have h2 : 4503599627370496 * (4 * t) ≤ 3 * vr / (4 * t) * (4 * t) := Nat.mul_le_mul_right _ (by omega)
    omega
  · have h1 : 3 * vr / (4 * t) * (4 * t) ≤ 3 * vr := Nat.div_mul_le_self _ _
    have e : 3 * vr / (4 * t) * (4 * t) = 4 * (3 * vr / (4 * t) * t) := Nat.mul_left_comm _ _ _
    omega
  · obtain ⟨d, hd⟩ : ∃ d, d = 3 * vr / (4 * t) := ⟨_, rfl⟩
    have h2 : 3 * vr < (d + 1) * (4 * t) := by
      have h3 := Nat.lt_mul_div_succ (3 * vr) (b := 4 * t) (by omega)
      rw [hd]
      exact Nat.lt_of_lt_of_eq h3 (Nat.mul_comm _ _)
    rw [← hd]
    have e1 : (4503599627370496 + d) * t = U + d * t := by rw [Nat.add_mul, ← hU]
    rw [e1]
    have e2 : (d + 1) * (4 * t) = 4 * (d * t) + 4 * t := by rw [Nat.add_mul, Nat.one_mul, Nat.mul_left_comm]
    generalize d * t = p at *
    have e3 : (U + p) * (U + p) = U * U + 2 * (p * U) + p * p := by
      rw [Nat.add_mul, Nat.mul_add, Nat.mul_add, Nat.mul_comm U p]; omega
    have h3 : vs ≤ U + 2 * p := by omega
    have h4 : vs * U ≤ (U + 2 * p) * U := Nat.mul_le_mul_right _ h3
    have e4 : (U + 2 * p) * U = U * U + 2 * (p * U) := by rw [Nat.add_mul, Nat.mul_assoc]
    omega
/-- THE SIZE: g the greater, l the less of both parts' sizes. -/
theorem abs_bounds {g l : Nat} (hg : g < double.infRung) (hle : l ≤ g) (h0 : g ≠ 0) :
    ∃ a s, absOf g l = min a double.infRung ∧ fadd g l = min s double.infRung ∧ g ≤ a ∧ a ≤ s := by
  have hl : l < double.infRung := by omega
  obtain ⟨U, hU⟩ : ∃ U, U = one_ double := ⟨_, rfl⟩
  obtain ⟨x, hx⟩ : ∃ x : Nat, x = qt := ⟨_, rfl⟩
  obtain ⟨t, ht⟩ : ∃ t : Nat, t = 4 * x := ⟨_, rfl⟩
  have htp : 0 < t := by have := qt_pos; omega
  have hUt : U = 4503599627370496 * t := by rw [hU, one_unit, ht, hx]
  have hUp : 0 < U := by omega
  have vr1 : ∀ c, c ≤ 4503599627370496 → val double (rone + c) = (4503599627370496 + c) * t := fun c hc => by rw [val_rone c hc, ht, hx]
  have v1 : val double rone = U := by have := vr1 0 (by omega); rw [hUt]; exact this
  have v2 : val double (rone + 4503599627370496) = 2 * U := by have := vr1 4503599627370496 (by omega); rw [this, hUt]; omega
  have hib := inf_big
  have hG : 0 < val double g := by have := le_val double g; omega
  have hLG : val double l ≤ val double g := val_le hle
  obtain ⟨w, hw⟩ := val_qt
  rw [← hx] at hw
  clear hx
  -- the ratio
  obtain ⟨r, hr, Rr⟩ := fdiv_pos hl hg h0
  rw [← hU] at Rr
  have r1 : r ≤ rone := rne_le hG Rr (by rw [v1, Nat.mul_comm]; exact Nat.mul_le_mul_left _ hLG)
  have hr' : fdiv l g = r := by rw [hr]; omega
  have vr : val double r ≤ U := by rw [← v1]; exact val_le r1
  -- its square
  obtain ⟨q, hq, Rq⟩ := fmul_pos (x := r) (y := r) (by omega) (by omega)
  rw [← hU] at Rq
  have q1 : q ≤ r := rne_le hUp Rq (Nat.mul_le_mul_left _ vr)
  have hq' : fmul r r = q := by rw [hq]; omega
  have vq : val double q ≤ val double r := val_le q1
  -- one more
  obtain ⟨s, hs, Rs⟩ := fadd_pos (x := rone) (y := q) rone_fin (Nat.lt_of_le_of_lt q1 (Nat.lt_of_le_of_lt r1 rone_fin))
  rw [v1] at Rs
  have s1 : rone ≤ s := le_rne Nat.one_pos Rs (by rw [v1]; omega)
  have s2 : s ≤ rone + 4503599627370496 := rne_le Nat.one_pos Rs (by rw [v2]; omega)
  have hs' : fadd rone q = s := by rw [hs]; omega
  have vs1 : U ≤ val double s := by rw [← v1]; exact val_le s1
  have vs2 : val double s ≤ 2 * U := by rw [← v2]; exact val_le s2
  -- its root
  obtain ⟨R, hR, lo, hi⟩ := fsqrt_pos (x := s) (by omega) (by have h1 : 0 < rone := (by decide); omega)
  rw [← hU] at lo hi
  have R1 : rone ≤ R := lo rone (by rw [v1]; exact Nat.mul_le_mul_right _ vs1)
  have R2 : R ≤ rone + 4503599627370496 := hi _ (by
    rw [v2]
    have h1 : val double s * U ≤ 2 * U * U := Nat.mul_le_mul_right _ vs2
    have h2 : 2 * U * U ≤ 2 * U * (2 * U) := Nat.mul_le_mul_left _ (by omega)
    omega)
  have hR' : fsqrt s = R := by rw [hR]; omega
  -- the size, and the sum
  obtain ⟨a, ha, Ra⟩ := fmul_pos (x := g) (y := R) hg (by omega)
  obtain ⟨m, hm, Rm⟩ := fadd_pos hg hl
  rw [← hU] at Ra
  refine ⟨a, m, ?_, hm, ?_, ?_⟩
  · have e : absOf g l = fmul g (fsqrt (fadd rone (fmul (fdiv l g) (fdiv l g)))) := rfl
    rw [e, hr', hq', hs', hR', ha]
  · exact le_rne hUp Ra (Nat.mul_le_mul_left _ (by rw [← v1]; exact val_le R1))
  · -- a root that is not above 1 + l / g
    have main : val double R * val double g ≤ (val double g + val double l) * U := by
      rcases Nat.eq_or_lt_of_le s1 with e | hlt
      · have h1 : R ≤ rone := hi rone (by rw [← e]; rw [v1]; exact Nat.le_refl _)
        have h2 : val double R ≤ U := by rw [← v1]; exact val_le h1
        have h3 : val double R * val double g ≤ U * val double g := Nat.mul_le_mul_right _ h2
        have h4 : U * val double g ≤ (val double g + val double l) * U := by rw [Nat.mul_comm]; exact Nat.mul_le_mul_right _ (by omega)
        omega
      · -- the square is not lost: the ratio is not small
        have hq2 : t ≤ 2 * val double q := by
          obtain ⟨p, rfl⟩ : ∃ p, s = p + 1 := ⟨s - 1, by omega⟩
          have h1 := Rs.2 p rfl
          have h2 : U ≤ val double p := by rw [← v1]; exact val_le (by omega)
          have h3 : U + t ≤ val double (p + 1) := by
            have e := vr1 1 (by omega)
            have h4 : val double (rone + 1) ≤ val double (p + 1) := val_le (by omega)
            rw [e, Nat.add_mul, ← hUt, Nat.one_mul] at h4; exact h4
          omega
        have hr2 : 33554432 * t ≤ val double r := by
          refine Nat.le_of_not_lt fun hsm => ?_
          -- r below 2^-27: its square is at most a quarter of the unit
          have h1 : val double r * val double r ≤ 33554432 * t * (33554432 * t) := Nat.mul_le_mul (by omega) (by omega)
          have h2 : q ≤ w := rne_le hUp Rq (by
            rw [hw]
            have e5 : 33554432 * t * (33554432 * t) = x * U := by
              rw [hUt, ht]
              have e6 : 33554432 * (4 * x) * (33554432 * (4 * x)) = (33554432 * 4 * (33554432 * 4)) * (x * x) := by
                rw [← Nat.mul_assoc 33554432 4 x, Nat.mul_mul_mul_comm]
              have e7 : x * (4503599627370496 * (4 * x)) = (4503599627370496 * 4) * (x * x) := by
                rw [← Nat.mul_assoc 4503599627370496 4 x, Nat.mul_left_comm]
              rw [e6, e7]
            omega)
          have h3 : val double q ≤ x := by rw [← hw]; exact val_le h2
          omega
        -- what is told of s
        have hs3 : val double s ≤ U + val double q + t := by
          obtain ⟨c, hc⟩ : ∃ c, c = val double q / t + 1 := ⟨_, rfl⟩
          have h1 : val double q < c * t := by
            have h3 := Nat.lt_mul_div_succ (val double q) (b := t) htp
            rw [hc]
            exact Nat.lt_of_lt_of_eq h3 (Nat.mul_comm _ _)
          have h2 : val double q / t * t ≤ val double q := Nat.div_mul_le_self _ _
          have e : c * t = val double q / t * t + t := by rw [hc, Nat.add_mul, Nat.one_mul]
          by_cases hcb : c ≤ 4503599627370496
          · have h3 : s ≤ rone + c := rne_le Nat.one_pos Rs (by rw [vr1 c hcb, Nat.add_mul, ← hUt]; omega)
            have h4 : val double s ≤ val double (rone + c) := val_le h3
            rw [vr1 c hcb, Nat.add_mul, ← hUt] at h4
            omega
          · have h3 : 4503599627370496 * t ≤ val double q / t * t := Nat.mul_le_mul_right _ (by omega)
            omega
        obtain ⟨d, hd1, hd2, hd3⟩ := abs_plain hUt htp hr2 vr vq hs3
        have h1 : R ≤ rone + d := hi _ (by rw [vr1 d hd1]; exact hd3)
        have h2 : val double R ≤ U + d * t := by
          have := val_le (f := double) h1
          rw [vr1 d hd1, Nat.add_mul, ← hUt] at this; exact this
        -- the ratio is at least 3/4 of what was told of it
        have h3 : 3 * (val double r * val double g) ≤ 4 * (val double l * U) := by
          obtain ⟨p, rfl⟩ : ∃ p, r = p + 1 := ⟨r - 1, by
            have : r ≠ 0 := by intro h; rw [h, val_zero] at hr2; omega
            omega⟩
          have h4 := Rr.2 p rfl
          have h5 : val double (p + 1) ≤ 2 * val double p := by
            refine val_double ?_
            rcases Nat.eq_zero_or_pos p with h | h
            · subst h
              have : val double (0 + 1) = 1 := val_one double
              omega
            · exact h
          have h6 : (val double p + val double (p + 1)) * val double g ≤ 2 * (val double l * U) := by
            rcases h4 with h4 | ⟨h4, _⟩
            · exact Nat.le_of_lt h4
            · exact Nat.le_of_eq h4
          have h7 : 3 * val double (p + 1) * val double g ≤ 2 * (val double p + val double (p + 1)) * val double g := Nat.mul_le_mul_right _ (by omega)
          rw [Nat.mul_assoc, Nat.mul_assoc] at h7
          omega
        have h8 : val double R * val double g ≤ (U + d * t) * val double g := Nat.mul_le_mul_right _ h2
        have h9 : 4 * (d * t * val double g) ≤ 3 * (val double r * val double g) := by
          have h10 := Nat.mul_le_mul_right (val double g) hd2
          have e1 : 4 * (d * t) * val double g = 4 * (d * t * val double g) := Nat.mul_assoc _ _ _
          have e2 : 3 * val double r * val double g = 3 * (val double r * val double g) := Nat.mul_assoc _ _ _
          omega
        rw [Nat.add_mul] at h8 ⊢
        have e : val double g * U = U * val double g := Nat.mul_comm _ _
        omega
    exact Ra.mono hUp Nat.one_pos (by rw [Nat.mul_one, Nat.mul_comm]; exact main) Rm
end Fl
