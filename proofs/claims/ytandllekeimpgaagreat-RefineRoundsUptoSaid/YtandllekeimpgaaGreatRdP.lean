/- Round of the document's exact numbers, as a plain law: bits cut, Ldexp. -/
import Derived.Test.YtandllekeimpgaaGreatLdR
import Derived.Test.YtandllekeimpgaaGreatTsQ
import Derived.Test.YtandllekeimpgaaGreatExP
import Derived.Test.YtandllekeimpgaaGreatExt
namespace Fl
open Ieee Go Go.Proofs.YtandllekeimpgaaGreat
set_option maxRecDepth 20000
theorem cut_gen (n g : Nat) (hg : 0 < g) : CutTo n g (n / g + if g < 2 * (n % g) ∨ (g = 2 * (n % g) ∧ n / g % 2 = 1) then 1 else 0) := by
  have hd := Nat.div_add_mod n g
  have hr := Nat.mod_lt n hg
  generalize n / g = l at *
  generalize n % g = r at *
  have hm : g * l = l * g := Nat.mul_comm _ _
  have x1 : (2 * l + 1) * g = 2 * (l * g) + g := by rw [Nat.add_mul, Nat.mul_assoc, Nat.one_mul]
  have x2 : (2 * (l + 1) + 1) * g = 2 * (l * g) + 3 * g := by rw [Nat.add_mul, Nat.mul_assoc, Nat.add_mul, Nat.one_mul]; omega
  have x3 : 1 ≤ l → (2 * l - 1) * g = 2 * (l * g) - g := by intro _; rw [Nat.sub_mul, Nat.mul_assoc, Nat.one_mul]
  have x4 : (2 * (l + 1) - 1) * g = 2 * (l * g) + g := by
    have : 2 * (l + 1) - 1 = 2 * l + 1 := by omega
    rw [this, x1]
  have x5 : 1 ≤ l → g ≤ l * g := fun h => Nat.le_mul_of_pos_left g h
  unfold CutTo
  split
  · rw [x2, x4]
    exact ⟨.inl (by omega), fun _ => by omega⟩
  · simp only [Nat.add_zero]
    rw [x1]
    exact ⟨by omega, fun h => by rw [x3 h]; have := x5 h; omega⟩
/-- What is kept of N above the place low, to the nearest, ties to even. -/
def cutM (N low : Nat) : Nat := N / 2 ^ low + if N / 2 ^ (low - 1) % 2 = 1 ∧ (N % 2 ^ (low - 1) ≠ 0 ∨ N / 2 ^ low % 2 = 1) then 1 else 0
theorem cutM_cut {N low : Nat} (h : 1 ≤ low) : CutTo N (2 ^ low) (cutM N low) := by
  obtain ⟨l, rfl⟩ : ∃ l, low = l + 1 := ⟨low - 1, by omega⟩
  have hG := Nat.two_pow_pos l
  have hc := cut_gen N (2 ^ (l + 1)) (Nat.two_pow_pos _)
  unfold cutM
  rw [show l + 1 - 1 = l by omega]
  rw [Nat.pow_succ] at hc ⊢
  obtain ⟨G, hGe⟩ : ∃ G, G = 2 ^ l := ⟨_, rfl⟩
  rw [← hGe] at hG hc ⊢
  have e2 := Nat.mod_lt N hG
  have e5 : N % (G * 2) = N % G + G * (N / G % 2) := Nat.mod_mul
  have hiff : (G * 2 < 2 * (N % (G * 2)) ∨ (G * 2 = 2 * (N % (G * 2)) ∧ N / (G * 2) % 2 = 1)) ↔ (N / G % 2 = 1 ∧ (N % G ≠ 0 ∨ N / (G * 2) % 2 = 1)) := by
    rw [e5]
    clear e5 hGe hc
    generalize N / (G * 2) % 2 = u
    generalize N % G = R at *
    have hf2 : N / G % 2 = 0 ∨ N / G % 2 = 1 := by omega
    rcases hf2 with h | h
    · rw [h, Nat.mul_zero]
      exact ⟨fun h => by omega, fun h => by omega⟩
    · rw [h, Nat.mul_one]
      refine ⟨fun h => ⟨rfl, by omega⟩, fun h => ?_⟩
      rcases h.2 with h | h <;> omega
  simp only [hiff] at hc
  exact hc
theorem val_units {d m : Nat} (h : m ≤ 9007199254740992) (hd : d = 0 ∨ 4503599627370496 ≤ m) : val double (d * double.binade + m) = m * 2 ^ d := by
  have hb : double.binade = 4503599627370496 := by decide
  have hB := binade_pos double
  rcases Nat.lt_or_ge m double.binade with h1 | h1
  · have : d = 0 := by omega
    subst this
    rw [Nat.zero_mul, Nat.zero_add, val_small h1]; simp
  · rcases Nat.lt_or_ge m (2 * double.binade) with h2 | h2
    · have := val_mul_add (f := double) (q := d) (m := m - double.binade) (by omega)
      have e : d * double.binade + m = double.binade * (d + 1) + (m - double.binade) := by rw [Nat.mul_add, Nat.mul_comm d]; omega
      rw [e, this, show double.binade + (m - double.binade) = m by omega]
    · have := val_mul_add (f := double) (q := d + 1) (m := 0) hB
      have e : d * double.binade + m = double.binade * (d + 1 + 1) + 0 := by rw [Nat.mul_add, Nat.mul_add, Nat.mul_comm d]; omega
      have e2 : m = 2 * double.binade := by omega
      rw [e, this, Nat.pow_succ, e2, Nat.add_zero, Nat.mul_comm (2 ^ d), ← Nat.mul_assoc, Nat.mul_comm double.binade]
/-- The nearest real of N 2^-1126 in units: what is cut. -/
theorem rne_cut {N d K : Nat} (hK : 1 ≤ K) (hhi : N < 9007199254740992 * 2 ^ (K + d)) (hlo : d = 0 ∨ 4503599627370496 * 2 ^ (K + d) ≤ N) :
    Rne double N (2 ^ K) (d * double.binade + cutM N (K + d)) := by
  have hb : double.binade = 4503599627370496 := by decide
  refine rne_of_cut (by decide) (Nat.two_pow_pos K) (Nat.two_pow_pos (K + d)) (n := N) (E := d) (k := cutM N (K + d)) ?_ (cutM_cut (by omega)) (by rw [hb]; omega) (by rw [hb]; exact hlo)
  rw [Nat.mul_assoc, ← Nat.pow_add, Nat.add_comm d]
theorem cutM_bounds {N d K : Nat} (hhi : N < 9007199254740992 * 2 ^ (K + d)) (hlo : d = 0 ∨ 4503599627370496 * 2 ^ (K + d) ≤ N) : cutM N (K + d) ≤ 9007199254740992 ∧ (d = 0 ∨ 4503599627370496 ≤ cutM N (K + d)) := by
  have hp := Nat.two_pow_pos (K + d)
  have h1 : N / 2 ^ (K + d) < 9007199254740992 := (Nat.div_lt_iff_lt_mul hp).2 hhi
  unfold cutM
  refine ⟨by split <;> omega, ?_⟩
  rcases hlo with h | h
  · exact .inl h
  · have h2 : 4503599627370496 ≤ N / 2 ^ (K + d) := (Nat.le_div_iff_mul_le hp).2 h
    exact .inr (by omega)
theorem wm53_ex : Ex wm53 1 1021 := by
  refine ⟨by decide, fin_wm53, ?_⟩
  unfold sval
  rw [sgn_wm53, if_neg (by decide)]
  have : val double (rung double wm53) = 2 ^ 1021 := by decide +kernel
  rw [this, Int.one_mul]
theorem sval_of {r : Nat} (h : r < double.infRung) : sval double (double.word false r) = (val double r : Int) ∧ fin double (double.word false r) ∧ double.word false r < 18446744073709551616 := by
  have hs := infRung_lt double
  refine ⟨?_, ?_, word_lt (f := double) _ (by omega)⟩
  · unfold sval; rw [sgn_word false (by omega), rung_word false (by omega), if_neg (by decide)]
  · unfold fin; rw [rung_word false (by omega)]; exact h
/-- LDEXP OF A WHOLE NUMBER into units. -/
theorem ldW_units {x m d : Nat} (hs : sgn double x = false) (hv : val double (rung double x) = m * one_ double) (hm0 : 0 < m) (hm : m ≤ 9007199254740992) (hd : d ≤ 2044) :
    (rung double x ≠ 0 → (d : Int) - 1074 + expo x ≤ 2046) ∧ ∃ r, ldW x ((d : Int) - 1074) = double.word false r ∧ r < double.infRung ∧ val double r = m * 2 ^ d := by
  obtain ⟨K0, hK0, hO⟩ := one_pow
  have hb : double.binade = 4503599627370496 := by decide
  have hi := inf_double
  have hO1 : 0 < one_ double := by rw [hO]; exact Nat.two_pow_pos _
  have v1 : val double (1023 * 4503599627370496) = one_ double := by decide +kernel
  have v2 : val double (1076 * 4503599627370496) = 9007199254740992 * one_ double := by decide +kernel
  have r1 : 1023 * 4503599627370496 ≤ rung double x := (val_le_iff (f := double)).1 (by rw [v1, hv]; exact Nat.le_mul_of_pos_left _ hm0)
  have r2 : rung double x ≤ 1076 * 4503599627370496 := (val_le_iff (f := double)).1 (by rw [v2, hv]; exact Nat.mul_le_mul_right _ hm)
  have hN : nrmW x = x := by unfold nrmW; rw [if_neg (by omega)]
  obtain ⟨e, he⟩ : ∃ e, e = rung double x / 4503599627370496 := ⟨_, rfl⟩
  obtain ⟨f, hfe⟩ : ∃ f, f = rung double x % 4503599627370496 := ⟨_, rfl⟩
  have hE : expo x = (e : Nat) := by unfold expo nrmE fld; rw [if_neg (by omega), hN, ← he]; omega
  have hF : frc x = f := by unfold frc; rw [hN, ← hfe]
  have hfb : f < 4503599627370496 := by omega
  have he1 : 1023 ≤ e := by omega
  have he2 : e ≤ 1076 := by omega
  have hre : rung double x = double.binade * (e - 1 + 1) + f := by rw [hb, show e - 1 + 1 = e by omega]; omega
  have hval : (4503599627370496 + f) * 2 ^ (e - 1) = m * 2 ^ K0 := by
    rw [← hO, ← hv, hre, val_mul_add (by rw [hb]; exact hfb), hb]
  have hO0 := Nat.two_pow_pos K0
  have hL : ldW x ((d : Int) - 1074) = ldN x ((d : Int) - 1074 + e) := by
    unfold ldW; rw [if_neg (by omega), hE]
  refine ⟨fun _ => by rw [hE]; omega, ?_⟩
  rw [hL]
  unfold ldN
  rw [hN, hs, hF]
  by_cases hk : 1074 < d + e
  · obtain ⟨k, hk2⟩ : ∃ k, d + e = 1075 + k := ⟨d + e - 1075, by omega⟩
    rw [if_neg (by omega), if_neg (by omega), show ((d : Int) - 1074 + e).toNat = k + 1 by omega]
    refine ⟨(k + 1) * 4503599627370496 + f, rfl, by rw [hi]; omega, ?_⟩
    rw [show (k + 1) * 4503599627370496 + f = double.binade * (k + 1) + f by rw [hb, Nat.mul_comm], val_mul_add (by rw [hb]; exact hfb), hb]
    refine Nat.eq_of_mul_eq_mul_right hO0 ?_
    rw [Nat.mul_assoc, ← Nat.pow_add, Nat.mul_assoc, Nat.mul_comm (2 ^ d), ← Nat.mul_assoc, ← hval, Nat.mul_assoc, ← Nat.pow_add]
    congr 2; omega
  · rw [if_neg (by omega), if_pos (by omega)]
    obtain ⟨k, hk2⟩ : ∃ k, d + e = 1022 + k := ⟨d + e - 1022, by omega⟩
    rw [show ((d : Int) - 1074 + e + 53).toNat = k + 1 by omega]
    obtain ⟨y, hy⟩ : ∃ y, y = double.word false ((k + 1) * 4503599627370496 + f) := ⟨_, rfl⟩
    obtain ⟨s1, s2, s3⟩ := sval_of (r := (k + 1) * 4503599627370496 + f) (by rw [hi]; omega)
    rw [← hy] at s1 s2 s3 ⊢
    have hvy : val double ((k + 1) * 4503599627370496 + f) = m * 2 ^ (d + 53) := by
      rw [show (k + 1) * 4503599627370496 + f = double.binade * (k + 1) + f by rw [hb, Nat.mul_comm], val_mul_add (by rw [hb]; exact hfb), hb]
      refine Nat.eq_of_mul_eq_mul_right hO0 ?_
      rw [Nat.mul_assoc, ← Nat.pow_add, Nat.mul_assoc, Nat.mul_comm (2 ^ (d + 53)), ← Nat.mul_assoc, ← hval, Nat.mul_assoc, ← Nat.pow_add]
      congr 2; omega
    have hml : m < 9007199254740992 := by
      refine Nat.lt_of_le_of_ne hm fun h => ?_
      have : rung double x = 1076 * 4503599627370496 := val_inj (f := double) (by rw [hv, v2, h])
      omega
    have ey : Ex y m (d + 53) := ⟨s3, s2, by rw [s1, hvy, Int.natCast_mul]⟩
    have hp := wm53_ex.mul ey (n := d) (by omega) (by omega) (by omega)
    rw [Int.one_mul] at hp
    obtain ⟨p1, p2, p3⟩ := hp
    have hpos : 0 < m * 2 ^ d := Nat.mul_pos hm0 (Nat.two_pow_pos d)
    have p4 : sval double (fmul wm53 y) = ((m * 2 ^ d : Nat) : Int) := by rw [p3, Int.natCast_mul]
    have sg : sgn double (fmul wm53 y) = false := by
      cases h : sgn double (fmul wm53 y) with
      | false => rfl
      | true => unfold sval at p4; rw [h, if_pos rfl] at p4; omega
    refine ⟨rung double (fmul wm53 y), ?_, p2, ?_⟩
    · have := word_split (f := double) (x := fmul wm53 y) p1
      rw [sg] at this; exact this
    · unfold sval at p4
      rw [sg, if_neg (by decide)] at p4
      exact Int.ofNat_inj.1 p4
end Fl
