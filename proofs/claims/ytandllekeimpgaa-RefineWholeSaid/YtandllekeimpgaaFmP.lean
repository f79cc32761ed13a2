/- The fused product and sum of finite words: the exact value, rounded once (pure); sums and the nearest real. -/
import Derived.Test.YtandllekeimpgaaFlA
import Derived.Test.YtandllekeimpgaaFlF
import Derived.Test.YtandllekeimpgaaTsP
namespace Fl
open Ieee Go
theorem sgn_mul (s t : Bool) (a b : Nat) : (if (s ^^ t) then -((a * b : Nat) : Int) else ((a * b : Nat) : Int)) = (if s then -(a : Int) else (a : Int)) * (if t then -(b : Int) else (b : Int)) := by
  cases s <;> cases t <;> simp [Int.natCast_mul, Int.neg_mul, Int.mul_neg]
theorem signed_mul (s : Bool) (m k d : Nat) : signed s m k * (2 : Int) ^ d = if s then -((m * 2 ^ (k + d) : Nat) : Int) else ((m * 2 ^ (k + d) : Nat) : Int) := by
  rw [signed_eq, Nat.pow_add, ← Nat.mul_assoc]
  cases s <;> simp [Int.neg_mul]
/-- THE FUSED SUM: the exact value, rounded once. -/
theorem fma_fin {f : Format} (ok : Ok f) {x y z : Nat} (hx : fin f x) (hy : fin f y) (hz : fin f z) :
    ∃ b, f.fma x y z = some b ∧ Rounds f (if sval f x * sval f y + sval f z * (one_ f : Nat) = 0 then (sgn f x ^^ sgn f y) && sgn f z else decide (sval f x * sval f y + sval f z * (one_ f : Nat) < 0)) (sval f x * sval f y + sval f z * (one_ f : Nat)).natAbs (one_ f) b := by
  obtain ⟨m, i, hrx, hi, hvx⟩ := read_fin hx
  obtain ⟨n, j, hry, hj, hvy⟩ := read_fin hy
  obtain ⟨p, k, hrz, hk, hvz⟩ := read_fin hz
  refine ⟨_, by rw [Format.fma, hrx, hry, hrz]; rfl, ?_⟩
  have hL := least_le ok
  obtain ⟨L, hLe⟩ : ∃ L, L = f.leastPlace := ⟨_, rfl⟩
  have hb1 : min (i + j) k ≤ i + j := Int.min_le_left _ _
  have hb2 : min (i + j) k ≤ k := Int.min_le_right _ _
  have hb3 : min (i + j) k = i + j ∨ min (i + j) k = k := by omega
  generalize min (i + j) k = base at *
  have e1 : signed (sgn f x ^^ sgn f y) (m * n) (i + j - base).toNat * (2 : Int) ^ (base - L - L).toNat = sval f x * sval f y := by
    rw [signed_mul, sval, sval, ← sgn_mul, ← hvx, ← hvy, ← hLe]
    have : m * n * 2 ^ ((i + j - base).toNat + (base - L - L).toNat) = m * 2 ^ (i - L).toNat * (n * 2 ^ (j - L).toNat) := by
      rw [show m * 2 ^ (i - L).toNat * (n * 2 ^ (j - L).toNat) = m * n * (2 ^ (i - L).toNat * 2 ^ (j - L).toNat) by ac_rfl, ← Nat.pow_add]
      congr 2; omega
    rw [this]
  have e2 : signed (sgn f z) p (k - base).toNat * (2 : Int) ^ (base - L - L).toNat = sval f z * (one_ f : Nat) := by
    rw [signed_mul, sval, one_, ← hvz, ← hLe]
    have : p * 2 ^ ((k - base).toNat + (base - L - L).toNat) = p * 2 ^ (k - L).toNat * 2 ^ (-L).toNat := by
      rw [Nat.mul_assoc, ← Nat.pow_add]
      congr 2; omega
    rw [this, Int.natCast_mul]
    cases sgn f z <;> simp [Int.neg_mul]
  have hsum : (signed (sgn f x ^^ sgn f y) (m * n) (i + j - base).toNat + signed (sgn f z) p (k - base).toNat) * (2 : Int) ^ (base - L - L).toNat = sval f x * sval f y + sval f z * (one_ f : Nat) := by
    rw [Int.add_mul, e1, e2]
  generalize signed (sgn f x ^^ sgn f y) (m * n) (i + j - base).toNat + signed (sgn f z) p (k - base).toNat = T at *
  generalize sval f x * sval f y + sval f z * (one_ f : Nat) = S at *
  have hpos : (0 : Int) < (2 : Int) ^ (base - L - L).toNat := Int.pow_pos (by omega)
  have hz0 : (T = 0) ↔ (S = 0) := by
    rw [← hsum]; constructor
    · intro h; rw [h, Int.zero_mul]
    · intro h; rcases Int.mul_eq_zero.1 h with h | h
      · exact h
      · omega
  have hn : (T < 0) ↔ (S < 0) := by
    rw [← hsum]; constructor
    · intro h; exact Int.mul_neg_of_neg_of_pos h hpos
    · intro h; refine Int.lt_of_not_ge fun h' => ?_
      have := Int.mul_nonneg h' (Int.le_of_lt hpos); omega
  have hr := nearest_rounds ok (if T = 0 then (sgn f x ^^ sgn f y) && sgn f z else decide (T < 0)) T.natAbs base
  simp only [hz0, hn] at hr
  simp only [Format.write, hz0, hn]
  refine hr.of_eq (Nat.two_pow_pos _) (one_pos f) ?_
  rw [← hsum, natAbs_mul_pow, one_, ← hLe, Nat.mul_assoc, Nat.mul_assoc, ← Nat.pow_add, ← Nat.pow_add]
  congr 2; omega
/-- 'double': the sum is the nearest real, where it is not too great. -/
theorem rep_val (q : Nat) : Rep (val double q : Nat) := by
  obtain ⟨c, e, h1, h2, _⟩ := val_form double q
  have hb : double.binade = 4503599627370496 := by decide
  rw [hb] at h2
  rw [h1]
  refine ⟨e, ⟨c, by rw [Int.natCast_mul, Int.natCast_pow, Int.mul_comm]; rfl⟩, ?_, ?_⟩
  · have := pz e
    have h3 : (0:Int) ≤ ((c * 2 ^ e : Nat) : Int) := Int.natCast_nonneg _
    omega
  · have h3 : ((c * 2 ^ e : Nat) : Int) = c * 2 ^ e := by rw [Int.natCast_mul, Int.natCast_pow]; rfl
    rw [h3]
    exact Int.mul_le_mul_of_nonneg_right (by omega) (Int.le_of_lt (pz e))
theorem rep_sval (x : Nat) : Rep (sval double x) := by
  unfold sval; split
  · exact (rep_val _).neg
  · exact rep_val _
theorem val_of_rep {y : Int} (h : Rep y) : ∃ q, val double q = y.natAbs := by
  obtain ⟨k, ⟨m, hm⟩, h1, h2⟩ := h
  have hb : double.binade = 4503599627370496 := by decide
  obtain ⟨q, hq⟩ := repr double k m.natAbs (by
    rw [hb]
    have hp := pz k
    have a1 : m ≤ 9007199254740992 := Int.le_of_mul_le_mul_left (by rw [← hm]; omega) hp
    have a2 : -9007199254740992 ≤ m := Int.le_of_mul_le_mul_left (by rw [← hm]; omega) hp
    omega)
  refine ⟨q, ?_⟩
  rw [hq, hm, Int.natAbs_mul, Int.natAbs_pow, Nat.mul_comm]; rfl
theorem rne_near {N r q : Nat} (h : Rne double N 1 r) : ((val double r : Int) - N).natAbs ≤ ((val double q : Int) - N).natAbs := by
  obtain ⟨h1, h2⟩ := h
  rcases Nat.lt_trichotomy q r with hq | rfl | hq
  · obtain ⟨p, rfl⟩ : ∃ p, r = p + 1 := ⟨r - 1, by omega⟩
    have h3 := h2 p rfl
    have h4 := val_le (f := double) (show q ≤ p by omega)
    have h5 := val_lt_succ double p
    omega
  · exact Nat.le_refl _
  · have h4 := val_le (f := double) (show r + 1 ≤ q by omega)
    have h5 := val_lt_succ double r
    omega
theorem rounds_near' {z : Int} {s : Bool} {b : Nat} (h : Rounds double s z.natAbs 1 b) (hs : z ≠ 0 → s = decide (z < 0)) (hf : fin double b) : Nr z (sval double b) := by
  obtain ⟨r, hr, hb⟩ := h.rung
  have hb' : rung double b = r := by unfold fin at hf; omega
  refine ⟨rep_sval b, fun y hy => ?_⟩
  obtain ⟨p, hp⟩ := val_of_rep hy
  have h1 := rne_near hr (q := p)
  have h2 : z = 0 → val double r = 0 := fun h0 => by
    subst h0
    have := rne_near hr (q := 0)
    rw [val_zero] at this
    omega
  unfold sval
  rw [hb', h.sgn]
  by_cases h0 : z = 0
  · rw [h2 h0, h0]; simp
  · rw [hs h0]
    by_cases hn : z < 0
    · simp only [hn, decide_true, if_true]; omega
    · rw [decide_eq_false hn, if_neg (by decide)]; omega
theorem rounds_near {z : Int} {s : Bool} {b : Nat} (h : Rounds double s z.natAbs 1 b) (hs : z ≠ 0 → s = decide (z < 0)) {q : Nat} (hq : q < double.infRung) (hz : z.natAbs ≤ val double q) :
    fin double b ∧ Nr z (sval double b) := by
  obtain ⟨r, hr, hb⟩ := h.rung
  have hrq := rne_le (by decide) hr (s := q) (by omega)
  have hf : fin double b := by unfold fin; omega
  exact ⟨hf, rounds_near' h hs hf⟩
theorem nr_fadd {x y q : Nat} (hx : fin double x) (hy : fin double y) (hq : q < double.infRung) (hz : (sval double x + sval double y).natAbs ≤ val double q) :
    fin double (fadd x y) ∧ Nr (sval double x + sval double y) (sval double (fadd x y)) := by
  obtain ⟨b, hb, hr⟩ := add_fin ok_double hx hy
  have e : fadd x y = b := by show ((double.add x y).getD _) = b; rw [hb]; rfl
  rw [e]
  exact rounds_near hr (fun h0 => by rw [if_neg h0]) hq hz
theorem fin_fneg {x : Nat} (hl : x < 18446744073709551616) (hx : fin double x) : fin double (fneg x) ∧ sval double (fneg x) = -sval double x ∧ fneg x < 18446744073709551616 := by
  have hn : isNaN double x = false := by unfold isNaN fin at *; simp; omega
  rw [fneg_of_not hn]
  exact ⟨by unfold fin; rw [rung_flip (f := double) hl]; exact hx, sval_flip (f := double) hl, flip_lt64 hl⟩
theorem nr_fsub {x y q : Nat} (hl : y < 18446744073709551616) (hx : fin double x) (hy : fin double y) (hq : q < double.infRung) (hz : (sval double x - sval double y).natAbs ≤ val double q) :
    fin double (fsub x y) ∧ Nr (sval double x - sval double y) (sval double (fsub x y)) := by
  obtain ⟨f1, f2, _⟩ := fin_fneg hl hy
  rw [fsub_eq x hl]
  have := nr_fadd hx f1 hq (by rw [f2, ← Int.sub_eq_add_neg]; exact hz)
  rwa [f2, ← Int.sub_eq_add_neg] at this
end Fl
