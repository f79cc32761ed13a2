/- The square root: held against any word, it stands as the exact root stands. -/
import Derived.Test.YtajdfbjjgjpicaaFlMc
namespace Fl
open Ieee Go
theorem rootFrom_spec (n : Nat) : ∀ todo root : Nat, root * root ≤ n → n < (root + 2 ^ todo) * (root + 2 ^ todo) →
    Datum.rootFrom n todo root * Datum.rootFrom n todo root ≤ n ∧ n < (Datum.rootFrom n todo root + 1) * (Datum.rootFrom n todo root + 1)
  | 0, root, h1, h2 => by
    simp only [Datum.rootFrom]
    exact ⟨h1, by simpa using h2⟩
  | todo + 1, root, h1, h2 => by
    simp only [Datum.rootFrom, Nat.one_shiftLeft]
    by_cases hc : (root + 2 ^ todo) * (root + 2 ^ todo) ≤ n
    · rw [if_pos hc]
      refine rootFrom_spec n todo _ hc ?_
      have e : root + 2 ^ todo + 2 ^ todo = root + 2 ^ (todo + 1) := by rw [Nat.pow_succ]; omega
      rw [e]; exact h2
    · rw [if_neg hc]
      exact rootFrom_spec n todo _ h1 (by omega)
theorem root_spec (n : Nat) : Datum.rootFrom n (n.log2 / 2 + 1) 0 * Datum.rootFrom n (n.log2 / 2 + 1) 0 ≤ n ∧
    n < (Datum.rootFrom n (n.log2 / 2 + 1) 0 + 1) * (Datum.rootFrom n (n.log2 / 2 + 1) 0 + 1) := by
  refine rootFrom_spec n _ 0 (by simp) ?_
  rw [Nat.zero_add, ← Nat.pow_add]
  have h : n < 2 ^ (n.log2 + 1) := Nat.lt_log2_self
  exact Nat.lt_of_lt_of_le h (Nat.pow_le_pow_right (by omega) (by omega))
theorem sq_le {a b : Nat} (h : a * a ≤ b * b) : a ≤ b := by
  rcases Nat.lt_or_ge b a with h1 | h1
  · exact absurd h (Nat.not_le.2 (Nat.mul_self_lt_mul_self h1))
  · exact h1
theorem sq_lt {a b : Nat} (h : a * a < b * b) : a < b := by
  rcases Nat.lt_or_ge a b with h1 | h1
  · exact h1
  · exact absurd h (Nat.not_lt.2 (Nat.mul_self_le_mul_self h1))
/-- Where a word's size stands to a number that is not whole at the scale of its last places: 'W' has 54 digits at least. -/
theorem grain {c q a W T v : Nat} (hv : v = c * 2 ^ q) (hc : c < 9007199254740992) (hW : 9007199254740992 ≤ W) (hT : T = 2 ^ (a + 1)) :
    (v < (W + 1) * T → 2 * v ≤ (2 * W + 1) * T) ∧ (W * T < v → (2 * W + 1) * T ≤ 2 * v) := by
  by_cases hq : a + 1 ≤ q
  · obtain ⟨d, rfl⟩ : ∃ d, q = a + 1 + d := ⟨q - (a + 1), by omega⟩
    have e : v = (c * 2 ^ d) * T := by rw [hv, hT, Nat.pow_add, Nat.mul_assoc, Nat.mul_comm (2 ^ (a + 1))]
    have hp : 0 < T := by rw [hT]; exact Nat.two_pow_pos _
    constructor
    · intro h
      rw [e] at h
      have h1 : c * 2 ^ d < W + 1 := Nat.lt_of_mul_lt_mul_right h
      have h2 : c * 2 ^ d * T ≤ W * T := Nat.mul_le_mul_right _ (by omega)
      rw [e]
      have : (2 * W + 1) * T = 2 * (W * T) + T := by rw [Nat.add_mul, Nat.mul_assoc, Nat.one_mul]
      omega
    · intro h
      rw [e] at h
      have h1 : W < c * 2 ^ d := Nat.lt_of_mul_lt_mul_right h
      have h2 : (W + 1) * T ≤ c * 2 ^ d * T := Nat.mul_le_mul_right _ h1
      rw [e]
      have e1 : (2 * W + 1) * T = 2 * (W * T) + T := by rw [Nat.add_mul, Nat.mul_assoc, Nat.one_mul]
      have e2 : (W + 1) * T = W * T + T := by rw [Nat.add_mul, Nat.one_mul]
      omega
  · have h1 : 2 ^ q ≤ 2 ^ a := Nat.pow_le_pow_right (by omega) (by omega)
    have h2 : v ≤ 9007199254740992 * 2 ^ a := by rw [hv]; exact Nat.mul_le_mul (by omega) h1
    have h3 : 9007199254740992 * 2 ^ a ≤ W * 2 ^ a := Nat.mul_le_mul_right _ hW
    have e : T = 2 * 2 ^ a := by rw [hT, Nat.pow_succ, Nat.mul_comm]
    have e1 : W * T = 2 * (W * 2 ^ a) := by rw [e, Nat.mul_left_comm]
    have e2 : (2 * W + 1) * T = 2 * (W * T) + T := by rw [Nat.add_mul, Nat.mul_assoc, Nat.one_mul]
    have hp : 0 < 2 ^ a := Nat.two_pow_pos _
    have h4 : 2 ^ a ≤ W * 2 ^ a := Nat.le_mul_of_pos_left _ (by omega)
    constructor
    · intro _; omega
    · intro h; omega
theorem binade64 : double.binade = 4503599627370496 := by decide
theorem least64 : double.leastPlace = -1074 := by decide
theorem frac64 : double.fractionBits = 52 := by decide
theorem infRung64 : double.infRung = 9218868437227405312 := by decide
/-- THE ROOT of a finite number above nought: a rung that stands to every rung as the exact root does. -/
theorem sqrt_fin {x : Nat} (hx : fin double x) (hs : sgn double x = false) (h0 : rung double x ≠ 0) :
    ∃ r, fsqrt x = double.word false (min r double.infRung) ∧
      (∀ s, val double s * val double s ≤ val double (rung double x) * one_ double → s ≤ r) ∧
      (∀ s, val double (rung double x) * one_ double ≤ val double s * val double s → r ≤ s) := by
  obtain ⟨m, e, hr, he, hv⟩ := read_fin hx
  rw [least64] at he hv
  rw [hs] at hr
  have hm : m ≠ 0 := by
    intro h
    have h1 := le_val double (rung double x)
    rw [h, Nat.zero_mul] at hv
    omega
  obtain ⟨more0, hmore0⟩ : ∃ q, q = 2 * (double.fractionBits + 2) - m.log2 := ⟨_, rfl⟩
  obtain ⟨more, hmore⟩ : ∃ q, q = more0 + ((e - (more0 : Int)) % 2).toNat := ⟨_, rfl⟩
  obtain ⟨n, hn⟩ : ∃ q, q = m <<< more := ⟨_, rfl⟩
  obtain ⟨W, hW⟩ : ∃ q, q = Datum.rootFrom n (n.log2 / 2 + 1) 0 := ⟨_, rfl⟩
  have hspec := root_spec n
  rw [← hW] at hspec
  have hq : FloatKind.f64.format.sqrt x = some (double.nearest false (2 * W + (W * W != n).toNat) ((e - (more : Int)) / 2 - 1)) := by
    have e1 : FloatKind.f64.format.sqrt x = ((double.read x).root (double.fractionBits + 2)).map double.write := rfl
    rw [e1, hr]
    simp only [Datum.root, if_neg hm, Bool.false_eq_true, if_false, Option.map_some, Format.write]
    rw [← hmore0, ← hmore, ← hn, ← hW]
  obtain ⟨R, hR, hb⟩ := nearest_rounds ok_double false (2 * W + (W * W != n).toNat) ((e - (more : Int)) / 2 - 1)
  refine ⟨R, by unfold fsqrt; rw [hq]; exact hb, ?_⟩
  -- the place
  rw [frac64] at hmore0
  have hmore0' : more0 ≤ 108 := by omega
  have hmore' : more ≤ 109 := by omega
  have heven : (e - (more : Int)) % 2 = 0 := by omega
  obtain ⟨k, hk⟩ : ∃ k : Int, e - (more : Int) = 2 * k := ⟨(e - (more : Int)) / 2, by omega⟩
  have hk2 : (e - (more : Int)) / 2 = k := by omega
  rw [hk2, least64] at hR
  obtain ⟨a, ha⟩ : ∃ a : Nat, (a : Int) = k - 1 + 1074 := ⟨(k - 1 + 1074).toNat, by omega⟩
  have ea : (k - 1 - -1074).toNat = a := by omega
  have eb : (-1074 - (k - 1)).toNat = 0 := by omega
  rw [ea, eb, Nat.pow_zero] at hR
  -- n and the size
  have hn' : n = m * 2 ^ more := by rw [hn, Nat.shiftLeft_eq]
  obtain ⟨K, hK⟩ : ∃ K, K = (-double.leastPlace).toNat := ⟨_, rfl⟩
  have hone : one_ double = 2 ^ K := by unfold one_; rw [hK]
  rw [least64] at hK
  have hexp : (e - -1074).toNat + K = more + (a + 1 + (a + 1)) := by clear hone hv hR hn' hb hq; omega
  have hVU : val double (rung double x) * one_ double = n * (2 ^ (a + 1) * 2 ^ (a + 1)) := by
    rw [← hv, hone, hn', Nat.mul_assoc, Nat.mul_assoc, ← Nat.pow_add, ← Nat.pow_add, ← Nat.pow_add, hexp]
  have hlog : 2 ^ m.log2 ≤ m := Nat.log2_self_le hm
  have hnbig : 2 ^ 108 ≤ n := by
    rw [hn']
    have h1 : 2 ^ m.log2 * 2 ^ more ≤ m * 2 ^ more := Nat.mul_le_mul_right _ hlog
    refine Nat.le_trans ?_ h1
    rw [← Nat.pow_add]
    exact Nat.pow_le_pow_right (by omega) (by omega)
  have hWbig : 9007199254740992 ≤ W := by
    have h1 : (2 ^ 54) * (2 ^ 54) < (W + 1) * (W + 1) := by
      refine Nat.lt_of_le_of_lt ?_ hspec.2
      rw [← Nat.pow_add]; exact hnbig
    have h2 := sq_lt h1
    have h3 : (2 : Nat) ^ 54 = 18014398509481984 := by decide
    rw [h3] at h2; omega
  generalize hT : 2 ^ (a + 1) = T at hVU
  have hTp : 0 < T := by rw [← hT]; exact Nat.two_pow_pos _
  have e2a : 2 * 2 ^ a = T := by rw [← hT, Nat.pow_succ, Nat.mul_comm]
  have key : ∀ s, (val double s * val double s ≤ n * (T * T) → 2 * val double s ≤ (2 * W + (W * W != n).toNat) * T) ∧
      (n * (T * T) ≤ val double s * val double s → (2 * W + (W * W != n).toNat) * T ≤ 2 * val double s) := by
    intro s
    obtain ⟨c, q, hvs, hc, _⟩ := val_form double s
    rw [binade64] at hc
    have g := grain hvs (by omega) hWbig hT.symm
    generalize val double s = v at g ⊢
    by_cases hex : W * W = n
    · have hb0 : (W * W != n).toNat = 0 := by simp [hex]
      rw [hb0, Nat.add_zero, ← hex]
      have e1 : W * W * (T * T) = (W * T) * (W * T) := Nat.mul_mul_mul_comm _ _ _ _
      have e2 : 2 * W * T = 2 * (W * T) := Nat.mul_assoc _ _ _
      rw [e1, e2]
      exact ⟨fun h => Nat.mul_le_mul_left 2 (sq_le h), fun h => Nat.mul_le_mul_left 2 (sq_le h)⟩
    · have hb1 : (W * W != n).toNat = 1 := by simp [hex]
      rw [hb1]
      constructor
      · intro h
        refine g.1 (sq_lt ?_)
        have e1 : (W + 1) * T * ((W + 1) * T) = (W + 1) * (W + 1) * (T * T) := Nat.mul_mul_mul_comm _ _ _ _
        rw [e1]
        exact Nat.lt_of_le_of_lt h (Nat.mul_lt_mul_of_pos_right hspec.2 (Nat.mul_pos hTp hTp))
      · intro h
        refine g.2 (sq_lt ?_)
        have e1 : W * T * (W * T) = W * W * (T * T) := Nat.mul_mul_mul_comm _ _ _ _
        rw [e1]
        exact Nat.lt_of_lt_of_le (Nat.mul_lt_mul_of_pos_right (by omega) (Nat.mul_pos hTp hTp)) h
  have exact1 : ∀ s, Rne double (val double s) 1 s := fun s => by
    have := Rne.exact double 1 s (by omega)
    rwa [Nat.mul_one] at this
  constructor
  · intro s h
    rw [hVU] at h
    have h1 := (key s).1 h
    refine (exact1 s).mono (by omega) (by omega) ?_ hR
    rw [Nat.mul_one, Nat.mul_one]
    have e3 : (2 * W + (W * W != n).toNat) * T = 2 * ((2 * W + (W * W != n).toNat) * 2 ^ a) := by rw [← e2a, Nat.mul_left_comm]
    omega
  · intro s h
    rw [hVU] at h
    have h1 := (key s).2 h
    refine hR.mono (by omega) (by omega) ?_ (exact1 s)
    rw [Nat.mul_one, Nat.mul_one]
    have e3 : (2 * W + (W * W != n).toNat) * T = 2 * ((2 * W + (W * W != n).toNat) * 2 ^ a) := by rw [← e2a, Nat.mul_left_comm]
    omega
end Fl
