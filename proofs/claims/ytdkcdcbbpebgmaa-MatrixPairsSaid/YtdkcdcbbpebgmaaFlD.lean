/- Opposite, product and quotient of finite words, in terms of Rne. -/
import Derived.Test.YtdkcdcbbpebgmaaFlC
namespace Fl
open Ieee

/-- A word with its sign bit turned. -/
def flip (f : Format) (x : Nat) : Nat := x ^^^ f.signWeight

theorem flip_eq {f : Format} {x : Nat} (h : x < 2 ^ f.width) : flip f x = f.word (!sgn f x) (rung f x) := by
  have e1 : flip f x / f.signWeight = x / f.signWeight ^^^ 1 := by
    unfold flip
    have := Nat.xor_div_two_pow (a := x) (b := f.signWeight) (n := f.exponentBits + f.fractionBits)
    unfold Format.signWeight at *
    rw [this, Nat.div_self (Nat.two_pow_pos _)]
  have e2 : flip f x % f.signWeight = x % f.signWeight := by
    unfold flip
    have := Nat.xor_mod_two_pow (a := x) (b := f.signWeight) (n := f.exponentBits + f.fractionBits)
    unfold Format.signWeight at *
    rw [this, Nat.mod_self, Nat.xor_zero]
  have hlt : flip f x < 2 ^ f.width := by
    refine Nat.xor_lt_two_pow h ?_
    rw [width_two]; have := signWeight_pos f; omega
  rw [word_split hlt]
  have hx : x / f.signWeight < 2 := by
    rw [Nat.div_lt_iff_lt_mul (signWeight_pos f), ← width_two]; exact h
  have s1 : sgn f (flip f x) = !sgn f x := by
    unfold sgn
    rw [e1]
    generalize x / f.signWeight = q at *
    rcases (show q = 0 ∨ q = 1 by omega) with rfl | rfl <;> decide
  rw [s1]
  unfold rung
  rw [e2]

theorem flip_lt {f : Format} {x : Nat} (h : x < 2 ^ f.width) : flip f x < 2 ^ f.width := by
  rw [flip_eq h]; exact word_lt _ (rung_lt f x)
theorem rung_flip {f : Format} {x : Nat} (h : x < 2 ^ f.width) : rung f (flip f x) = rung f x := by
  rw [flip_eq h, rung_word _ (rung_lt f x)]
theorem sgn_flip {f : Format} {x : Nat} (h : x < 2 ^ f.width) : sgn f (flip f x) = !sgn f x := by
  rw [flip_eq h, sgn_word _ (rung_lt f x)]
theorem flip_flip (f : Format) (x : Nat) : flip f (flip f x) = x := by
  unfold flip; rw [Nat.xor_assoc, Nat.xor_self, Nat.xor_zero]
theorem sval_flip {f : Format} {x : Nat} (h : x < 2 ^ f.width) : sval f (flip f x) = -sval f x := by
  unfold sval; rw [sgn_flip h, rung_flip h]; cases sgn f x <;> simp

theorem read_flip {f : Format} {x : Nat} (h : x < 2 ^ f.width) : f.read (flip f x) = (f.read x).opposite := by
  rw [read_eq, read_eq, rung_flip h, sgn_flip h]
  split
  · rfl
  · split
    · rfl
    · split <;> rfl

/-- A difference is a sum with the opposite. -/
theorem sub_eq {f : Format} {x y : Nat} (hy : y < 2 ^ f.width) : f.sub x y = f.add x (flip f y) := by
  unfold Format.sub Format.add
  rw [read_flip hy]

theorem least_le {f : Format} (ok : Ok f) : f.leastPlace ≤ 0 := by
  have h := ok.he
  unfold Format.leastPlace
  have : 2 ≤ (2 : Int) ^ (f.exponentBits - 1) := by
    obtain ⟨k, hk⟩ : ∃ k, f.exponentBits - 1 = k + 1 := ⟨f.exponentBits - 2, by omega⟩
    rw [hk, Int.pow_succ]
    have : (0 : Int) < 2 ^ k := Int.pow_pos (by omega)
    omega
  omega

/-- Units in one. -/
def one_ (f : Format) : Nat := 2 ^ (-f.leastPlace).toNat
theorem one_pos (f : Format) : 0 < one_ f := Nat.two_pow_pos _

theorem Rne.of_eq {f : Format} {N D N' D' r : Nat} (hD : 0 < D) (hD' : 0 < D') (e : N * D' = N' * D) (h : Rne f N D r) : Rne f N' D' r := by
  rw [← Rne.scale D hD, ← e, Nat.mul_comm D' D, Rne.scale D' hD']
  exact h

theorem Rounds.of_eq {f : Format} {s : Bool} {N D N' D' b : Nat} (hD : 0 < D) (hD' : 0 < D') (e : N * D' = N' * D) (h : Rounds f s N D b) : Rounds f s N' D' b := by
  obtain ⟨r, h1, h2⟩ := h
  exact ⟨r, h1.of_eq hD hD' e, h2⟩

/-- THE PRODUCT of two finite words: the exact product, rounded once. -/
theorem mul_fin {f : Format} (ok : Ok f) {x y : Nat} (hx : fin f x) (hy : fin f y) :
    ∃ b, f.mul x y = some b ∧ Rounds f (sgn f x ^^ sgn f y) (val f (rung f x) * val f (rung f y)) (one_ f) b := by
  obtain ⟨m, i, hrx, hi, hvx⟩ := read_fin hx
  obtain ⟨n, j, hry, hj, hvy⟩ := read_fin hy
  refine ⟨_, by rw [Format.mul, hrx, hry]; rfl, ?_⟩
  have hr := nearest_rounds ok (sgn f x ^^ sgn f y) (m * n) (i + j)
  have hl := least_le ok
  refine hr.of_eq (Nat.two_pow_pos _) (one_pos f) ?_
  rw [← hvx, ← hvy]
  unfold one_
  generalize f.leastPlace = L at *
  have e1 : m * 2 ^ (i - L).toNat * (n * 2 ^ (j - L).toNat) * 2 ^ (L - (i + j)).toNat = m * n * 2 ^ ((i - L).toNat + (j - L).toNat + (L - (i + j)).toNat) := by
    rw [Nat.pow_add, Nat.pow_add]
    ac_rfl
  have e2 : m * n * 2 ^ (i + j - L).toNat * 2 ^ (-L).toNat = m * n * 2 ^ ((i + j - L).toNat + (-L).toNat) := by
    rw [Nat.pow_add]; ac_rfl
  rw [e1, e2]
  congr 2
  omega

/-- The two neighbours' sum is a number of few digits times a power of two. -/
theorem mid_form (f : Format) (r : Nat) : ∃ c e, val f r + val f (r + 1) = c * 2 ^ e ∧ c < 4 * f.binade := by
  rw [val_succ]
  rcases rung_cases f r with h | ⟨q, m, hm, rfl⟩
  · refine ⟨2 * r + 1, 0, ?_, by omega⟩
    rw [val_small h, gap_small h]; omega
  · refine ⟨2 * (f.binade + m) + 1, q, ?_, by omega⟩
    rw [val_mul_add hm, gap_mul_add hm, Nat.add_mul (2 * (f.binade + m)), Nat.one_mul, Nat.mul_assoc]; omega

/-- A quotient cut off, with one digit more that tells whether anything was left, is rounded as the quotient itself. -/
theorem rne_sticky {f : Format} {A n a b r : Nat} (hn : 0 < n) (hq : 2 * f.binade ≤ A / n)
    (h : Rne f ((2 * (A / n) + (A % n != 0).toNat) * 2 ^ a) (2 * 2 ^ b) r) : Rne f (A * 2 ^ a) (n * 2 ^ b) r := by
  have hd := Nat.div_add_mod A n
  have hm := Nat.mod_lt A hn
  have hst : (A % n != 0).toNat = if A % n = 0 then 0 else 1 := by by_cases h0 : A % n = 0 <;> simp [h0]
  rw [hst] at h
  have ha := Nat.two_pow_pos a
  have hb := Nat.two_pow_pos b
  -- at each sum of neighbours the two stand alike
  have key : ∀ c e : Nat, c < 4 * f.binade →
      (2 * ((2 * (A / n) + if A % n = 0 then 0 else 1) * 2 ^ a) < c * 2 ^ e * (2 * 2 ^ b) → 2 * (A * 2 ^ a) < c * 2 ^ e * (n * 2 ^ b)) ∧
      (2 * ((2 * (A / n) + if A % n = 0 then 0 else 1) * 2 ^ a) = c * 2 ^ e * (2 * 2 ^ b) → 2 * (A * 2 ^ a) = c * 2 ^ e * (n * 2 ^ b)) ∧
      (c * 2 ^ e * (2 * 2 ^ b) < 2 * ((2 * (A / n) + if A % n = 0 then 0 else 1) * 2 ^ a) → c * 2 ^ e * (n * 2 ^ b) < 2 * (A * 2 ^ a)) := by
    intro c e hc
    generalize hQ : A / n = Q at *
    generalize hR : A % n = R at *
    have hA : A = n * Q + R := hd.symm
    have hsle : (if R = 0 then 0 else 1) ≤ 1 := by split <;> omega
    by_cases hbig : e + b ≤ a
    · -- the sum lies below both
      have l1 : c * 2 ^ e * 2 ^ b < 4 * f.binade * 2 ^ a := by
        rw [Nat.mul_assoc, ← Nat.pow_add]
        exact Nat.lt_of_lt_of_le (Nat.mul_lt_mul_of_pos_right hc (Nat.two_pow_pos _)) (Nat.mul_le_mul_left _ (Nat.pow_le_pow_right (by omega) hbig))
      have l2 : 4 * f.binade * 2 ^ a ≤ 2 * Q * 2 ^ a := Nat.mul_le_mul_right _ (by omega)
      have l3 : c * 2 ^ e * (2 * 2 ^ b) < 2 * ((2 * Q + if R = 0 then 0 else 1) * 2 ^ a) := by
        have : c * 2 ^ e * (2 * 2 ^ b) = 2 * (c * 2 ^ e * 2 ^ b) := by ac_rfl
        rw [this, Nat.add_mul]
        omega
      have l4 : c * 2 ^ e * (n * 2 ^ b) < 2 * (A * 2 ^ a) := by
        have e1 : c * 2 ^ e * (n * 2 ^ b) = n * (c * 2 ^ e * 2 ^ b) := by ac_rfl
        have e2 : n * (2 * Q * 2 ^ a) ≤ 2 * (A * 2 ^ a) := by
          have : n * (2 * Q * 2 ^ a) = 2 * ((n * Q) * 2 ^ a) := by ac_rfl
          rw [this, hA]
          exact Nat.mul_le_mul_left _ (Nat.mul_le_mul_right _ (by omega))
        rw [e1]
        exact Nat.lt_of_lt_of_le (Nat.mul_lt_mul_of_pos_left (Nat.lt_of_lt_of_le l1 l2) hn) e2
      exact ⟨fun h => by omega, fun h => by omega, fun _ => l4⟩
    · -- it is a whole number of units
      obtain ⟨k, hk⟩ : ∃ k, e + b = a + 1 + k := ⟨e + b - (a + 1), by omega⟩
      have ht : c * 2 ^ e * 2 ^ b = 2 * (c * 2 ^ k) * 2 ^ a := by
        rw [Nat.mul_assoc, ← Nat.pow_add, hk, Nat.pow_add, Nat.pow_succ]; ac_rfl
      generalize c * 2 ^ k = T at ht
      have t1 : c * 2 ^ e * (2 * 2 ^ b) = 2 * (2 * T * 2 ^ a) := by rw [← ht]; ac_rfl
      have t2 : c * 2 ^ e * (n * 2 ^ b) = 2 * (n * T * 2 ^ a) := by
        have : c * 2 ^ e * (n * 2 ^ b) = n * (c * 2 ^ e * 2 ^ b) := by ac_rfl
        rw [this, ht]; ac_rfl
      rw [t1, t2]
      have c1 : ∀ u v : Nat, 2 * (u * 2 ^ a) < 2 * (v * 2 ^ a) ↔ u < v := fun u v => by
        rw [Nat.mul_lt_mul_left (by omega)]; exact Nat.mul_lt_mul_right ha
      have c2 : ∀ u v : Nat, 2 * (u * 2 ^ a) = 2 * (v * 2 ^ a) ↔ u = v := fun u v => by
        rw [Nat.mul_right_inj (by omega)]; exact Nat.mul_left_inj (by omega)
      rw [c1, c2, c1, c1, c2, c1, hA]
      have lt_or : ∀ u v : Nat, u < v → n * u + n ≤ n * v := fun u v h => by
        rw [← Nat.mul_succ]; exact Nat.mul_le_mul_left _ h
      refine ⟨fun h => ?_, fun h => ?_, fun h => ?_⟩
      · have := lt_or Q T (by omega); omega
      · by_cases hR0 : R = 0
        · rw [if_pos hR0] at h; have : Q = T := by omega
          rw [hR0, this]; omega
        · rw [if_neg hR0] at h; omega
      · by_cases hQT : T < Q
        · have := lt_or T Q hQT; omega
        · by_cases hR0 : R = 0
          · rw [if_pos hR0] at h; omega
          · have : Q = T := by rw [if_neg hR0] at h; omega
            rw [this]; omega
  constructor
  · obtain ⟨c, e, hS, hc⟩ := mid_form f r
    have k := key c e hc
    have h1 := h.1
    rw [hS] at h1 ⊢
    rcases h1 with h1 | ⟨h1, hp⟩
    · exact .inl (k.1 h1)
    · exact .inr ⟨k.2.1 h1, hp⟩
  · rintro q rfl
    obtain ⟨c, e, hS, hc⟩ := mid_form f q
    have k := key c e hc
    have h1 := h.2 q rfl
    rw [hS] at h1 ⊢
    rcases h1 with h1 | ⟨h1, hp⟩
    · exact .inl (k.2.2 h1)
    · exact .inr ⟨(k.2.1 h1.symm).symm, hp⟩

/-- THE QUOTIENT of two finite words, the second not 0: the exact quotient, rounded once. -/
theorem div_fin {f : Format} (ok : Ok f) {x y : Nat} (hx : fin f x) (hy : fin f y) (h0 : rung f y ≠ 0) :
    ∃ b, f.div x y = some b ∧ Rounds f (sgn f x ^^ sgn f y) (val f (rung f x) * one_ f) (val f (rung f y)) b := by
  obtain ⟨m, i, hrx, hi, hvx⟩ := read_fin hx
  obtain ⟨n, j, hry, hj, hvy⟩ := read_fin hy
  have hvpos : 0 < val f (rung f y) := by have := le_val f (rung f y); omega
  have hn : n ≠ 0 := by
    intro h; rw [h, Nat.zero_mul] at hvy; omega
  have hnp : 0 < n := by omega
  refine ⟨_, by rw [Format.div, hrx, hry]; simp only [Datum.quotient, hn, if_false]; rfl, ?_⟩
  have hl := least_le ok
  generalize hmore : f.fractionBits + 2 + n.log2 - m.log2 = more
  rw [Nat.shiftLeft_eq]
  generalize hA : m * 2 ^ more = A
  obtain ⟨r, hrne, hb⟩ := nearest_rounds ok (sgn f x ^^ sgn f y) (2 * (A / n) + (A % n != 0).toNat) (i - j - more - 1)
  refine ⟨r, ?_, hb⟩
  by_cases hm0 : m = 0
  · subst hm0
    have hA0 : A = 0 := by rw [← hA, Nat.zero_mul]
    subst hA0
    rw [Nat.zero_mul] at hvx
    rw [← hvx]
    refine Rne.of_eq (Nat.two_pow_pos _) hvpos ?_ hrne
    simp
  · -- the digits suffice
    have hq : 2 * f.binade ≤ A / n := by
      rw [Nat.le_div_iff_mul_le hnp, ← hA]
      have m1 : 2 ^ m.log2 ≤ m := Nat.log2_self_le hm0
      have n1 : n < 2 ^ (n.log2 + 1) := Nat.lt_log2_self
      calc 2 * f.binade * n ≤ 2 * f.binade * 2 ^ (n.log2 + 1) := Nat.mul_le_mul_left _ (Nat.le_of_lt n1)
        _ = 2 ^ (f.fractionBits + 2 + n.log2) := by
          unfold Format.binade
          rw [show f.fractionBits + 2 + n.log2 = 1 + f.fractionBits + (n.log2 + 1) from by omega, Nat.pow_add 2 (1 + f.fractionBits), Nat.pow_add 2 1]
        _ ≤ 2 ^ (m.log2 + more) := Nat.pow_le_pow_right (by omega) (by omega)
        _ = 2 ^ m.log2 * 2 ^ more := Nat.pow_add _ _ _
        _ ≤ m * 2 ^ more := Nat.mul_le_mul_right _ m1
    generalize hL : f.leastPlace = L at *
    -- the word's place as two powers
    have hrne2 : Rne f ((2 * (A / n) + (A % n != 0).toNat) * 2 ^ (i - j - more - L).toNat) (2 * 2 ^ (L - (i - j - more)).toNat) r := by
      refine Rne.of_eq (Nat.two_pow_pos _) (Nat.mul_pos (by omega) (Nat.two_pow_pos _)) ?_ hrne
      generalize 2 * (A / n) + (A % n != 0).toNat = G
      have e1 : G * 2 ^ (i - j - more - 1 - L).toNat * (2 * 2 ^ (L - (i - j - more)).toNat) = G * 2 ^ ((i - j - more - 1 - L).toNat + (1 + (L - (i - j - more)).toNat)) := by
        rw [Nat.pow_add, Nat.pow_add, Nat.pow_one]; ac_rfl
      have e2 : G * 2 ^ (i - j - more - L).toNat * 2 ^ (L - (i - j - more - 1)).toNat = G * 2 ^ ((i - j - more - L).toNat + (L - (i - j - more - 1)).toNat) := by
        rw [Nat.pow_add]; ac_rfl
      rw [e1, e2]
      congr 2
      omega
    have h3 := rne_sticky hnp hq hrne2
    refine Rne.of_eq (Nat.mul_pos hnp (Nat.two_pow_pos _)) hvpos ?_ h3
    rw [← hvx, ← hvy, ← hA]
    unfold one_
    rw [hL]
    have e1 : m * 2 ^ more * 2 ^ (i - j - more - L).toNat * (n * 2 ^ (j - L).toNat) = m * n * 2 ^ (more + (i - j - more - L).toNat + (j - L).toNat) := by
      rw [Nat.pow_add, Nat.pow_add]; ac_rfl
    have e2 : m * 2 ^ (i - L).toNat * 2 ^ (-L).toNat * (n * 2 ^ (L - (i - j - more)).toNat) = m * n * 2 ^ ((i - L).toNat + (-L).toNat + (L - (i - j - more)).toNat) := by
      rw [Nat.pow_add, Nat.pow_add]; ac_rfl
    rw [e1, e2]
    congr 2
    omega
end Fl
