/- The exact sum of two: what 2Sum takes off is just the error (pure; whole numbers of the least real above 0). -/
import Derived.Test.YtandllekeimpgaaFlA
namespace Fl
open Ieee Go
theorem pz (k : Nat) : (0:Int) < 2 ^ k := Int.pow_pos (by decide)
theorem pzs (k : Nat) : (2:Int) ^ (k + 1) = 2 * 2 ^ k := by rw [Int.pow_succ, Int.mul_comm]
theorem pz_dvd {j k : Nat} (h : j ≤ k) : (2:Int) ^ j ∣ 2 ^ k := ⟨2 ^ (k - j), by rw [← Int.pow_add]; congr 1; omega⟩
theorem pz_le {j k : Nat} (h : j ≤ k) : (2:Int) ^ j ≤ 2 ^ k := Int.le_of_dvd (pz k) (pz_dvd h)
/-- A whole number that a real is (however great). -/
def Rep (z : Int) : Prop := ∃ k : Nat, (2:Int) ^ k ∣ z ∧ -(9007199254740992 * 2 ^ k) ≤ z ∧ z ≤ 9007199254740992 * 2 ^ k
theorem Rep.neg {z : Int} (h : Rep z) : Rep (-z) := by
  obtain ⟨k, h1, h2, h3⟩ := h
  exact ⟨k, Int.dvd_neg.2 h1, by omega, by omega⟩
theorem Rep.zero : Rep 0 := ⟨0, ⟨0, by simp⟩, by decide, by decide⟩
theorem Rep.canon {z : Int} (h : Rep z) : ∃ k : Nat, (2:Int) ^ k ∣ z ∧ -(9007199254740992 * 2 ^ k) ≤ z ∧ z ≤ 9007199254740992 * 2 ^ k ∧ (k = 0 ∨ 4503599627370496 * 2 ^ k ≤ z ∨ z ≤ -(4503599627370496 * 2 ^ k)) := by
  obtain ⟨k, h1, h2, h3⟩ := h
  induction k with
  | zero => exact ⟨0, h1, h2, h3, .inl rfl⟩
  | succ k ih =>
    rw [pzs] at h2 h3
    by_cases h4 : 9007199254740992 * 2 ^ k ≤ z
    · exact ⟨k + 1, h1, by rw [pzs]; exact h2, by rw [pzs]; exact h3, .inr (.inl (by rw [pzs]; omega))⟩
    · by_cases h5 : z ≤ -(9007199254740992 * 2 ^ k)
      · exact ⟨k + 1, h1, by rw [pzs]; exact h2, by rw [pzs]; exact h3, .inr (.inr (by rw [pzs]; omega))⟩
      · exact ih (Int.dvd_trans (pz_dvd (Nat.le_succ k)) h1) (by omega) (by omega)
theorem rep_pow (k : Nat) : Rep (9007199254740992 * 2 ^ k) := ⟨k, ⟨9007199254740992, by rw [Int.mul_comm]⟩, by have := pz k; omega, Int.le_refl _⟩
/-- A real of a certain size has no digits below. -/
theorem Rep.dvd {s : Int} {j : Nat} (h : Rep s) (hs : 4503599627370496 * 2 ^ j ≤ s ∨ s ≤ -(4503599627370496 * 2 ^ j)) : (2:Int) ^ j ∣ s := by
  obtain ⟨k, h1, h2, h3⟩ := h
  by_cases hk : j ≤ k
  · exact Int.dvd_trans (pz_dvd hk) h1
  · obtain ⟨d, rfl⟩ : ∃ d, j = k + 1 + d := ⟨j - k - 1, by omega⟩
    have e1 := pz_le (j := k + 1) (k := k + 1 + d) (by omega)
    have e2 := pzs k
    have e3 : (2:Int) ^ (k + 1 + d) ∣ 4503599627370496 * 2 ^ (k + 1 + d) := ⟨4503599627370496, by rw [Int.mul_comm]⟩
    rcases hs with hs | hs
    · have : s = 4503599627370496 * 2 ^ (k + 1 + d) := by omega
      rw [this]; exact e3
    · have : s = -(4503599627370496 * 2 ^ (k + 1 + d)) := by omega
      rw [this]; exact Int.dvd_neg.2 e3
/-- The nearest real. -/
def Nr (z r : Int) : Prop := Rep r ∧ ∀ y, Rep y → (r - z).natAbs ≤ (y - z).natAbs
theorem Nr.exact {z r : Int} (h : Nr z r) (hz : Rep z) : r = z := by have := h.2 z hz; omega
theorem Nr.ge {z r y : Int} (h : Nr z r) (hy : Rep y) (hz : y ≤ z) : y ≤ r := by have := h.2 y hy; omega
theorem Nr.le {z r y : Int} (h : Nr z r) (hy : Rep y) (hz : z ≤ y) : r ≤ y := by have := h.2 y hy; omega
theorem Nr.neg {z r : Int} (h : Nr z r) : Nr (-z) (-r) := ⟨h.1.neg, fun y hy => by have := h.2 (-y) hy.neg; omega⟩
theorem Nr.dvd {z r : Int} {l : Nat} (h : Nr z r) (hz : (2:Int) ^ l ∣ z) : (2:Int) ^ l ∣ r := by
  have hp := pz l
  by_cases h1 : 9007199254740992 * 2 ^ l ≤ z
  · exact h.1.dvd (.inl (by have := h.ge (rep_pow l) h1; omega))
  · by_cases h2 : z ≤ -(9007199254740992 * 2 ^ l)
    · exact h.1.dvd (.inr (by have := h.le (rep_pow l).neg h2; omega))
    · rw [h.exact ⟨l, hz, by omega, by omega⟩]; exact hz
/-- A sum's error is a real. -/
theorem err_rep {a b s : Int} (ha : Rep a) (hb : Rep b) (h : Nr (a + b) s) : Rep (a + b - s) := by
  have h1 := h.2 a ha
  have h2 := h.2 b hb
  obtain ⟨k, a1, a2, a3⟩ := ha
  obtain ⟨l, b1, b2, b3⟩ := hb
  by_cases hkl : k ≤ l
  · have hz : (2:Int) ^ k ∣ a + b := Int.dvd_add a1 (Int.dvd_trans (pz_dvd hkl) b1)
    exact ⟨k, Int.dvd_sub hz (h.dvd hz), by omega, by omega⟩
  · have hz : (2:Int) ^ l ∣ a + b := Int.dvd_add (Int.dvd_trans (pz_dvd (by omega)) a1) b1
    exact ⟨l, Int.dvd_sub hz (h.dvd hz), by omega, by omega⟩
theorem rep_of_dvd {z : Int} (k : Nat) (h : (2:Int) ^ k ∣ z) (h1 : -(9007199254740992 * 2 ^ k) ≤ z) (h2 : z ≤ 9007199254740992 * 2 ^ k) : Rep z := ⟨k, h, h1, h2⟩
/-- What comes off a positive number that is the greater one. -/
theorem near_half {a c : Int} (ha : Rep a) (hc : Rep c) (h0 : 0 ≤ c) (hca : c ≤ a) (hn : ¬Rep (a - c)) :
    ∃ (k : Nat) (q : Int), a = 2 * (2 ^ k * q) ∧ 4503599627370496 * 2 ^ k ≤ 2 ^ k * q ∧ 2 ^ k * q ≤ 9007199254740992 * 2 ^ k ∧ c ≤ 2 ^ k * q := by
  obtain ⟨k, a1, a2, a3, a4⟩ := ha.canon
  have hp := pz k
  cases k with
  | zero => exact absurd ⟨0, ⟨a - c, by simp⟩, by simp at a2 a3 ⊢; omega, by simp at a2 a3 ⊢; omega⟩ hn
  | succ k =>
    obtain ⟨q, hq⟩ := a1
    have hp' := pz k
    have hs := pzs k
    rw [hs, Int.mul_assoc] at hq
    rw [hs] at a2 a3 a4
    refine ⟨k, q, hq, by omega, by omega, ?_⟩
    obtain ⟨Z, hZ⟩ : ∃ Z, Z = 2 ^ k * q := ⟨_, rfl⟩
    rw [← hZ] at hq ⊢
    refine Classical.byContradiction fun hcon => hn ?_
    have hd : (2:Int) ^ k ∣ c := hc.dvd (.inl (by omega))
    have hda : (2:Int) ^ k ∣ a := by rw [hq, hZ]; exact ⟨2 * q, by rw [← Int.mul_assoc, Int.mul_comm 2, Int.mul_assoc]⟩
    exact ⟨k, Int.dvd_sub hda hd, by omega, by omega⟩
theorem rep_half {k : Nat} {q : Int} (h1 : 4503599627370496 * 2 ^ k ≤ 2 ^ k * q) (h2 : 2 ^ k * q ≤ 9007199254740992 * 2 ^ k) : Rep (2 ^ k * q) := ⟨k, ⟨q, rfl⟩, by have := pz k; omega, h2⟩
theorem rep_two {a : Int} (h : Rep a) : Rep (2 * a) := by
  obtain ⟨k, ⟨q, hq⟩, a2, a3⟩ := h
  refine ⟨k + 1, ⟨q, ?_⟩, ?_, ?_⟩
  · rw [hq, pzs, Int.mul_assoc]
  · rw [pzs]; omega
  · rw [pzs]; omega
theorem fast_pos {a b s : Int} (ha : Rep a) (hb : Rep b) (h0 : 0 ≤ a) (hba : b.natAbs ≤ a.natAbs) (h : Nr (a + b) s) : Rep (s - a) := by
  by_cases hz : Rep (a + b)
  · rw [h.exact hz, show a + b - a = b by omega]; exact hb
  · by_cases hb0 : 0 ≤ b
    · have h1 := h.ge ha (by omega)
      have h2 := h.le (rep_two ha) (by omega)
      obtain ⟨k, a1, a2, a3, a4⟩ := ha.canon
      have hp := pz k
      refine ⟨k, Int.dvd_sub ?_ a1, by omega, by omega⟩
      rcases a4 with rfl | a4
      · exact ⟨s, by simp⟩
      · exact h.1.dvd (.inl (by omega))
    · obtain ⟨c, rfl⟩ : ∃ c, b = -c := ⟨-b, by omega⟩
      have hc : Rep c := by have := hb.neg; simpa using this
      obtain ⟨k, q, e, q1, q2, q3⟩ := near_half ha hc (by omega) (by omega) (by rw [Int.sub_eq_add_neg]; exact hz)
      have hp := pz k
      have hh := rep_half q1 q2
      have hdq : (2:Int) ^ k ∣ 2 ^ k * q := ⟨q, rfl⟩
      obtain ⟨Z, hZ⟩ : ∃ Z, Z = 2 ^ k * q := ⟨_, rfl⟩
      rw [← hZ] at e q1 q2 q3 hh hdq
      have h1 := h.ge hh (by omega)
      have h2 := h.le ha (by omega)
      refine ⟨k, Int.dvd_sub (h.1.dvd (.inl (by omega))) (by rw [e]; exact Int.dvd_mul_of_dvd_right hdq), by omega, by omega⟩
/-- The greater one comes off exactly. -/
theorem fast {a b s : Int} (ha : Rep a) (hb : Rep b) (hba : b.natAbs ≤ a.natAbs) (h : Nr (a + b) s) : Rep (s - a) := by
  by_cases h0 : 0 ≤ a
  · exact fast_pos ha hb h0 hba h
  · have := fast_pos ha.neg hb.neg (by omega) (by omega) (s := -s) (by have := h.neg; rwa [Int.neg_add] at this)
    have := this.neg
    rwa [show -(-s - -a) = s - a by omega] at this
theorem near_by {z r : Int} {l : Nat} (h : Nr z r) (h1 : -(18014398509481984 * 2 ^ l) ≤ z) (h2 : z ≤ 18014398509481984 * 2 ^ l) : (r - z).natAbs ≤ ((2:Int) ^ l).natAbs := by
  have hp := pz l
  obtain ⟨P, hP⟩ : ∃ P : Int, P = 2 ^ l := ⟨_, rfl⟩
  have hm := Int.mul_ediv_add_emod (z + P) (2 * P)
  have hm1 := Int.emod_nonneg (z + P) (b := 2 * P) (by omega)
  have hm2 := Int.emod_lt_of_pos (z + P) (b := 2 * P) (by omega)
  obtain ⟨q, hq⟩ : ∃ q, q = (z + P) / (2 * P) := ⟨_, rfl⟩
  rw [← hq] at hm
  have hd : (2:Int) ^ (l + 1) ∣ 2 * P * q := by rw [pzs, ← hP]; exact ⟨q, rfl⟩
  have hq1 : q ≤ 9007199254740992 := by
    refine Classical.byContradiction fun hc => ?_
    have := Int.mul_le_mul_of_nonneg_left (c := 2 * P) (show (9007199254740993 : Int) ≤ q by omega) (by omega)
    rw [← hP] at h2
    omega
  have hq2 : -9007199254740992 ≤ q := by
    refine Classical.byContradiction fun hc => ?_
    have := Int.mul_le_mul_of_nonneg_left (c := 2 * P) (show q ≤ (-9007199254740993 : Int) by omega) (by omega)
    rw [← hP] at h1
    omega
  have hy : Rep (2 * P * q) := by
    refine ⟨l + 1, hd, ?_, ?_⟩
    · rw [pzs, ← hP]
      have := Int.mul_le_mul_of_nonneg_left (c := 2 * P) hq2 (by omega)
      omega
    · rw [pzs, ← hP]
      have := Int.mul_le_mul_of_nonneg_left (c := 2 * P) hq1 (by omega)
      omega
  have := h.2 _ hy
  rw [← hP]
  omega
theorem third_pos {a b s t : Int} (_ : Rep a) (hb : Rep b) (h0 : 0 ≤ b) (hab : a.natAbs ≤ b.natAbs) (hs : Nr (a + b) s) (ht : Nr (s - a) t) : Rep (b - t) := by
  obtain ⟨l, b1, b2, b3, b4⟩ := hb.canon
  have hp := pz l
  have h1 := near_by hs (l := l) (by omega) (by omega)
  have h2 := ht.2 b hb
  rcases b4 with rfl | b4
  · exact ⟨0, ⟨b - t, by simp⟩, by simp at *; omega, by simp at *; omega⟩
  · cases l with
    | zero => exact ⟨0, ⟨b - t, by simp⟩, by simp at *; omega, by simp at *; omega⟩
    | succ l =>
      have hs' := pzs l
      have hp' := pz l
      rw [hs'] at b4 b2 b3 h1
      refine ⟨l, Int.dvd_sub (Int.dvd_trans (pz_dvd (Nat.le_succ l)) b1) (ht.1.dvd (.inl (by omega))), by omega, by omega⟩
theorem third {a b s t : Int} (ha : Rep a) (hb : Rep b) (hab : a.natAbs ≤ b.natAbs) (hs : Nr (a + b) s) (ht : Nr (s - a) t) : Rep (b - t) := by
  by_cases h0 : 0 ≤ b
  · exact third_pos ha hb h0 hab hs ht
  · have h1 := hs.neg
    have h2 := ht.neg
    rw [Int.neg_add] at h1
    rw [show -(s - a) = -s - -a by omega] at h2
    have := (third_pos ha.neg hb.neg (by omega) (by omega) h1 h2).neg
    rwa [show -(-b - -t) = b - t by omega] at this
/-- The sum is no smaller than the smaller one, or exact. -/
theorem great_pos {a b s : Int} (ha : Rep a) (hb : Rep b) (h0 : 0 ≤ b) (hab : a.natAbs ≤ b.natAbs) (hs : Nr (a + b) s) (hz : ¬Rep (a + b)) : a.natAbs ≤ s.natAbs := by
  by_cases ha0 : 0 ≤ a
  · have := hs.ge hb (by omega); omega
  · have ha' := ha.neg
    obtain ⟨k, q, e, q1, q2, q3⟩ := near_half hb ha' (by omega) (by omega) (by rw [show b - -a = a + b by omega]; exact hz)
    have := hs.ge ha' (by omega)
    omega
theorem great {a b s : Int} (ha : Rep a) (hb : Rep b) (hab : a.natAbs ≤ b.natAbs) (hs : Nr (a + b) s) (hz : ¬Rep (a + b)) : a.natAbs ≤ s.natAbs := by
  by_cases h0 : 0 ≤ b
  · exact great_pos ha hb h0 hab hs hz
  · have h1 := hs.neg
    rw [Int.neg_add] at h1
    have := great_pos ha.neg hb.neg (by omega) (by omega) h1 (fun h => hz (by have := h.neg; rwa [show -(-a + -b) = a + b by omega] at this))
    omega
/-- What the steps of 2Sum come to are reals outright. -/
theorem two_steps {a b s t : Int} (ha : Rep a) (hb : Rep b) (hs : Nr (a + b) s) (ht : Nr (s - a) t) : Rep (s - t) ∧ Rep (a - (s - t)) ∧ Rep (b - t) ∧ Rep (a + b - s) := by
  have hE := err_rep ha hb hs
  by_cases hx : Rep (s - a)
  · have et := ht.exact hx
    exact ⟨by rw [show s - t = a by omega]; exact ha, by rw [show a - (s - t) = 0 by omega]; exact Rep.zero, by rw [show b - t = a + b - s by omega]; exact hE, hE⟩
  · have hab : a.natAbs ≤ b.natAbs := by
      refine Classical.byContradiction fun hc => hx (fast ha hb (by omega) hs)
    have hz : ¬Rep (a + b) := fun h => hx (by rw [hs.exact h, show a + b - a = b by omega]; exact hb)
    have hg := great ha hb hab hs hz
    have ht' : Nr (s + -a) t := by rw [← Int.sub_eq_add_neg]; exact ht
    have r1 := fast hs.1 ha.neg (by omega) ht'
    have r2 := err_rep hs.1 ha.neg ht'
    have r3 := third ha hb hab hs ht
    exact ⟨by have := r1.neg; rwa [show -(t - s) = s - t by omega] at this, by have := r2.neg; rwa [show -(s + -a - t) = a - (s - t) by omega] at this, r3, hE⟩
/-- WHAT 2SUM TAKES OFF IS JUST THE ERROR. -/
theorem two_sum {a b s t u v w e : Int} (ha : Rep a) (hb : Rep b) (hs : Nr (a + b) s) (ht : Nr (s - a) t) (hu : Nr (s - t) u) (hv : Nr (a - u) v) (hw : Nr (b - t) w) (he : Nr (v + w) e) :
    s + e = a + b := by
  obtain ⟨r1, r2, r3, r4⟩ := two_steps ha hb hs ht
  have eu := hu.exact r1
  have ev := hv.exact (by rw [eu]; exact r2)
  have ew := hw.exact r3
  have ee := he.exact (by rw [show v + w = a + b - s by omega]; exact r4)
  omega
end Fl
