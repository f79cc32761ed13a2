/- Words of a format as a sign and a rung; what the operations give on finite words, in terms of Rne. -/
import Derived.Test.YtdkcdcbbpebgmaaFlB
namespace Fl
open Ieee

/-- A format with at least two bits of each field. -/
structure Ok (f : Format) : Prop where
  hp : 2 ≤ f.fractionBits
  he : 2 ≤ f.exponentBits
theorem ok_double : Ok double := ⟨by decide, by decide⟩
theorem ok_single : Ok single := ⟨by decide, by decide⟩

/-- The rung and the sign of a word. -/
def rung (f : Format) (x : Nat) : Nat := x % f.signWeight
def sgn (f : Format) (x : Nat) : Bool := x / f.signWeight % 2 == 1
def fin (f : Format) (x : Nat) : Prop := rung f x < f.infRung
/-- A finite word's value, in units of the least place. -/
def sval (f : Format) (x : Nat) : Int := if sgn f x then -(val f (rung f x) : Int) else (val f (rung f x) : Int)

theorem signWeight_pos (f : Format) : 0 < f.signWeight := Nat.two_pow_pos _
theorem width_two (f : Format) : 2 ^ f.width = 2 * f.signWeight := by
  unfold Format.width Format.signWeight
  rw [Nat.add_assoc, Nat.add_comm 1, Nat.pow_succ, Nat.mul_comm]

theorem infRung_add (f : Format) : f.infRung + f.binade = f.signWeight := by
  have h : 0 < 2 ^ f.exponentBits := Nat.two_pow_pos _
  unfold Format.infRung Format.signWeight
  rw [Nat.pow_add, ← Nat.succ_mul]
  exact congrArg (· * f.binade) (by omega)

theorem infRung_lt (f : Format) : f.infRung < f.signWeight := by
  have := infRung_add f; have := binade_pos f; omega

theorem binade_le_inf {f : Format} (ok : Ok f) : 3 * f.binade ≤ f.infRung := by
  have : 4 ≤ 2 ^ f.exponentBits := by
    calc 4 = 2 ^ 2 := rfl
      _ ≤ 2 ^ f.exponentBits := Nat.pow_le_pow_right (by omega) ok.he
  exact Nat.mul_le_mul_right f.binade (show 3 ≤ 2 ^ f.exponentBits - 1 by omega)

theorem rung_lt (f : Format) (x : Nat) : rung f x < f.signWeight := Nat.mod_lt _ (signWeight_pos f)

theorem rung_word {f : Format} (s : Bool) {r : Nat} (h : r < f.signWeight) : rung f (f.word s r) = r := by
  unfold rung Format.word
  cases s
  · simp [Nat.mod_eq_of_lt h]
  · simp [Nat.mod_eq_of_lt h]

theorem sgn_word {f : Format} (s : Bool) {r : Nat} (h : r < f.signWeight) : sgn f (f.word s r) = s := by
  have := signWeight_pos f
  unfold sgn Format.word
  cases s
  · simp [Nat.div_eq_of_lt h]
  · simp [Nat.add_div_left, this, Nat.div_eq_of_lt h]

theorem word_lt {f : Format} (s : Bool) {r : Nat} (h : r < f.signWeight) : f.word s r < 2 ^ f.width := by
  rw [width_two]; unfold Format.word; cases s <;> simp <;> omega

theorem word_split {f : Format} {x : Nat} (h : x < 2 ^ f.width) : x = f.word (sgn f x) (rung f x) := by
  have hp := signWeight_pos f
  rw [width_two] at h
  have hd := Nat.div_add_mod x f.signWeight
  have hlt : x / f.signWeight < 2 := by
    rw [Nat.div_lt_iff_lt_mul hp]; omega
  unfold sgn rung Format.word
  generalize x / f.signWeight = q at *
  rcases (show q = 0 ∨ q = 1 by omega) with rfl | rfl
  · simp; omega
  · simp; omega

theorem word_inj {f : Format} {x y : Nat} (hx : x < 2 ^ f.width) (hy : y < 2 ^ f.width) (hs : sgn f x = sgn f y) (hr : rung f x = rung f y) : x = y := by
  rw [word_split hx, word_split hy, hs, hr]

theorem read_eq (f : Format) (x : Nat) : f.read x = (if rung f x < f.binade then Datum.number (sgn f x) (rung f x) f.leastPlace
    else if rung f x < f.infRung then Datum.number (sgn f x) (f.binade + rung f x % f.binade) (f.leastPlace + (rung f x / f.binade - 1 : Nat))
    else if rung f x = f.infRung then Datum.infinity (sgn f x) else Datum.nan (sgn f x) (rung f x - f.infRung)) := rfl

/-- A finite word reads as a number of its value. -/
theorem read_fin {f : Format} {x : Nat} (h : fin f x) : ∃ m e, f.read x = .number (sgn f x) m e ∧ f.leastPlace ≤ e ∧ m * 2 ^ (e - f.leastPlace).toNat = val f (rung f x) := by
  unfold fin at h
  rw [read_eq]
  by_cases h1 : rung f x < f.binade
  · refine ⟨rung f x, f.leastPlace, by rw [if_pos h1], Int.le_refl _, ?_⟩
    rw [val_small h1]; simp
  · refine ⟨_, _, by rw [if_neg h1, if_pos h], by omega, ?_⟩
    unfold val
    rw [if_neg h1]
    congr 2
    omega

theorem read_inf {f : Format} (ok : Ok f) {x : Nat} (h : rung f x = f.infRung) : f.read x = .infinity (sgn f x) := by
  have h1 := binade_le_inf ok
  have h2 := binade_pos f
  rw [read_eq, if_neg (by omega), if_neg (by omega), if_pos h]

theorem read_nan {f : Format} (ok : Ok f) {x : Nat} (h : f.infRung < rung f x) : f.read x = .nan (sgn f x) (rung f x - f.infRung) := by
  have h1 := binade_le_inf ok
  have h2 := binade_pos f
  rw [read_eq, if_neg (by omega), if_neg (by omega), if_neg (by omega)]

/-- The three kinds of words. -/
theorem kinds (f : Format) (x : Nat) : fin f x ∨ rung f x = f.infRung ∨ f.infRung < rung f x := by unfold fin; omega

def isNaN (f : Format) (x : Nat) : Bool := decide (f.infRung < rung f x)
def isInf (f : Format) (x : Nat) : Bool := decide (rung f x = f.infRung)
def isFin (f : Format) (x : Nat) : Bool := decide (rung f x < f.infRung)

theorem isNaN_read {f : Format} (ok : Ok f) (x : Nat) : (f.read x).isNaN = isNaN f x := by
  unfold isNaN
  rcases kinds f x with h | h | h
  · obtain ⟨m, e, hr, _⟩ := read_fin h
    rw [hr]; unfold fin at h
    have : ¬ f.infRung < rung f x := by omega
    simp [Datum.isNaN, this]
  · rw [read_inf ok h]; simp [Datum.isNaN, h]
  · rw [read_nan ok h]; simp [Datum.isNaN, h]

theorem signed_eq (s : Bool) (m up : Nat) : signed s m up = if s then -((m * 2 ^ up : Nat) : Int) else ((m * 2 ^ up : Nat) : Int) := by
  unfold signed; rw [Nat.shiftLeft_eq]

theorem sval_eq {f : Format} {x m : Nat} {e base : Int} (hb : f.leastPlace ≤ base) (he : base ≤ e) (h : m * 2 ^ (e - f.leastPlace).toNat = val f (rung f x)) :
    signed (sgn f x) m (e - base).toNat * (2 : Int) ^ (base - f.leastPlace).toNat = sval f x := by
  have h1 : (e - f.leastPlace).toNat = (e - base).toNat + (base - f.leastPlace).toNat := by omega
  rw [h1, Nat.pow_add, ← Nat.mul_assoc] at h
  rw [signed_eq, sval, ← h]
  cases sgn f x
  · simp
  · simp [Int.neg_mul]

/-- 'b' is 'N / D' with a sign, rounded. -/
def Rounds (f : Format) (s : Bool) (N D b : Nat) : Prop := ∃ r, Rne f N D r ∧ b = f.word s (min r f.infRung)

theorem Rounds.congr {f : Format} {s : Bool} {N D N' D' b b' : Nat} (hD : 0 < D) (hD' : 0 < D') (e : N * D' = N' * D) (h : Rounds f s N D b) (h' : Rounds f s N' D' b') : b = b' := by
  obtain ⟨r, h1, rfl⟩ := h
  obtain ⟨r', h1', rfl⟩ := h'
  rw [h1.congr hD hD' e h1']

theorem Rounds.lt {f : Format} {s : Bool} {N D b : Nat} (h : Rounds f s N D b) : b < 2 ^ f.width := by
  obtain ⟨r, _, rfl⟩ := h
  have := infRung_lt f
  exact word_lt s (by omega)

theorem Rounds.sgn {f : Format} {s : Bool} {N D b : Nat} (h : Rounds f s N D b) : Fl.sgn f b = s := by
  obtain ⟨r, _, rfl⟩ := h
  have := infRung_lt f
  exact sgn_word s (by omega)

theorem Rounds.rung {f : Format} {s : Bool} {N D b : Nat} (h : Rounds f s N D b) : ∃ r, Rne f N D r ∧ Fl.rung f b = min r f.infRung := by
  obtain ⟨r, h1, rfl⟩ := h
  have := infRung_lt f
  exact ⟨r, h1, rung_word s (by omega)⟩

theorem nearest_rounds {f : Format} (ok : Ok f) (neg : Bool) (mag : Nat) (place : Int) :
    Rounds f neg (mag * 2 ^ (place - f.leastPlace).toNat) (2 ^ (f.leastPlace - place).toNat) (f.nearest neg mag place) :=
  ⟨_, rungOf_rne (by have := ok.hp; omega) neg mag place, nearest_eq f neg mag place⟩

theorem natAbs_mul_pow (a : Int) (k : Nat) : (a * (2 : Int) ^ k).natAbs = a.natAbs * 2 ^ k := by
  rw [Int.natAbs_mul, Int.natAbs_pow]; rfl

/-- THE SUM of two finite words: the exact sum, rounded once. -/
theorem add_fin {f : Format} (ok : Ok f) {x y : Nat} (hx : fin f x) (hy : fin f y) :
    ∃ b, f.add x y = some b ∧ Rounds f (if sval f x + sval f y = 0 then sgn f x && sgn f y else decide (sval f x + sval f y < 0)) (sval f x + sval f y).natAbs 1 b := by
  obtain ⟨m, i, hrx, hi, hvx⟩ := read_fin hx
  obtain ⟨n, j, hry, hj, hvy⟩ := read_fin hy
  refine ⟨_, by rw [Format.add, hrx, hry]; rfl, ?_⟩
  have hb : f.leastPlace ≤ min i j := by omega
  have e1 := sval_eq (x := x) hb (Int.min_le_left i j) hvx
  have e2 := sval_eq (x := y) hb (Int.min_le_right i j) hvy
  have hsum : (signed (sgn f x) m (i - min i j).toNat + signed (sgn f y) n (j - min i j).toNat) * (2 : Int) ^ (min i j - f.leastPlace).toNat = sval f x + sval f y := by
    rw [Int.add_mul, e1, e2]
  generalize signed (sgn f x) m (i - min i j).toNat + signed (sgn f y) n (j - min i j).toNat = T at *
  have hpos : (0 : Int) < (2 : Int) ^ (min i j - f.leastPlace).toNat := Int.pow_pos (by omega)
  have hz : (T = 0) ↔ (sval f x + sval f y = 0) := by
    rw [← hsum]; constructor
    · intro h; rw [h, Int.zero_mul]
    · intro h; rcases Int.mul_eq_zero.1 h with h | h
      · exact h
      · omega
  have hn : (T < 0) ↔ (sval f x + sval f y < 0) := by
    rw [← hsum]; constructor
    · intro h; exact Int.mul_neg_of_neg_of_pos h hpos
    · intro h; refine Int.lt_of_not_ge fun h' => ?_
      have := Int.mul_nonneg h' (Int.le_of_lt hpos); omega
  have hr := nearest_rounds ok (if T = 0 then sgn f x && sgn f y else decide (T < 0)) T.natAbs (min i j)
  have e3 : (f.leastPlace - min i j).toNat = 0 := by omega
  rw [e3, ← natAbs_mul_pow, hsum] at hr
  simp only [hz, hn] at hr
  simp only [Format.write, hz, hn]
  exact hr
end Fl
