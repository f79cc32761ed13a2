/- Narrowing: what a finite float64 is narrowed to; the middle of two neighbours is narrowed to one of them. -/
import Derived.Test.YtpfjidijecgjcaaFlA
namespace Fl
open Ieee Go
set_option maxRecDepth 20000
theorem write_num (f : Format) (s : Bool) (m : Nat) (e : Int) : f.write (.number s m e) = f.nearest s m e := rfl
/-- A finite number is narrowed as IEEE rounds. -/
theorem fnarrow_fin {x E : Nat} (hE : E = 925) (hx : fin double x) : Rounds single (sgn double x) (val double (rung double x)) (2 ^ E) (fnarrow x) := by
  obtain ⟨m, e, hr, hl, hv⟩ := read_fin hx
  have hlS : single.leastPlace = -149 := by decide
  have hlD : double.leastPlace = -1074 := by decide
  rw [hlD] at hl hv
  have hn : isNaN double x = false := by unfold fin at hx; unfold isNaN; simp; omega
  have e1 : fnarrow x = single.nearest (sgn double x) m e := by
    unfold fnarrow
    rw [hn, hr, if_neg Bool.false_ne_true]
    exact write_num single _ _ _
  have h := nearest_rounds ok_single (sgn double x) m e
  rw [hlS] at h
  rw [e1, ← hv]
  refine h.of_eq (Nat.two_pow_pos _) (Nat.two_pow_pos _) ?_
  have h3 : (e - -149).toNat + E = (e - -1074).toNat + (-149 - e).toNat := by omega
  clear hE hr hv h e1 hlS hlD hx hn
  generalize (e - -149).toNat = a at *
  generalize (e - -1074).toNat = b at *
  generalize (-149 - e).toNat = c at *
  rw [Nat.mul_assoc, Nat.mul_assoc, ← Nat.pow_add, ← Nat.pow_add, h3]
/-- A neighbour up, in rungs: one rung a, the other a + 1. -/
theorem val_pair (a : Nat) (ha : a < single.infRung) : ∃ c q, val single a = c * 2 ^ q ∧ val single (a + 1) = (c + 1) * 2 ^ q ∧ c < 16777216 ∧ q ≤ 255 := by
  have hB : single.binade = 8388608 := by decide
  have hI : single.infRung = 2139095040 := by decide
  rw [hI] at ha
  rcases rung_cases single a with h | ⟨q, m, hm, rfl⟩
  · rw [hB] at h
    refine ⟨a, 0, ?_, ?_, by omega, by omega⟩
    · rw [val_small (by rw [hB]; omega)]; simp
    · rw [val_succ, val_small (by rw [hB]; omega), gap_small (by rw [hB]; omega)]; simp
  · rw [hB] at hm
    have hm' : m < single.binade := by rw [hB]; exact hm
    refine ⟨8388608 + m, q, ?_, ?_, by omega, by rw [hB] at ha; omega⟩
    · rw [val_mul_add hm', hB]
    · rw [val_succ, val_mul_add hm', gap_mul_add hm', hB, Nat.add_mul (8388608 + m) 1, Nat.one_mul]
/-- Half of a number. -/
theorem Ex.half {x y k : Nat} {a : Int} (hx : Ex x a (k + 1)) (hy : Ex y 1 1075) (hb : a.natAbs < 9007199254740992) (hk : k ≤ 2045) : Ex (fdiv x y) a k := by
  obtain ⟨r, h1, h2⟩ := div_sval hx.2.1 hy.2.1 (by rw [hy.2.2]; exact fun h => absurd (mul_two_eq.1 h) (by decide))
  have e1 : (sval double y).natAbs = 2 * one_ double := by
    rw [hy.2.2, Int.natAbs_mul]; decide +kernel
  have e : (sval double x).natAbs = a.natAbs * (2 ^ k * 2) := by
    rw [hx.2.2, Int.natAbs_mul, ← Nat.pow_succ]; rfl
  rw [e1, e] at h2
  have e2 : a.natAbs * (2 ^ k * 2) * one_ double = a.natAbs * 2 ^ k * (2 * one_ double) := by
    simp only [Nat.mul_assoc]
  rw [e2] at h2
  have h4 := ex_round (by have := one_pos double; omega) hb hk h2
  refine ex_of h1 h4.1 h4.2 (fun hz => ?_)
  rw [sgn_of_ex hx hz, sgn_of_ex hy (by decide), xor_lt hz (by decide), Int.mul_one]
theorem ex_fwide {x c q E : Nat} (hE : E = 925) (hx : fin single x) (h : val single (rung single x) = c * 2 ^ q) : Ex (fwide x) (if sgn single x then -(c : Int) else c) (q + E) := by
  obtain ⟨-, h1, h2, h3, h4⟩ := fwide_fin hx
  rw [← hE] at h3
  clear hE
  refine ⟨h4, h1, ?_⟩
  unfold sval
  rw [h2, h3, h, Nat.mul_assoc, ← Nat.pow_add]
  cases sgn single x
  · simp
  · simp [Int.neg_mul]
/-- The middle of a rung and the next one is narrowed to one of them. -/
theorem mid_narrow {m a c q : Nat} {s : Bool} (ha : a + 1 < single.infRung) (h0 : val single a = c * 2 ^ q) (h1 : val single (a + 1) = (c + 1) * 2 ^ q)
    {E : Nat} (hE : E = 924) (hm : Ex m (if s then -((2 * c + 1 : Nat) : Int) else ((2 * c + 1 : Nat) : Int)) (q + E)) : fnarrow m = single.word s a ∨ fnarrow m = single.word s (a + 1) := by
  obtain ⟨r, hr, e⟩ := fnarrow_fin (E := E + 1) (by omega) hm.2.1
  have hs : sgn double m = s := by
    rw [sgn_of_ex hm (by cases s <;> simp <;> omega)]
    cases s <;> simp <;> omega
  have hv : val double (rung double m) = (2 * c + 1) * 2 ^ (q + E) := by
    rw [← abs_sval, hm.2.2, Int.natAbs_mul]
    have h : (if s then -((2 * c + 1 : Nat) : Int) else ((2 * c + 1 : Nat) : Int)).natAbs = 2 * c + 1 := by
      cases s
      · rw [if_neg Bool.false_ne_true]; exact Int.natAbs_natCast _
      · rw [if_pos rfl, Int.natAbs_neg]; exact Int.natAbs_natCast _
    rw [h, Int.natAbs_natCast]
  rw [hv] at hr
  clear hE hm hv
  have p0 := Rne.exact single (2 ^ (E + 1)) a (Nat.two_pow_pos _)
  have p1 := Rne.exact single (2 ^ (E + 1)) (a + 1) (Nat.two_pow_pos _)
  have eq2 : 2 ^ q * 2 ^ (E + 1) = 2 * 2 ^ (q + E) := by
    rw [← Nat.pow_add, ← Nat.add_assoc, Nat.pow_succ, Nat.mul_comm]
  have e0 : c * 2 ^ q * 2 ^ (E + 1) = 2 * c * 2 ^ (q + E) := by
    rw [Nat.mul_assoc, eq2, Nat.mul_comm 2 c, Nat.mul_assoc]
  have e1 : (c + 1) * 2 ^ q * 2 ^ (E + 1) = (2 * c + 2) * 2 ^ (q + E) := by
    rw [Nat.mul_assoc, eq2, ← Nat.mul_assoc, Nat.add_mul, Nat.mul_comm c 2]
  rw [h0, e0] at p0
  rw [h1, e1] at p1
  have l0 := Rne.mono (Nat.two_pow_pos _) (Nat.two_pow_pos _) (Nat.mul_le_mul_right _ (Nat.mul_le_mul_right _ (by omega))) p0 hr
  have l1 := Rne.mono (Nat.two_pow_pos _) (Nat.two_pow_pos _) (Nat.mul_le_mul_right _ (Nat.mul_le_mul_right _ (by omega))) hr p1
  clear p0 p1 hr e0 e1 eq2
  rw [e, hs]
  have hmin : min r single.infRung = r := by omega
  rw [hmin]
  rcases Nat.lt_or_ge a r with h | h
  · right; rw [show r = a + 1 by omega]
  · left; rw [show r = a by omega]
end Fl
