/- InverseNames, and all that it alone wants (FlEx, FlTw, L02a, Ldx, MX12, Ldn, OFF, LInNm pasted). -/
import Derived.Test.YtajdfbjjgjpicaaFlAb
import Derived.Test.YtajdfbjjgjpicaaFlSz
import Derived.Test.YtajdfbjjgjpicaaRParts
import Derived.Test.YtajdfbjjgjpicaaFr
import Derived.Test.YtajdfbjjgjpicaaMem
import Derived.Test.YtajdfbjjgjpicaaMX9
import Derived.Test.YtajdfbjjgjpicaaMX10
import Derived.Test.YtajdfbjjgjpicaaMX16
import Derived.Test.YtajdfbjjgjpicaaMX18
import Derived.Test.YtajdfbjjgjpicaaHas
import Derived.Test.YtajdfbjjgjpicaaIV4
namespace Fl
open Ieee Go
/-- A finite word, its size by its rung. -/
abbrev sv (x : Nat) : Int := sval double x
theorem abs_sval (x : Nat) : (sval double x).natAbs = val double (rung double x) := by unfold sval; split <;> omega
theorem sval_word (s : Bool) {r : Nat} (h : r ≤ double.infRung) : sval double (double.word s r) = if s then -(val double r : Int) else (val double r : Int) := by
  have hl := infRung_lt double
  unfold sval; rw [sgn_word s (by omega), rung_word s (by omega)]
theorem fin_word (s : Bool) {r : Nat} (h : r < double.infRung) : fin double (double.word s r) := by
  have hl := infRung_lt double
  unfold fin; rw [rung_word s (by omega)]; exact h
theorem zero_rung {x : Nat} : sval double x = 0 ↔ rung double x = 0 := by
  constructor
  · intro h
    have h1 : val double (rung double x) = 0 := by rw [← abs_sval, h]; rfl
    exact val_inj (f := double) (h1.trans (val_zero double).symm)
  · intro h; unfold sval; rw [h, val_zero]; simp
theorem sgn_of_sval {x : Nat} (h : sval double x ≠ 0) : sgn double x = decide (sval double x < 0) := by
  have h1 : rung double x ≠ 0 := fun e => h (zero_rung.2 e)
  have h2 := le_val double (rung double x)
  unfold sval
  cases sgn double x
  · simp
  · simp; omega
/-! ### The operations, told by the exact numbers -/
theorem add_sval {x y : Nat} (hx : fin double x) (hy : fin double y) :
    ∃ r s, fadd x y = double.word s (min r double.infRung) ∧ Rne double (sval double x + sval double y).natAbs 1 r ∧ (sval double x + sval double y ≠ 0 → s = decide (sval double x + sval double y < 0)) := by
  obtain ⟨b, h1, h2⟩ := add_fin ok_double hx hy
  have hb : fadd x y = b := by
    unfold fadd fop
    show (double.add x y).getD _ = b
    rw [h1]; rfl
  obtain ⟨r, h3, h4⟩ := h2
  exact ⟨r, _, hb.trans h4, h3, fun h => if_neg h⟩
theorem mul_sval {x y : Nat} (hx : fin double x) (hy : fin double y) :
    ∃ r, fmul x y = double.word (sgn double x ^^ sgn double y) (min r double.infRung) ∧ Rne double ((sval double x).natAbs * (sval double y).natAbs) (one_ double) r := by
  obtain ⟨b, h1, h2⟩ := mul_fin ok_double hx hy
  have hb : fmul x y = b := by
    unfold fmul fop
    show (double.mul x y).getD _ = b
    rw [h1]; rfl
  obtain ⟨r, h3, h4⟩ := h2
  rw [abs_sval, abs_sval]
  exact ⟨r, hb.trans h4, h3⟩
theorem div_sval {x y : Nat} (hx : fin double x) (hy : fin double y) (h0 : sval double y ≠ 0) :
    ∃ r, fdiv x y = double.word (sgn double x ^^ sgn double y) (min r double.infRung) ∧ Rne double ((sval double x).natAbs * one_ double) (sval double y).natAbs r := by
  obtain ⟨b, h1, h2⟩ := div_fin ok_double hx hy (fun e => h0 (zero_rung.2 e))
  have hb : fdiv x y = b := by
    unfold fdiv fop
    show (double.div x y).getD _ = b
    rw [h1]; rfl
  obtain ⟨r, h3, h4⟩ := h2
  rw [abs_sval, abs_sval]
  exact ⟨r, hb.trans h4, h3⟩
/-! ### Powers of two among the rungs -/
theorem val_inf_ex : ∃ M, M = 2098 ∧ val double double.infRung = 2 ^ M := ⟨2098, rfl, val_inf_double⟩
theorem pw (k : Nat) (h : k ≤ 2097) : ∃ s, val double s = 2 ^ k ∧ s < double.infRung := by
  obtain ⟨s, hs⟩ := repr double k 1 (by rw [binade64]; omega)
  rw [Nat.one_mul] at hs
  refine ⟨s, hs, (val_lt_iff (f := double)).1 ?_⟩
  obtain ⟨M, hM, e⟩ := val_inf_ex
  rw [hs, e]
  exact Nat.pow_lt_pow_right (by omega) (by omega)
theorem one_pow : ∃ K, K = 1074 ∧ one_ double = 2 ^ K := ⟨1074, rfl, by decide +kernel⟩
theorem binade_of_lo {r a : Nat} (ha : 54 ≤ a) (h : 2 ^ a ≤ val double r) : double.binade < r := by
  refine (val_lt_iff (f := double)).1 (Nat.lt_of_lt_of_le ?_ h)
  have e : val double double.binade = 2 ^ 52 := by decide +kernel
  rw [e]; exact Nat.pow_lt_pow_right (by omega) (by omega)
/-- A size of so many digits is a multiple of what its last digit stands for. -/
theorem dvd_of_lo {r a : Nat} (ha : 52 ≤ a) (h : 2 ^ a ≤ val double r) : 2 ^ (a - 52) ∣ val double r := by
  obtain ⟨c, q, hv, hc, _⟩ := val_form double r
  rw [binade64] at hc
  have hq : a - 52 ≤ q := by
    refine Nat.le_of_not_lt fun hlt => ?_
    have h1 : val double r < 2 ^ 53 * 2 ^ q := by
      rw [hv]; exact Nat.mul_lt_mul_of_pos_right (by omega) (Nat.two_pow_pos _)
    rw [← Nat.pow_add] at h1
    have h2 : 2 ^ (53 + q) ≤ 2 ^ a := Nat.pow_le_pow_right (by omega) (by omega)
    omega
  rw [hv]
  exact Nat.dvd_trans (Nat.pow_dvd_pow 2 hq) (Nat.dvd_mul_left _ _)
/-! ### Bounds -/
/-- Finite; nought, or of a size from 2^lo (in units of the least) to 2^hi. -/
def Bd (x lo hi : Nat) : Prop := fin double x ∧ (sval double x = 0 ∨ 2 ^ lo ≤ (sval double x).natAbs) ∧ (sval double x).natAbs ≤ 2 ^ hi
theorem Bd.mono {x a b c d : Nat} (h : Bd x a b) (h1 : c ≤ a) (h2 : b ≤ d) : Bd x c d :=
  ⟨h.1, h.2.1.imp id (Nat.le_trans (Nat.pow_le_pow_right (by omega) h1)), Nat.le_trans h.2.2 (Nat.pow_le_pow_right (by omega) h2)⟩
theorem rne_hi {N D r k : Nat} (hD : 0 < D) (h : Rne double N D r) (hk : k ≤ 2097) (hN : N ≤ 2 ^ k * D) : r < double.infRung ∧ val double r ≤ 2 ^ k := by
  obtain ⟨s, hs, hi⟩ := pw k hk
  have h1 : r ≤ s := rne_le hD h (by rw [hs]; exact hN)
  exact ⟨by omega, by rw [← hs]; exact val_le h1⟩
theorem rne_lo {N D r k : Nat} (hD : 0 < D) (h : Rne double N D r) (hk : k ≤ 2097) (hN : 2 ^ k * D ≤ N) : 2 ^ k ≤ val double r := by
  obtain ⟨s, hs, _⟩ := pw k hk
  have h1 : s ≤ r := le_rne hD h (by rw [hs]; exact hN)
  rw [← hs]; exact val_le h1
theorem rne_zero {D r : Nat} (hD : 0 < D) (h : Rne double 0 D r) : r = 0 := h.unique hD (Rne.zero double D hD)
theorem natAbs_word {s : Bool} {r : Nat} (h : r < double.infRung) : (sval double (double.word s (min r double.infRung))).natAbs = val double r := by
  have e : min r double.infRung = r := by omega
  rw [e, sval_word s (Nat.le_of_lt h)]
  cases s <;> simp
theorem Bd.of {x r lo hi : Nat} {s : Bool} (hx : x = double.word s (min r double.infRung)) (hr : r < double.infRung) (hl : r = 0 ∨ 2 ^ lo ≤ val double r) (hh : val double r ≤ 2 ^ hi) : Bd x lo hi := by
  have e : min r double.infRung = r := by omega
  have h1 := natAbs_word (s := s) hr
  rw [← hx] at h1
  refine ⟨by rw [hx, e]; exact fin_word s hr, ?_, by rw [h1]; exact hh⟩
  rcases hl with h | h
  · left
    have : (sval double x).natAbs = 0 := by rw [h1, h, val_zero]
    omega
  · right; rw [h1]; exact h
theorem Bd.mul {x y a b c d l h : Nat} (hx : Bd x a b) (hy : Bd y c d) (hl : l + 1074 = a + c) (hh : h + 1074 = b + d) (hh' : h ≤ 2097) (hlh : l ≤ 2097) : Bd (fmul x y) l h := by
  obtain ⟨r, h1, h2⟩ := mul_sval hx.1 hy.1
  have hU := one_pos double
  obtain ⟨K, hK, eU⟩ := one_pow
  rw [← hK] at hl hh
  have hhi := rne_hi hU h2 hh' (by
    rw [eU, ← Nat.pow_add, hh, Nat.pow_add]
    exact Nat.mul_le_mul hx.2.2 hy.2.2)
  refine Bd.of h1 hhi.1 ?_ hhi.2
  rcases hx.2.1 with h0 | h0
  · left; rw [h0] at h2; simp at h2; exact rne_zero hU h2
  · rcases hy.2.1 with h0' | h0'
    · left; rw [h0'] at h2; simp at h2; exact rne_zero hU h2
    · right
      refine rne_lo hU h2 hlh ?_
      rw [eU, ← Nat.pow_add, hl, Nat.pow_add]
      exact Nat.mul_le_mul h0 h0'
theorem Bd.div {x y a b c d l h : Nat} (hx : Bd x a b) (hy : Bd y c d) (h0 : sval double y ≠ 0) (hl : l + d = a + 1074) (hh : h + c = b + 1074) (hh' : h ≤ 2097) (hlh : l ≤ 2097) : Bd (fdiv x y) l h := by
  obtain ⟨r, h1, h2⟩ := div_sval hx.1 hy.1 h0
  have hD : 0 < (sval double y).natAbs := by omega
  have hy1 : 2 ^ c ≤ (sval double y).natAbs := hy.2.1.resolve_left h0
  obtain ⟨K, hK, eU⟩ := one_pow
  rw [← hK] at hl hh
  have hhi := rne_hi hD h2 hh' (by
    rw [eU]
    have e1 : (sval double x).natAbs * 2 ^ K ≤ 2 ^ b * 2 ^ K := Nat.mul_le_mul_right _ hx.2.2
    have e2 : 2 ^ h * 2 ^ c ≤ 2 ^ h * (sval double y).natAbs := Nat.mul_le_mul_left _ hy1
    rw [← Nat.pow_add] at e1 e2
    rw [hh] at e2
    exact Nat.le_trans e1 e2)
  refine Bd.of h1 hhi.1 ?_ hhi.2
  rcases hx.2.1 with hz | hz
  · left; rw [hz] at h2; simp at h2; exact rne_zero hD h2
  · right
    refine rne_lo hD h2 hlh ?_
    rw [eU]
    have e1 : 2 ^ a * 2 ^ K ≤ (sval double x).natAbs * 2 ^ K := Nat.mul_le_mul_right _ hz
    have e2 : 2 ^ l * (sval double y).natAbs ≤ 2 ^ l * 2 ^ d := Nat.mul_le_mul_left _ hy.2.2
    rw [← Nat.pow_add] at e1 e2
    rw [hl] at e2
    exact Nat.le_trans e2 e1
theorem Bd.dvd {x a b m : Nat} (hx : Bd x a b) (hm : m + 52 ≤ a) : ((2 ^ m : Nat) : Int) ∣ sval double x := by
  rcases hx.2.1 with h | h
  · rw [h]; exact Int.dvd_zero _
  · rw [abs_sval] at h
    have h1 := dvd_of_lo (r := rung double x) (a := a) (by omega) h
    have h2 : 2 ^ m ∣ val double (rung double x) := Nat.dvd_trans (Nat.pow_dvd_pow 2 (by omega)) h1
    rw [← abs_sval] at h2
    exact Int.ofNat_dvd_left.2 h2
theorem Bd.add {x y a b c d l h : Nat} (hx : Bd x a b) (hy : Bd y c d) (hl1 : l + 52 ≤ a) (hl2 : l + 52 ≤ c) (hh1 : b + 1 ≤ h) (hh2 : d + 1 ≤ h) (hh' : h ≤ 2097) (hlh : l ≤ 2097) : Bd (fadd x y) l h := by
  obtain ⟨r, s, h1, h2, _⟩ := add_sval hx.1 hy.1
  have hp : ∀ k, k + 1 ≤ h → 2 ^ k * 2 ≤ 2 ^ h := fun k hk => by rw [← Nat.pow_succ]; exact Nat.pow_le_pow_right (by omega) hk
  have e1 := hp b hh1
  have e2 := hp d hh2
  have b1 := hx.2.2
  have b2 := hy.2.2
  have hhi := rne_hi Nat.one_pos h2 hh' (by
    rw [Nat.mul_one]
    have := Int.natAbs_add_le (sval double x) (sval double y)
    omega)
  refine Bd.of h1 hhi.1 ?_ hhi.2
  by_cases hz : sval double x + sval double y = 0
  · left; rw [hz] at h2; exact rne_zero Nat.one_pos h2
  · right
    refine rne_lo Nat.one_pos h2 hlh ?_
    rw [Nat.mul_one]
    have hd : ((2 ^ l : Nat) : Int) ∣ sval double x + sval double y := Int.dvd_add (hx.dvd hl1) (hy.dvd hl2)
    have := Int.ofNat_dvd_left.1 hd
    exact Nat.le_of_dvd (by omega) this
theorem Bd.neg {x a b : Nat} (hl : x < 18446744073709551616) (hx : Bd x a b) : Bd (fneg x) a b := by
  have hn : isNaN double x = false := by have := hx.1; unfold fin at this; unfold isNaN; simp; omega
  have e : sval double (fneg x) = -sval double x := by rw [fneg_of_not hn]; exact sval_flip (f := double) hl
  refine ⟨by have := hx.1; unfold fin at *; rw [rung_fneg hl hn]; exact this, ?_, ?_⟩
  · rw [e]; rcases hx.2.1 with h | h
    · left; rw [h]; rfl
    · right; rw [Int.natAbs_neg]; exact h
  · rw [e, Int.natAbs_neg]; exact hx.2.2
theorem sval_fneg {x : Nat} (hl : x < 18446744073709551616) (hx : fin double x) : sval double (fneg x) = -sval double x := by
  have hn : isNaN double x = false := by unfold fin at hx; unfold isNaN; simp; omega
  rw [fneg_of_not hn]; exact sval_flip (f := double) hl
/-! ### Equal numbers -/
theorem feq_of_sval {x y : Nat} (hx : fin double x) (hy : fin double y) (h : sval double x = sval double y) : feq .f64 x y = true := by
  have nx : isNaN double x = false := by unfold fin at hx; unfold isNaN; simp; omega
  have ny : isNaN double y = false := by unfold fin at hy; unfold isNaN; simp; omega
  have h1 := feq_def .f64 x y
  have e : FloatKind.f64.format = double := rfl
  rw [e, nx, ny] at h1
  rw [h1]
  simp only [Bool.not_false, Bool.true_and, decide_eq_true_eq]
  have hr : rung double x = rung double y := val_inj (f := double) (by rw [← abs_sval, ← abs_sval, h])
  by_cases h0 : sval double x = 0
  · have a := zero_rung.1 h0
    have b := zero_rung.1 (h ▸ h0)
    unfold key; rw [a, b]; simp
  · have a := sgn_of_sval h0
    have b := sgn_of_sval (x := y) (by rw [← h]; exact h0)
    unfold key; rw [a, b, h, hr]
/-! ### A power of two -/
theorem val_shift {r : Nat} (i : Nat) (h : double.binade ≤ r) : val double (r + i * double.binade) = val double r * 2 ^ i := by
  rcases rung_cases double r with h1 | ⟨q, m, hm, rfl⟩
  · omega
  · have e : double.binade * (q + 1) + m + i * double.binade = double.binade * (q + i + 1) + m := by
      rw [Nat.mul_comm i, Nat.add_right_comm, ← Nat.mul_add]; congr 2; omega
    rw [e, val_mul_add hm, val_mul_add hm, Nat.pow_add, Nat.mul_assoc]
theorem rne_shift {N D r : Nat} (i : Nat) (h : double.binade < r) : Rne double (N * 2 ^ i) D (r + i * double.binade) ↔ Rne double N D r := by
  have hp : 0 < 2 ^ i := Nat.two_pow_pos _
  have v0 := val_shift (r := r) i (Nat.le_of_lt h)
  have v1 : val double (r + i * double.binade + 1) = val double (r + 1) * 2 ^ i := by
    rw [Nat.add_right_comm]; exact val_shift i (by omega)
  have hpar : (r + i * double.binade) % 2 = r % 2 := by
    have : i * double.binade = 2 * (i * 2251799813685248) := by rw [binade64]; omega
    omega
  obtain ⟨p, rfl⟩ : ∃ p, r = p + 1 := ⟨r - 1, by omega⟩
  have vp : val double (p + i * double.binade) = val double p * 2 ^ i := val_shift i (by omega)
  unfold Rne
  rw [v0, v1, hpar, ← Nat.add_mul]
  have e1 : 2 * (N * 2 ^ i) = 2 * N * 2 ^ i := (Nat.mul_assoc _ _ _).symm
  have e2 : ∀ S, S * 2 ^ i * D = S * D * 2 ^ i := fun S => Nat.mul_right_comm _ _ _
  rw [e1, e2]
  have l1 : ∀ a b : Nat, a * 2 ^ i < b * 2 ^ i ↔ a < b := fun a b => Nat.mul_lt_mul_right hp
  have l2 : ∀ a b : Nat, a * 2 ^ i = b * 2 ^ i ↔ a = b := fun a b => Nat.mul_left_inj (by omega)
  rw [l1, l2]
  constructor
  · rintro ⟨h1, h2⟩
    refine ⟨h1, fun q hq => ?_⟩
    have hq' : q = p := by omega
    subst hq'
    have h3 := h2 (q + i * double.binade) (by omega)
    rw [vp, ← Nat.add_mul, e2, l1, l2] at h3
    exact h3
  · rintro ⟨h1, h2⟩
    refine ⟨h1, fun q hq => ?_⟩
    have hq' : q = p + i * double.binade := by omega
    subst hq'
    rw [vp, ← Nat.add_mul, e2, l1, l2]
    exact h2 p rfl
/-- y is x times 2^i. -/
def Sc (i x y : Nat) : Prop := fin double x ∧ fin double y ∧ sval double y = sval double x * (2 ^ i : Nat)
theorem Sc.abs {i x y : Nat} (h : Sc i x y) : (sval double y).natAbs = (sval double x).natAbs * 2 ^ i := by rw [h.2.2, Int.natAbs_mul]; rfl
theorem Sc.zero {i x y : Nat} (h : Sc i x y) : sval double x = 0 ↔ sval double y = 0 := by
  have hp : 0 < 2 ^ i := Nat.two_pow_pos _
  rw [h.2.2]
  constructor
  · intro e; rw [e]; simp
  · intro e; rcases Int.mul_eq_zero.1 e with h1 | h1
    · exact h1
    · omega
theorem Sc.sgn {i x y : Nat} (h : Sc i x y) (h0 : sval double x ≠ 0) : Fl.sgn double y = Fl.sgn double x := by
  have hp : (0 : Int) < ((2 ^ i : Nat) : Int) := by have := Nat.two_pow_pos i; omega
  rw [sgn_of_sval h0, sgn_of_sval (fun e => h0 (h.zero.2 e)), h.2.2]
  rw [decide_eq_decide]
  constructor
  · intro h1
    rcases Int.lt_or_le (sval double x) 0 with h2 | h2
    · exact h2
    · have := Int.mul_nonneg h2 (Int.le_of_lt hp); omega
  · intro h1
    exact Int.mul_neg_of_neg_of_pos h1 hp
/-- Both results: rounded alike. -/
theorem Sc.of {i r r' x y : Nat} {s s' : Bool} (hx : x = double.word s (min r double.infRung)) (hy : y = double.word s' (min r' double.infRung)) (hr : r < double.infRung) (hr' : r' < double.infRung)
    (h : (r = 0 ∧ r' = 0) ∨ (double.binade < r ∧ r' = r + i * double.binade ∧ s' = s)) : Sc i x y := by
  have e : min r double.infRung = r := by omega
  have e' : min r' double.infRung = r' := by omega
  rw [e] at hx; rw [e'] at hy
  refine ⟨by rw [hx]; exact fin_word s hr, by rw [hy]; exact fin_word s' hr', ?_⟩
  rw [hx, hy, sval_word s (Nat.le_of_lt hr), sval_word s' (Nat.le_of_lt hr')]
  rcases h with ⟨rfl, rfl⟩ | ⟨h1, rfl, rfl⟩
  · rw [val_zero]; cases s <;> cases s' <;> simp
  · rw [val_shift i (Nat.le_of_lt h1)]
    cases s' <;> simp [Int.neg_mul]
theorem Sc.bd {i x y a b : Nat} (h : Sc i x y) (hx : Bd x a b) : Bd y a (b + i) := by
  have hp : 1 ≤ 2 ^ i := Nat.one_le_two_pow
  refine ⟨h.2.1, ?_, ?_⟩
  · rcases hx.2.1 with h0 | h0
    · exact .inl (h.zero.1 h0)
    · right; rw [h.abs]; exact Nat.le_trans h0 (Nat.le_mul_of_pos_right _ hp)
  · rw [h.abs, Nat.pow_add]; exact Nat.mul_le_mul_right _ hx.2.2
theorem fin_of_eq {x r : Nat} {s : Bool} (hx : x = double.word s (min r double.infRung)) (hf : fin double x) : r < double.infRung := by
  have hl := infRung_lt double
  rw [hx] at hf; unfold fin at hf; rw [rung_word _ (by omega)] at hf; omega
theorem Sc.mul {i x y t a b c d : Nat} (h : Sc i x y) (bx : Bd x a b) (bt : Bd t c d) (hl : 1128 ≤ a + c) (hl2 : a + c ≤ 3171) (hb0 : 1074 ≤ b + d) (hh : b + i + d ≤ 3171) : Sc i (fmul x t) (fmul y t) := by
  obtain ⟨r, h1, h2⟩ := mul_sval h.1 bt.1
  obtain ⟨r', h1', h2'⟩ := mul_sval h.2.1 bt.1
  have hU := one_pos double
  have f1 : fin double (fmul x t) := (Bd.mul bx bt (l := a + c - 1074) (h := b + d - 1074) (by omega) (by omega) (by omega) (by omega)).1
  have f2 : fin double (fmul y t) := (Bd.mul (h.bd bx) bt (l := a + c - 1074) (h := b + i + d - 1074) (by omega) (by omega) (by omega) (by omega)).1
  refine Sc.of h1 h1' (fin_of_eq h1 f1) (fin_of_eq h1' f2) ?_
  rw [h.abs, Nat.mul_right_comm] at h2'
  rcases bx.2.1 with h0 | h0
  · left; rw [h0] at h2 h2'; simp at h2 h2'; exact ⟨rne_zero hU h2, rne_zero hU h2'⟩
  · rcases bt.2.1 with h0' | h0'
    · left; rw [h0'] at h2 h2'; simp at h2 h2'; exact ⟨rne_zero hU h2, rne_zero hU h2'⟩
    · right
      have hbig : double.binade < r := by
        refine binade_of_lo (a := a + c - 1074) (by omega) (rne_lo hU h2 (by omega) ?_)
        obtain ⟨K, hK, eU⟩ := one_pow
        have e : a + c - 1074 + K = a + c := by omega
        rw [eU, ← Nat.pow_add, e, Nat.pow_add]
        exact Nat.mul_le_mul h0 h0'
      have hx0 : sval double x ≠ 0 := by
        intro e; rw [e] at h0; have := Nat.two_pow_pos a; simp at h0
      exact ⟨hbig, h2'.unique hU ((rne_shift i hbig).2 h2), by rw [h.sgn hx0]⟩
theorem Sc.div {i x y t a b c d : Nat} (h : Sc i x y) (bx : Bd x a b) (bt : Bd t c d) (ht : sval double t ≠ 0) (hl : d + 54 ≤ a + 1074) (hl2 : a + 1074 ≤ 2097 + d) (hc : c ≤ b + 1074) (hh : b + i + 1074 ≤ 2097 + c) : Sc i (fdiv x t) (fdiv y t) := by
  obtain ⟨r, h1, h2⟩ := div_sval h.1 bt.1 ht
  obtain ⟨r', h1', h2'⟩ := div_sval h.2.1 bt.1 ht
  have hD : 0 < (sval double t).natAbs := by omega
  have f1 : fin double (fdiv x t) := (Bd.div bx bt ht (l := a + 1074 - d) (h := b + 1074 - c) (by omega) (by omega) (by omega) (by omega)).1
  have f2 : fin double (fdiv y t) := (Bd.div (h.bd bx) bt ht (l := a + 1074 - d) (h := b + i + 1074 - c) (by omega) (by omega) (by omega) (by omega)).1
  refine Sc.of h1 h1' (fin_of_eq h1 f1) (fin_of_eq h1' f2) ?_
  rw [h.abs, Nat.mul_right_comm] at h2'
  rcases bx.2.1 with h0 | h0
  · left; rw [h0] at h2 h2'; simp at h2 h2'; exact ⟨rne_zero hD h2, rne_zero hD h2'⟩
  · right
    have hbig : double.binade < r := by
      refine binade_of_lo (a := a + 1074 - d) (by omega) (rne_lo hD h2 (by omega) ?_)
      obtain ⟨K, hK, eU⟩ := one_pow
      rw [eU]
      have e1 : 2 ^ a * 2 ^ K ≤ (sval double x).natAbs * 2 ^ K := Nat.mul_le_mul_right _ h0
      have e2 : 2 ^ (a + 1074 - d) * (sval double t).natAbs ≤ 2 ^ (a + 1074 - d) * 2 ^ d := Nat.mul_le_mul_left _ bt.2.2
      have e : a + 1074 - d + d = a + K := by omega
      rw [← Nat.pow_add] at e1 e2
      rw [e] at e2
      exact Nat.le_trans e2 e1
    have hx0 : sval double x ≠ 0 := by
      intro e; rw [e] at h0; have := Nat.two_pow_pos a; simp at h0
    exact ⟨hbig, h2'.unique hD ((rne_shift i hbig).2 h2), by rw [h.sgn hx0]⟩
theorem Sc.add {i x y u v a b c d l k : Nat} (h : Sc i x y) (h' : Sc i u v) (bx : Bd x a b) (bu : Bd u c d) (hl1 : l + 52 ≤ a) (hl2 : l + 52 ≤ c) (hl : 54 ≤ l) (hl3 : l ≤ 2097) (hb : b ≤ k) (hd : d ≤ k) (hh : k + i + 1 ≤ 2097) : Sc i (fadd x u) (fadd y v) := by
  obtain ⟨r, s, h1, h2, hs⟩ := add_sval h.1 h'.1
  obtain ⟨r', s', h1', h2', hs'⟩ := add_sval h.2.1 h'.2.1
  have f1 : fin double (fadd x u) := (Bd.add bx bu (l := l) (h := k + 1) hl1 hl2 (by omega) (by omega) (by omega) hl3).1
  have f2 : fin double (fadd y v) := (Bd.add (h.bd bx) (h'.bd bu) (l := l) (h := k + i + 1) hl1 hl2 (by omega) (by omega) (by omega) hl3).1
  refine Sc.of h1 h1' (fin_of_eq h1 f1) (fin_of_eq h1' f2) ?_
  have e : sval double y + sval double v = (sval double x + sval double u) * (2 ^ i : Nat) := by rw [h.2.2, h'.2.2, Int.add_mul]
  have hp : (0 : Int) < ((2 ^ i : Nat) : Int) := by have := Nat.two_pow_pos i; omega
  by_cases hz : sval double x + sval double u = 0
  · left
    have hz' : sval double y + sval double v = 0 := by rw [e, hz]; simp
    rw [hz] at h2; rw [hz'] at h2'
    exact ⟨rne_zero Nat.one_pos h2, rne_zero Nat.one_pos h2'⟩
  · right
    have hdv : ((2 ^ l : Nat) : Int) ∣ sval double x + sval double u := Int.dvd_add (bx.dvd hl1) (bu.dvd hl2)
    have hlo := Nat.le_of_dvd (by omega) (Int.ofNat_dvd_left.1 hdv)
    have hbig : double.binade < r := binade_of_lo hl (rne_lo Nat.one_pos h2 hl3 (by rw [Nat.mul_one]; exact hlo))
    have e2 : (sval double y + sval double v).natAbs = (sval double x + sval double u).natAbs * 2 ^ i := by rw [e, Int.natAbs_mul]; rfl
    rw [e2] at h2'
    refine ⟨hbig, h2'.unique Nat.one_pos ((rne_shift i hbig).2 h2), ?_⟩
    have hz' : sval double y + sval double v ≠ 0 := by
      rw [e]; intro hm; rcases Int.mul_eq_zero.1 hm with h3 | h3
      · exact hz h3
      · omega
    rw [hs hz, hs' hz', e, decide_eq_decide]
    constructor
    · intro h3
      rcases Int.lt_or_le (sval double x + sval double u) 0 with h4 | h4
      · exact h4
      · have := Int.mul_nonneg h4 (Int.le_of_lt hp); omega
    · intro h3; exact Int.mul_neg_of_neg_of_pos h3 hp
theorem Sc.neg {i x y : Nat} (h : Sc i x y) (hx : x < 18446744073709551616) (hy : y < 18446744073709551616) : Sc i (fneg x) (fneg y) := by
  have nx : isNaN double x = false := by have := h.1; unfold fin at this; unfold isNaN; simp; omega
  have ny : isNaN double y = false := by have := h.2.1; unfold fin at this; unfold isNaN; simp; omega
  refine ⟨by have := h.1; unfold fin at *; rw [rung_fneg hx nx]; exact this, by have := h.2.1; unfold fin at *; rw [rung_fneg hy ny]; exact this, ?_⟩
  rw [sval_fneg hx h.1, sval_fneg hy h.2.1, h.2.2, Int.neg_mul]
end Fl
namespace Fl
open Ieee Go
/-- x is z times 2^k, in units of the least. -/
def Ex (x : Nat) (z : Int) (k : Nat) : Prop := x < 18446744073709551616 ∧ fin double x ∧ sval double x = z * (2 ^ k : Nat)
theorem ex_round {c k D r : Nat} (hD : 0 < D) (hc : c < 9007199254740992) (hk : k ≤ 2045) (h : Rne double (c * 2 ^ k * D) D r) : r < double.infRung ∧ val double r = c * 2 ^ k := by
  obtain ⟨s, hs⟩ := repr double k c (by rw [binade64]; omega)
  have e : r = s := h.eq_of_exact hD (by rw [hs])
  subst e
  refine ⟨(val_lt_iff (f := double)).1 ?_, hs⟩
  obtain ⟨M, hM, e⟩ := val_inf_ex
  rw [hs, e]
  have h1 : c * 2 ^ k < 2 ^ 53 * 2 ^ k := Nat.mul_lt_mul_of_pos_right (by omega) (Nat.two_pow_pos _)
  rw [← Nat.pow_add] at h1
  exact Nat.lt_of_lt_of_le h1 (Nat.pow_le_pow_right (by omega) (by omega))
theorem ex_of {x r k : Nat} {s : Bool} {z : Int} (hx : x = double.word s (min r double.infRung)) (hr : r < double.infRung) (hv : val double r = z.natAbs * 2 ^ k) (hs : z ≠ 0 → s = decide (z < 0)) : Ex x z k := by
  have hl := infRung_lt double
  have e : min r double.infRung = r := by omega
  rw [e] at hx
  refine ⟨by rw [hx]; exact word_lt (f := double) s (by omega), by rw [hx]; exact fin_word s hr, ?_⟩
  rw [hx, sval_word s (Nat.le_of_lt hr), hv]
  by_cases hz : z = 0
  · subst hz; cases s <;> simp
  · rw [hs hz]
    by_cases hn : z < 0
    · have e2 : (z.natAbs : Int) = -z := by omega
      rw [decide_eq_true hn, if_pos rfl, Int.natCast_mul, e2, Int.neg_mul, Int.neg_neg]
    · have e2 : (z.natAbs : Int) = z := by omega
      rw [decide_eq_false hn, if_neg (by simp), Int.natCast_mul, e2]
theorem two_pos (k : Nat) : (0 : Int) < ((2 ^ k : Nat) : Int) := by have := Nat.two_pow_pos k; omega
theorem mul_two_lt {z : Int} {k : Nat} : z * (2 ^ k : Nat) < 0 ↔ z < 0 := by
  have hp := two_pos k
  constructor
  · intro h
    rcases Int.lt_or_le z 0 with h1 | h1
    · exact h1
    · have := Int.mul_nonneg h1 (Int.le_of_lt hp); omega
  · intro h; exact Int.mul_neg_of_neg_of_pos h hp
theorem mul_two_eq {z : Int} {k : Nat} : z * (2 ^ k : Nat) = 0 ↔ z = 0 := by
  have hp := two_pos k
  constructor
  · intro h; rcases Int.mul_eq_zero.1 h with h1 | h1
    · exact h1
    · omega
  · intro h; rw [h]; simp
theorem Ex.add {x y k : Nat} {a b : Int} (hx : Ex x a k) (hy : Ex y b k) (hb : (a + b).natAbs < 9007199254740992) (hk : k ≤ 2045) : Ex (fadd x y) (a + b) k := by
  obtain ⟨r, s, h1, h2, h3⟩ := add_sval hx.2.1 hy.2.1
  have e : sval double x + sval double y = (a + b) * (2 ^ k : Nat) := by rw [hx.2.2, hy.2.2, Int.add_mul]
  rw [e] at h2 h3
  have e2 : ((a + b) * (2 ^ k : Nat)).natAbs = (a + b).natAbs * 2 ^ k * 1 := by rw [Int.natAbs_mul, Nat.mul_one]; rfl
  rw [e2] at h2
  have h4 := ex_round Nat.one_pos hb hk h2
  refine ex_of h1 h4.1 h4.2 (fun hz => ?_)
  rw [h3 (fun h => hz (mul_two_eq.1 h)), decide_eq_decide]
  exact mul_two_lt
theorem Ex.neg {x k : Nat} {a : Int} (hx : Ex x a k) : Ex (fneg x) (-a) k := by
  have nx : isNaN double x = false := by have := hx.2.1; unfold fin at this; unfold isNaN; simp; omega
  refine ⟨fneg_lt hx.1, by have := hx.2.1; unfold fin at *; rw [rung_fneg hx.1 nx]; exact this, ?_⟩
  rw [sval_fneg hx.1 hx.2.1, hx.2.2, Int.neg_mul]
theorem Ex.sub {x y k : Nat} {a b : Int} (hx : Ex x a k) (hy : Ex y b k) (hb : (a - b).natAbs < 9007199254740992) (hk : k ≤ 2045) : Ex (fsub x y) (a - b) k := by
  rw [fsub_eq x hy.1]
  have h := hx.add hy.neg (by rw [← Int.sub_eq_add_neg]; exact hb) hk
  rw [← Int.sub_eq_add_neg] at h; exact h
theorem sgn_of_ex {x k : Nat} {a : Int} (hx : Ex x a k) (h0 : a ≠ 0) : Fl.sgn double x = decide (a < 0) := by
  rw [sgn_of_sval (by rw [hx.2.2]; exact fun h => h0 (mul_two_eq.1 h)), hx.2.2, decide_eq_decide]
  exact mul_two_lt
theorem xor_lt {a b : Int} (ha : a ≠ 0) (hb : b ≠ 0) : (decide (a < 0) ^^ decide (b < 0)) = decide (a * b < 0) := by
  rcases Int.lt_or_le a 0 with h1 | h1 <;> rcases Int.lt_or_le b 0 with h2 | h2
  · have := Int.mul_pos_of_neg_of_neg h1 h2
    rw [decide_eq_true h1, decide_eq_true h2, decide_eq_false (by omega)]; rfl
  · have := Int.mul_neg_of_neg_of_pos h1 (show 0 < b by omega)
    rw [decide_eq_true h1, decide_eq_false (by omega), decide_eq_true this]; rfl
  · have := Int.mul_neg_of_pos_of_neg (show 0 < a by omega) h2
    rw [decide_eq_false (by omega), decide_eq_true h2, decide_eq_true this]; rfl
  · have := Int.mul_pos (show 0 < a by omega) (show 0 < b by omega)
    rw [decide_eq_false (by omega), decide_eq_false (by omega), decide_eq_false (by omega)]; rfl
theorem Ex.mul {x y k m n : Nat} {a b : Int} (hx : Ex x a k) (hy : Ex y b m) (hn : n + 1074 = k + m) (hb : (a * b).natAbs < 9007199254740992) (hk : n ≤ 2045) : Ex (fmul x y) (a * b) n := by
  obtain ⟨r, h1, h2⟩ := mul_sval hx.2.1 hy.2.1
  obtain ⟨K, hK, eU⟩ := one_pow
  rw [← hK] at hn
  have e : (sval double x).natAbs * (sval double y).natAbs = (a * b).natAbs * 2 ^ n * one_ double := by
    rw [hx.2.2, hy.2.2, Int.natAbs_mul, Int.natAbs_mul, Int.natAbs_mul, eU, Nat.mul_assoc _ (2 ^ n), ← Nat.pow_add, hn, Nat.pow_add]
    exact Nat.mul_mul_mul_comm _ _ _ _
  rw [e] at h2
  have h4 := ex_round (one_pos double) hb hk h2
  refine ex_of h1 h4.1 h4.2 (fun hz => ?_)
  have ha : a ≠ 0 := fun h => hz (by rw [h]; simp)
  have hb' : b ≠ 0 := fun h => hz (by rw [h]; simp)
  rw [sgn_of_ex hx ha, sgn_of_ex hy hb', xor_lt ha hb']
/-- A quotient by one, or by minus one. -/
theorem Ex.div {x y k : Nat} {a u : Int} (hx : Ex x a k) (hy : Ex y u 1074) (hu : u = 1 ∨ u = -1) (hb : a.natAbs < 9007199254740992) (hk : k ≤ 2045) : Ex (fdiv x y) (a * u) k := by
  obtain ⟨K, hK, eU⟩ := one_pow
  have hy' : Ex y u K := by rw [hK]; exact hy
  have hu0 : u ≠ 0 := by omega
  obtain ⟨r, h1, h2⟩ := div_sval hx.2.1 hy.2.1 (by rw [hy'.2.2]; exact fun h => hu0 (mul_two_eq.1 h))
  have e1 : (sval double y).natAbs = one_ double := by
    rw [hy'.2.2, Int.natAbs_mul, eU]
    have : u.natAbs = 1 := by omega
    rw [this, Nat.one_mul]; rfl
  have e : (sval double x).natAbs = (a * u).natAbs * 2 ^ k := by
    rw [hx.2.2, Int.natAbs_mul, Int.natAbs_mul]
    have : u.natAbs = 1 := by omega
    rw [this, Nat.mul_one]; rfl
  rw [e1, e] at h2
  have h4 := ex_round (one_pos double) (by rw [Int.natAbs_mul]; have : u.natAbs = 1 := by omega
                                           rw [this, Nat.mul_one]; exact hb) hk h2
  refine ex_of h1 h4.1 h4.2 (fun hz => ?_)
  have ha : a ≠ 0 := fun h => hz (by rw [h]; simp)
  rw [sgn_of_ex hx ha, sgn_of_ex hy' hu0, xor_lt ha hu0]
theorem Ex.feq {x y k : Nat} {a : Int} (hx : Ex x a k) (hy : Ex y a k) : feq .f64 x y = true := feq_of_sval hx.2.1 hy.2.1 (by rw [hx.2.2, hy.2.2])
theorem Ex.nan {x k : Nat} {a : Int} (hx : Ex x a k) : isNaN double x = false := by have := hx.2.1; unfold fin at this; unfold isNaN; simp; omega
theorem Ex.cn {x k : Nat} {a : Int} (hx : Ex x a k) : Fl.cn .f64 x = x := cn_of_not (k := .f64) hx.nan
theorem Ex.bd {x k n : Nat} {a : Int} (hx : Ex x a k) (hn : a.natAbs ≤ 2 ^ n) : Bd x k (k + n) := by
  have e : (sval double x).natAbs = a.natAbs * 2 ^ k := by rw [hx.2.2, Int.natAbs_mul]; rfl
  refine ⟨hx.2.1, ?_, ?_⟩
  · by_cases h : a = 0
    · left; rw [hx.2.2, h]; simp
    · right; rw [e]; exact Nat.le_mul_of_pos_left _ (by omega)
  · rw [e, Nat.pow_add, Nat.mul_comm (2 ^ k)]; exact Nat.mul_le_mul_right _ hn
theorem Ex.sc {x y k i : Nat} {a : Int} (hx : Ex x a k) (hy : Ex y a (k + i)) : Sc i x y := by
  refine ⟨hx.2.1, hy.2.1, ?_⟩
  rw [hx.2.2, hy.2.2, Nat.pow_add, Int.natCast_mul, Int.mul_assoc]
/-- The float of a whole number. -/
theorem ex_nearest {z : Int} (h : z.natAbs < 9007199254740992) : Ex (FloatKind.f64.nearest z) z 1074 := by
  obtain ⟨r, h1, h2⟩ := nearest_rounds ok_double (decide (z < 0)) z.natAbs 0
  obtain ⟨K, hK, eU⟩ := one_pow
  rw [least64] at h1
  have e1 : ((0 : Int) - -1074).toNat = K := by omega
  have e2 : ((-1074 : Int) - 0).toNat = 0 := by omega
  rw [e1, e2, Nat.pow_zero] at h1
  have h3 := ex_round (c := z.natAbs) (k := K) Nat.one_pos h (by omega) (by rw [Nat.mul_one]; exact h1)
  have h4 : Ex (FloatKind.f64.nearest z) z K := ex_of h2 h3.1 h3.2 (fun _ => rfl)
  rw [hK] at h4; exact h4
/-- Two to a power, above the subnormals. -/
theorem ex_two {n : Nat} (h : n ≤ 2045) : Ex (double.binade * (n + 1)) 1 (n + 52) := by
  have hv : val double (double.binade * (n + 1)) = 2 ^ (n + 52) := by
    have := val_mul_add (f := double) (q := n) (m := 0) (by rw [binade64]; omega)
    rw [Nat.add_zero, Nat.add_zero] at this
    rw [this, Nat.add_comm n 52, Nat.pow_add]; congr 1
  have hi : double.binade * (n + 1) < double.infRung := by
    rw [binade64, infRung64]; omega
  have hw := wordF (Nat.le_of_lt hi)
  refine ex_of (r := double.binade * (n + 1)) (s := false) ?_ hi (by rw [hv]; simp) (fun _ => by decide)
  have e : min (double.binade * (n + 1)) double.infRung = double.binade * (n + 1) := by omega
  rw [e, hw]
/-! ### A power of two goes in and out of a quotient -/
theorem Bd.add_nz {x y a b c d l h : Nat} (hx : Bd x a b) (hy : Bd y c d) (hl1 : l + 52 ≤ a) (hl2 : l + 52 ≤ c) (hh1 : b + 1 ≤ h) (hh2 : d + 1 ≤ h) (hh' : h ≤ 2097) (hlh : l ≤ 2097)
    (hz : sval double x + sval double y ≠ 0) : sval double (fadd x y) ≠ 0 := by
  obtain ⟨r, s, h1, h2, _⟩ := add_sval hx.1 hy.1
  have f1 : fin double (fadd x y) := (Bd.add hx hy hl1 hl2 hh1 hh2 hh' hlh).1
  have hr := fin_of_eq h1 f1
  have hn := natAbs_word (s := s) hr
  rw [← h1] at hn
  intro e
  rw [e] at hn
  have hd : ((2 ^ l : Nat) : Int) ∣ sval double x + sval double y := Int.dvd_add (hx.dvd hl1) (hy.dvd hl2)
  have h3 := Nat.le_of_dvd (by omega) (Int.ofNat_dvd_left.1 hd)
  have h4 := rne_lo Nat.one_pos h2 hlh (by rw [Nat.mul_one]; exact h3)
  have := Nat.two_pow_pos l
  simp at hn; omega
theorem sgn_of_mul {x y : Nat} (hx : fin double x) (hy : fin double y) : Fl.sgn double (fmul x y) = (Fl.sgn double x ^^ Fl.sgn double y) := by
  have hl := infRung_lt double
  obtain ⟨r, h1, _⟩ := mul_sval hx hy
  rw [h1, sgn_word _ (by omega)]
theorem sgn_of_div {x y : Nat} (hx : fin double x) (hy : fin double y) (h0 : sval double y ≠ 0) : Fl.sgn double (fdiv x y) = (Fl.sgn double x ^^ Fl.sgn double y) := by
  have hl := infRung_lt double
  obtain ⟨r, h1, _⟩ := div_sval hx hy h0
  rw [h1, sgn_word _ (by omega)]
/-- Of two numbers of one sign, of which the one is not nought, the sum is not. -/
theorem same_sgn_sum {x y : Nat} (h : Fl.sgn double x = Fl.sgn double y) (h0 : sval double x ≠ 0) : sval double x + sval double y ≠ 0 := by
  unfold sval at *
  rw [← h]
  cases Fl.sgn double x <;> simp at * <;> omega
/-- The ratio of two bounds, and what the quotient is divided by. -/
theorem ratio_bd {b c : Nat} (hb : Bd b 1074 1089) (hc : Bd c 1074 1089) (h0 : sval double b ≠ 0) :
    Bd (fdiv c b) 1059 1089 ∧ Bd (fadd b (fmul c (fdiv c b))) 1007 1105 ∧ sval double (fadd b (fmul c (fdiv c b))) ≠ 0 := by
  have h1 : Bd (fdiv c b) 1059 1089 := hc.div hb h0 (by omega) (by omega) (by omega) (by omega)
  have h2 : Bd (fmul c (fdiv c b)) 1059 1104 := hc.mul h1 (by omega) (by omega) (by omega) (by omega)
  have hs : Fl.sgn double b = Fl.sgn double (fmul c (fdiv c b)) := by
    rw [sgn_of_mul hc.1 h1.1, sgn_of_div hc.1 hb.1 h0]
    cases Fl.sgn double c <;> cases Fl.sgn double b <;> rfl
  exact ⟨h1, hb.add h2 (by omega) (by omega) (by omega) (by omega) (by omega) (by omega), hb.add_nz h2 (l := 1007) (h := 1105) (by omega) (by omega) (by omega) (by omega) (by omega) (by omega) (same_sgn_sum hs h0)⟩
/-- One part of a quotient. -/
theorem part_sc {i x y u v r t : Nat} (h : Sc i x y) (h' : Sc i u v) (hi : i ≤ 128) (bx : Bd x 946 1216) (bu : Bd u 946 1216) (br : Bd r 1059 1089) (bt : Bd t 1007 1105) (ht : sval double t ≠ 0) :
    Sc i (fdiv (fadd x (fmul u r)) t) (fdiv (fadd y (fmul v r)) t) ∧ Bd (fdiv (fadd x (fmul u r)) t) 848 1299 := by
  have b1 : Bd (fmul u r) 931 1231 := bu.mul br (by omega) (by omega) (by omega) (by omega)
  have b2 : Bd (fadd x (fmul u r)) 879 1232 := bx.add b1 (by omega) (by omega) (by omega) (by omega) (by omega) (by omega)
  have s1 : Sc i (fmul u r) (fmul v r) := h'.mul bu br (by omega) (by omega) (by omega) (by omega)
  have s2 : Sc i (fadd x (fmul u r)) (fadd y (fmul v r)) := h.add s1 bx b1 (l := 879) (k := 1231) (by omega) (by omega) (by omega) (by omega) (by omega) (by omega) (by omega)
  exact ⟨s2.div b2 bt ht (by omega) (by omega) (by omega) (by omega), b2.div bt ht (by omega) (by omega) (by omega) (by omega)⟩
theorem part_sc_neg {i x y u v r t : Nat} (h : Sc i x y) (h' : Sc i u v) (hi : i ≤ 128) (bx : Bd x 946 1216) (bu : Bd u 946 1216) (br : Bd r 1059 1089) (bt : Bd t 1007 1105) (ht : sval double t ≠ 0) :
    Sc i (fdiv (fsub x (fmul u r)) t) (fdiv (fsub y (fmul v r)) t) ∧ Bd (fdiv (fsub x (fmul u r)) t) 848 1299 := by
  have b1 : Bd (fmul u r) 931 1231 := bu.mul br (by omega) (by omega) (by omega) (by omega)
  have b1n := b1.neg (fmul_lt _ _)
  have b2 : Bd (fadd x (fneg (fmul u r))) 879 1232 := bx.add b1n (by omega) (by omega) (by omega) (by omega) (by omega) (by omega)
  have s1 : Sc i (fmul u r) (fmul v r) := h'.mul bu br (by omega) (by omega) (by omega) (by omega)
  have s1n := s1.neg (fmul_lt _ _) (fmul_lt _ _)
  have s2 : Sc i (fadd x (fneg (fmul u r))) (fadd y (fneg (fmul v r))) := h.add s1n bx b1n (l := 879) (k := 1231) (by omega) (by omega) (by omega) (by omega) (by omega) (by omega) (by omega)
  rw [fsub_eq x (fmul_lt _ _), fsub_eq y (fmul_lt _ _)]
  exact ⟨s2.div b2 bt ht (by omega) (by omega) (by omega) (by omega), b2.div bt ht (by omega) (by omega) (by omega) (by omega)⟩
/-- Less the product's other side. -/
theorem part_sc_rev {i x y u v r t : Nat} (h : Sc i x y) (h' : Sc i u v) (hi : i ≤ 128) (bx : Bd x 946 1216) (bu : Bd u 946 1216) (hlx : x < 18446744073709551616) (hly : y < 18446744073709551616) (br : Bd r 1059 1089) (bt : Bd t 1007 1105) (ht : sval double t ≠ 0) :
    Sc i (fdiv (fsub (fmul u r) x) t) (fdiv (fsub (fmul v r) y) t) ∧ Bd (fdiv (fsub (fmul u r) x) t) 848 1299 := by
  have b1 : Bd (fmul u r) 931 1231 := bu.mul br (by omega) (by omega) (by omega) (by omega)
  have bxn := bx.neg hlx
  have b2 : Bd (fadd (fmul u r) (fneg x)) 879 1232 := b1.add bxn (by omega) (by omega) (by omega) (by omega) (by omega) (by omega)
  have s1 : Sc i (fmul u r) (fmul v r) := h'.mul bu br (by omega) (by omega) (by omega) (by omega)
  have sxn := h.neg hlx hly
  have s2 : Sc i (fadd (fmul u r) (fneg x)) (fadd (fmul v r) (fneg y)) := s1.add sxn b1 bxn (l := 879) (k := 1231) (by omega) (by omega) (by omega) (by omega) (by omega) (by omega) (by omega)
  rw [fsub_eq (fmul u r) hlx, fsub_eq (fmul v r) hly]
  exact ⟨s2.div b2 bt ht (by omega) (by omega) (by omega) (by omega), b2.div bt ht (by omega) (by omega) (by omega) (by omega)⟩
theorem fle_of_zero {b c : Nat} (hb : fin double b) (hc : fin double c) (h0 : sval double b = 0) (h : fle .f64 (fabs c) (fabs b) = true) : sval double c = 0 := by
  have nb : isNaN double b = false := by unfold fin at hb; unfold isNaN; simp; omega
  have nc : isNaN double c = false := by unfold fin at hc; unfold isNaN; simp; omega
  have ib : isInf double b = false := by unfold fin at hb; unfold isInf; simp; omega
  have ic : isInf double c = false := by unfold fin at hc; unfold isInf; simp; omega
  have eb := fabs_fin ib nb
  have ec := fabs_fin ic nc
  rw [eb.1, ec.1, fle_rungs (Nat.le_of_lt ec.2) (Nat.le_of_lt eb.2), zero_rung.1 h0] at h
  have h1 : rung double c = 0 := by simpa using h
  exact zero_rung.2 h1
theorem fle_total {b c : Nat} (hb : fin double b) (hc : fin double c) (h : fle .f64 (fabs c) (fabs b) = false) : sval double c ≠ 0 := by
  intro h0
  have nb : isNaN double b = false := by unfold fin at hb; unfold isNaN; simp; omega
  have nc : isNaN double c = false := by unfold fin at hc; unfold isNaN; simp; omega
  have ib : isInf double b = false := by unfold fin at hb; unfold isInf; simp; omega
  have ic : isInf double c = false := by unfold fin at hc; unfold isInf; simp; omega
  have eb := fabs_fin ib nb
  have ec := fabs_fin ic nc
  rw [eb.1, ec.1, fle_rungs (Nat.le_of_lt ec.2) (Nat.le_of_lt eb.2), zero_rung.1 h0] at h
  simp at h
theorem div_sc {i : Nat} {x y b : C} (h1 : Sc i x.1 y.1) (h2 : Sc i x.2 y.2) (hi : i ≤ 128) (b1 : Bd x.1 946 1216) (b2 : Bd x.2 946 1216) (lx : ltC x) (ly : ltC y)
    (c1 : Bd b.1 1074 1089) (c2 : Bd b.2 1074 1089) (h0 : sval double b.1 ≠ 0 ∨ sval double b.2 ≠ 0) :
    (Sc i (pDiv x b).1 (pDiv y b).1 ∧ Bd (pDiv x b).1 848 1299) ∧ (Sc i (pDiv x b).2 (pDiv y b).2 ∧ Bd (pDiv x b).2 848 1299) := by
  unfold pDiv
  by_cases hf : fle .f64 (fabs b.2) (fabs b.1) = true
  · rw [if_pos hf, if_pos hf]
    have hn : sval double b.1 ≠ 0 := by
      intro e
      rcases h0 with h | h
      · exact h e
      · exact h (fle_of_zero c1.1 c2.1 e hf)
    obtain ⟨br, bt, ht⟩ := ratio_bd c1 c2 hn
    exact ⟨part_sc h1 h2 hi b1 b2 br bt ht, part_sc_neg h2 h1 hi b2 b1 br bt ht⟩
  · rw [if_neg hf, if_neg hf]
    have hn : sval double b.2 ≠ 0 := fle_total c1.1 c2.1 (Bool.eq_false_iff.2 hf)
    obtain ⟨br, bt, ht⟩ := ratio_bd c2 c1 hn
    rw [fadd_comm] at bt ht
    dsimp only
    rw [fadd_comm (fmul x.1 _), fadd_comm (fmul y.1 _)]
    exact ⟨part_sc h2 h1 hi b2 b1 br bt ht, part_sc_rev h1 h2 hi b1 b2 lx.1 ly.1 br bt ht⟩
/-- A power of two times a number. -/
theorem two_mul_up {x T i a b : Nat} (hT : Ex T 1 (1074 + i)) (bx : Bd x a b) (ha : 54 ≤ a) (hh : b + i ≤ 2097) : Sc i x (fmul T x) := by
  obtain ⟨K, hK, eU⟩ := one_pow
  rw [← hK] at hT
  obtain ⟨r, h1, h2⟩ := mul_sval hT.2.1 bx.1
  have e : (sval double T).natAbs = 2 ^ K * 2 ^ i := by rw [hT.2.2, Int.one_mul, ← Nat.pow_add]; rfl
  rw [e, Nat.mul_assoc, Nat.mul_comm, ← eU, Nat.mul_comm (2 ^ i)] at h2
  rcases bx.2.1 with h0 | h0
  · rw [h0] at h2; simp at h2
    have hr := rne_zero (one_pos double) h2
    subst hr
    refine ⟨bx.1, by rw [h1]; exact fin_word _ (by rw [infRung64]; decide), ?_⟩
    have : min 0 double.infRung = 0 := by omega
    rw [h1, this, sval_word _ (Nat.zero_le _), val_zero, h0]; simp
  · rw [abs_sval] at h0 h2
    have hbig := binade_of_lo ha h0
    have hv := val_shift (r := rung double x) i (Nat.le_of_lt hbig)
    rw [← hv] at h2
    have hr : r = rung double x + i * double.binade := h2.eq_of_exact (one_pos double) rfl
    have hi : r < double.infRung := by
      refine (val_lt_iff (f := double)).1 ?_
      obtain ⟨M, hM, eM⟩ := val_inf_ex
      rw [hr, hv, eM, ← abs_sval]
      have h3 : (sval double x).natAbs * 2 ^ i ≤ 2 ^ b * 2 ^ i := Nat.mul_le_mul_right _ bx.2.2
      rw [← Nat.pow_add] at h3
      exact Nat.lt_of_le_of_lt h3 (Nat.pow_lt_pow_right (by omega) (by omega))
    have em : min r double.infRung = r := by omega
    have hs : Fl.sgn double T = false := by rw [sgn_of_ex hT (by omega)]; rfl
    rw [em, hs, Bool.false_xor] at h1
    refine ⟨bx.1, by rw [h1]; exact fin_word _ hi, ?_⟩
    rw [h1, sval_word _ (Nat.le_of_lt hi), hr, hv]
    unfold sval
    cases Fl.sgn double x <;> simp [Int.neg_mul]
theorem two_mul_down {x T i a b : Nat} (hT : Ex T 1 (1074 - i)) (hi : i ≤ 1000) (bx : Bd x a b) (ha : 54 + i ≤ a) : Sc i (fmul T x) x := by
  obtain ⟨K, hK, eU⟩ := one_pow
  rw [← hK] at hT
  obtain ⟨r, h1, h2⟩ := mul_sval hT.2.1 bx.1
  have e : (sval double T).natAbs = 2 ^ (K - i) := by rw [hT.2.2, Int.one_mul]; rfl
  rw [e] at h2
  rcases bx.2.1 with h0 | h0
  · rw [h0] at h2; simp at h2
    have hr := rne_zero (one_pos double) h2
    subst hr
    have : min 0 double.infRung = 0 := by omega
    refine ⟨by rw [h1]; exact fin_word _ (by rw [infRung64]; decide), bx.1, ?_⟩
    rw [h1, this, sval_word _ (Nat.zero_le _), val_zero, h0]; simp
  · rw [abs_sval] at h0 h2
    -- the rung so many binades below
    have hbx : double.binade * (i + 1) < rung double x := by
      refine (val_lt_iff (f := double)).1 (Nat.lt_of_lt_of_le ?_ h0)
      have hv := val_mul_add (f := double) (q := i) (m := 0) (by rw [binade64]; omega)
      rw [Nat.add_zero, Nat.add_zero] at hv
      rw [hv, binade64]
      have h3 : 4503599627370496 * 2 ^ i < 2 ^ 53 * 2 ^ i := Nat.mul_lt_mul_of_pos_right (by omega) (Nat.two_pow_pos _)
      rw [← Nat.pow_add] at h3
      exact Nat.lt_of_lt_of_le h3 (Nat.pow_le_pow_right (by omega) (by omega))
    have em1 : double.binade * (i + 1) = i * double.binade + double.binade := by rw [Nat.mul_add, Nat.mul_one, Nat.mul_comm]
    obtain ⟨p, hp⟩ : ∃ p, rung double x = p + i * double.binade := ⟨rung double x - i * double.binade, by omega⟩
    have hpb : double.binade ≤ p := by omega
    have hv := val_shift (r := p) i hpb
    rw [hp, hv] at h2
    have hN : 2 ^ (K - i) * (val double p * 2 ^ i) = val double p * one_ double := by
      have hki : K - i + i = K := by omega
      rw [eU, Nat.mul_left_comm, ← Nat.pow_add, hki]
    rw [hN] at h2
    have hr : r = p := h2.eq_of_exact (one_pos double) rfl
    subst hr
    have hif : r < double.infRung := by have := bx.1; unfold fin at this; omega
    have em : min r double.infRung = r := by omega
    have hs : Fl.sgn double T = false := by rw [sgn_of_ex hT (by omega)]; rfl
    rw [em, hs, Bool.false_xor] at h1
    refine ⟨by rw [h1]; exact fin_word _ hif, bx.1, ?_⟩
    rw [h1, sval_word _ (Nat.le_of_lt hif)]
    have e3 : sval double x = if Fl.sgn double x then -(val double (rung double x) : Int) else (val double (rung double x) : Int) := rfl
    rw [e3, hp, hv]
    cases Fl.sgn double x <;> simp [Int.neg_mul]
theorem sc_eq {i x y z : Nat} (h : Sc i x y) (h' : Sc i x z) : feq .f64 y z = true := feq_of_sval h.2.1 h'.2.1 (by rw [h.2.2, h'.2.2])
theorem sc_eq' {i x y z : Nat} (h : Sc i y x) (h' : Sc i z x) : feq .f64 y z = true := by
  refine feq_of_sval h.1 h'.1 ?_
  have hp := two_pos i
  have e : sval double y * (2 ^ i : Nat) = sval double z * (2 ^ i : Nat) := by rw [← h.2.2, ← h'.2.2]
  exact Int.eq_of_mul_eq_mul_right (by omega) e
end Fl
namespace Go.Proofs.Ytajdfbjjgjpicaa
open Go.RowKit Fl Ieee
set_option maxRecDepth 20000
attribute [local go_sem] Fl.order_self Fl.order_self' Fl.order_eq Fl.order_ne Fl.order_lt Fl.order_gt Fl.fle_fold Fl.fge_fold
theorem feq_of12 {x c : Nat} (h : cn .f64 x = c) (hn : isNaN double c = false) : feq .f64 x c = true := by
  have h1 : isNaN double x = false := by rw [← h] at hn; exact (isNaN_cn64 x).symm.trans hn
  rw [cn_of_not (k := .f64) h1] at h
  rw [← h, feq_self]
  have h2 : isNaN FloatKind.f64.format x = false := h1
  rw [h2]; rfl
end Go.Proofs.Ytajdfbjjgjpicaa
namespace Go.Proofs.Ytajdfbjjgjpicaa
open Go.RowKit Fl Ieee
set_option maxRecDepth 20000
attribute [local go_sem] Fl.order_self Fl.order_self' Fl.order_eq Fl.order_ne Fl.order_lt Fl.order_gt Fl.fle_fold Fl.fge_fold Fl.u64_clear Fl.u64_sign Fl.u64_flip Fl.u64_or_sign
theorem u64_or_zero (a : Nat) (ha : a < 2048) : bits .or .u64 0 ((a : Int) * 4503599627370496) = (a : Int) * 4503599627370496 := by
  have h := u64_or_nat 0 (a * 4503599627370496) (by omega) (by omega)
  rw [Nat.zero_or] at h
  simpa using h
theorem norm1_c (w : World) : Calls Try.prog 90 #[.float .f64 4607182418800017408] w fun e w' => e = .returned (.tuple #[.float .f64 4607182418800017408, .int .i64 0]) ∧ w = w' := by
  have h1 : flt .f64 (rung double 4607182418800017408) 4503599627370496 = false := by decide +kernel
  go_enter Try.func90, Try.ntmps90
  go_wp2_with (go_at_call 88; refine (mAbs_c _ (by omega) _).mono ?_; rintro e w' ⟨rfl, rfl⟩)
  go_ret2
  exact ⟨rfl, rfl⟩
theorem ldexp1_c (m : Nat) (j : Int) (hj : j + 1023 = m) (h0 : 1 ≤ m) (h1 : m ≤ 2046) (w : World) :
    Calls Try.prog 55 #[.float .f64 4607182418800017408, .int .i64 j] w (RetR (4503599627370496 * m) w) := by
  have f0 : feq .f64 4607182418800017408 0 = false := by decide +kernel
  have f1 : isInf double 4607182418800017408 = false := by decide +kernel
  have f2 : isNaN FloatKind.f64.format 4607182418800017408 = false := by decide +kernel
  have hx := x_f64frombits
  have hb := x_f64bits
  have ej : j = (m : Int) - 1023 := by omega
  subst ej
  clear hj
  have b1 : bits .and .i64 1023 2047 = 1023 := by decide
  have b2 : bits .andNot .u64 4607182418800017408 9218868437227405312 = 0 := by decide
  have b3 := u64_or_zero m (by omega)
  go_enter Try.func55, Try.ntmps55
  go_wp2_with (first
    | (go_at_call 52; refine (mIsInf_c _ (by omega) _).mono ?_; rintro e w' ⟨rfl, rfl⟩)
    | (go_at_call 90; refine (norm1_c _).mono ?_; rintro e w' ⟨rfl, rfl⟩)
    | go_in)
  refine upon_mul _ _ _ _ ?_
  intro r n hr
  go_wp2
  go_ret
  have hX := ex_two (n := m - 1) (by omega)
  have em : m - 1 + 1 = m := by omega
  rw [em, binade64] at hX
  refine closeR ?_ hr.2
  have e1 : cn .f64 4607182418800017408 = fone := by decide
  have e2 : m * 4503599627370496 = 4503599627370496 * m := Nat.mul_comm _ _
  rw [hr.1, e1, e2, hX.cn]
  show fmul fone _ = _
  rw [fmul_comm, fmul_one hX.1 hX.2.1]
theorem Ldexp1_c (m : Nat) (j : Int) (hj : j + 1023 = m) (h0 : 1 ≤ m) (h1 : m ≤ 2046) (w : World) :
    Calls Try.prog 25 #[.float .f64 4607182418800017408, .int .i64 j] w (RetR (4503599627370496 * m) w) := by
  go_enter Try.func25, Try.ntmps25
  go_wp2_with (go_at_call 55; refine (ldexp1_c m j hj h0 h1 _).mono ?_; rintro e w' ⟨x, n, rfl, g, b, rfl⟩)
  go_ret
  exact closeR g b
end Go.Proofs.Ytajdfbjjgjpicaa
namespace Go.Proofs.Ytajdfbjjgjpicaa
open Go.RowKit Fl Ieee
set_option maxRecDepth 20000
attribute [local go_sem] run_store_float run_store_complex
end Go.Proofs.Ytajdfbjjgjpicaa
namespace Go.Proofs.Ytajdfbjjgjpicaa
open Go.RowKit Fl Ieee
set_option maxRecDepth 20000
attribute [local go_sem] run_store_float run_store_complex
end Go.Proofs.Ytajdfbjjgjpicaa
namespace Go.Proofs.Ytajdfbjjgjpicaa
open Go.RowKit Fl Ieee
set_option maxRecDepth 20000
attribute [local go_sem] run_store_float run_store_complex Fl.order_self Fl.order_self' Fl.order_eq Fl.order_ne Fl.order_lt Fl.order_gt
theorem ldexpD_c (w : World) :
    Calls Try.prog 55 #[.float .f64 4607182418800017408, .int .i64 (-1074)] w (RetR 1 w) := by
  have f0 : feq .f64 4607182418800017408 0 = false := by decide +kernel
  have f1 : isInf double 4607182418800017408 = false := by decide +kernel
  have f2 : isNaN FloatKind.f64.format 4607182418800017408 = false := by decide +kernel
  have hx := x_f64frombits
  have hb := x_f64bits
  have b1 : bits .and .i64 1023 2047 = 1023 := by decide
  have b2 : bits .andNot .u64 4607182418800017408 9218868437227405312 = 0 := by decide
  have b3 : bits .or .u64 0 9007199254740992 = 9007199254740992 := by decide
  go_enter Try.func55, Try.ntmps55
  go_wp2_with (first
    | (go_at_call 52; refine (mIsInf_c _ (by omega) _).mono ?_; rintro e w' ⟨rfl, rfl⟩)
    | (go_at_call 90; refine (norm1_c _).mono ?_; rintro e w' ⟨rfl, rfl⟩)
    | go_in)
  refine upon_mul _ _ _ _ ?_
  intro r n hr
  go_wp2
  go_ret
  refine closeR ?_ hr.2
  rw [hr.1]
  decide +kernel
theorem LdexpD_c (w : World) :
    Calls Try.prog 25 #[.float .f64 4607182418800017408, .int .i64 (-1074)] w (RetR 1 w) := by
  go_enter Try.func25, Try.ntmps25
  go_wp2_with (go_at_call 55; refine (ldexpD_c _).mono ?_; rintro e w' ⟨x, n, rfl, g, b, rfl⟩)
  go_ret
  exact closeR g b
end Go.Proofs.Ytajdfbjjgjpicaa
namespace Go.Proofs.Ytajdfbjjgjpicaa
open Go.RowKit Fl Ieee
set_option maxRecDepth 20000
attribute [local go_sem] run_store_float run_store_complex
/-- Behind the frame: two boxes, the result's row. -/
theorem frame2r {w W1 : World} {r c r' c' : Int} {s s' x y z : Value} {t t' t'' : TypeId}
    (hb : Below (((w.alloc (.cells #[.int .i64 r, .int .i64 c, s] t)).alloc (.cells #[.int .i64 r', .int .i64 c', s'] t')).alloc (.cells #[x, y, z] t'')).heap.size
      (((w.alloc (.cells #[.int .i64 r, .int .i64 c, s] t)).alloc (.cells #[.int .i64 r', .int .i64 c', s'] t')).alloc (.cells #[x, y, z] t'')) W1) :
    Box W1 w.heap.size r c s ∧ Box W1 (w.heap.size + 1) r' c' s' ∧ W1.heap[w.heap.size + 2]? = some (.cells #[x, y, z] t'') ∧ Below w.heap.size w W1 ∧ w.heap.size + 3 ≤ W1.heap.size := by
  obtain ⟨w1, hw1⟩ : ∃ w1, w1 = w.alloc (.cells #[.int .i64 r, .int .i64 c, s] t) := ⟨_, rfl⟩
  obtain ⟨w2, hw2⟩ : ∃ w2, w2 = w1.alloc (.cells #[.int .i64 r', .int .i64 c', s'] t') := ⟨_, rfl⟩
  have e1 : w1.heap.size = w.heap.size + 1 := by rw [hw1]; simp
  have e2 : w2.heap.size = w.heap.size + 2 := by rw [hw2]; simp [e1]
  rw [← hw1, ← hw2] at hb
  obtain ⟨h1, h2, h3⟩ := frameR hb
  rw [e2] at h1 h3
  rw [hw2] at h2
  obtain ⟨h7, h8, h9⟩ := frame0 h2
  rw [e1] at h7
  rw [hw1] at h8
  obtain ⟨h10, h11, h12⟩ := frame0 h8
  exact ⟨h10, h7, h1, h11, h3⟩
theorem ent_self (l : List C) (c q : Nat) : ent l c (q / c) (q % c) = cnC (l.getD q (0, 0)) := by
  unfold ent; rw [Nat.mul_comm, Nat.div_add_mod]
end Go.Proofs.Ytajdfbjjgjpicaa
namespace Go.Proofs.Ytajdfbjjgjpicaa
open Go.RowKit Fl Ieee
set_option maxRecDepth 20000
attribute [local go_sem] run_store_float run_store_complex
end Go.Proofs.Ytajdfbjjgjpicaa
namespace Go.Proofs.Ytajdfbjjgjpicaa
open Go.RowKit Fl Ieee
theorem zqC_rfl (a : C) : zqC a a := ⟨zq.rfl' _, zq.rfl' _⟩
theorem zqC_add {a a' b b' : C} (h : zqC a a') (h' : zqC b b') : zqC (pAdd a b) (pAdd a' b') := ⟨h.1.add h'.1, h.2.add h'.2⟩
theorem ltC_add (a b : C) : ltC (pAdd a b) := ⟨fadd_lt _ _, fadd_lt _ _⟩
theorem ltC_mul (a b : C) : ltC (pMul a b) := ⟨fsub_lt _ _, fadd_lt _ _⟩
theorem ltC_cn {z : C} (h : ltC z) : ltC (cnC z) := ⟨cn_lt (k := .f64) h.1, cn_lt (k := .f64) h.2⟩
theorem ltC_conj {a : C} (h : ltC a) : ltC (pConj a) := ⟨h.1, fneg_lt h.2⟩
theorem add_conj {a b : C} (ha : ltC a) (hb : ltC b) : zqC (pAdd (pConj a) (pConj b)) (pConj (pAdd a b)) := ⟨zq.rfl' _, fadd_neg ha.2 hb.2⟩
theorem zqC_conj {a b : C} (h : zqC a b) (ha : ltC a) (hb : ltC b) : zqC (pConj a) (pConj b) := ⟨h.1, h.2.fneg ha.2 hb.2⟩
theorem ltC_dot {la lb : List C} {ca cb i j : Nat} (n : Nat) : ltC (dot la lb ca cb i j n) := by
  cases n with
  | zero => exact ⟨show 0 < 18446744073709551616 by omega, show 0 < 18446744073709551616 by omega⟩
  | succ n => exact ltC_add _ _
theorem ltC_ent {l : List C} (h : ltCs l) (c i j : Nat) : ltC (ent l c i j) := by
  unfold ent
  rw [List.getD_eq_getElem?_getD]
  cases hz : l[i * c + j]? with
  | none => exact ltC_cn ⟨by decide, by decide⟩
  | some z => exact ltC_cn (h z (List.mem_of_getElem? hz))
/-- The conjugate of a product's entry. -/
theorem dot_conj {l0 l1 z0 z1 : List C} {k q i j : Nat} (h0 : ltCs l0) (h1 : ltCs l1) (e0 : ∀ n, n < k → ent z0 k i n = pConj (ent l0 k i n)) (e1 : ∀ n, n < k → ent z1 q n j = pConj (ent l1 q n j)) :
    ∀ n, n ≤ k → zqC (dot z0 z1 k q i j n) (pConj (dot l0 l1 k q i j n)) := by
  intro n
  induction n with
  | zero => intro _; exact ⟨zq.rfl' _, .inr ⟨show rung double 0 = 0 by decide, show rung double (fneg 0) = 0 by decide⟩⟩
  | succ n ih =>
    intro hn
    show zqC (pAdd (dot z0 z1 k q i j n) (pMul (ent z0 k i n) (ent z1 q n j))) (pConj (pAdd (dot l0 l1 k q i j n) (pMul (ent l0 k i n) (ent l1 q n j))))
    rw [e0 n hn, e1 n hn]
    exact (zqC_add (ih (by omega)) (mul_conj (ltC_ent h0 _ _ _) (ltC_ent h1 _ _ _))).trans (add_conj (ltC_dot n) (ltC_mul _ _))
theorem conj_twice {a : C} (h : ltC a) : pConj (pConj (cnC a)) = cnC a := conj_conj (ltC_cn h) (cn_cn .f64 a.2)
def zeroC (a : C) : Prop := rung double a.1 = 0 ∧ rung double a.2 = 0
theorem fin_zero {z : Nat} (h : rung double z = 0) : fin double z := by unfold fin; rw [h]; decide +kernel
theorem fadd_zz {x y : Nat} (hx : x < 18446744073709551616) (h : rung double x = 0) (h' : rung double y = 0) : rung double (fadd x y) = 0 := by
  rcases fadd_zero hx (fin_zero h) h' with e | ⟨e, _⟩
  · rw [e]; exact h
  · exact e
theorem zeroC_add {a b : C} (ha : ltC a) (h : zeroC a) (h' : zeroC b) : zeroC (pAdd a b) := ⟨fadd_zz ha.1 h.1 h'.1, fadd_zz ha.2 h.2 h'.2⟩
theorem fmul_zero' {y : Nat} (hf : fin double y) : rung double (fmul 0 y) = 0 := by rw [fmul_comm]; exact fmul_zero hf
theorem zeroC_mul {e : C} (hf : pFinite e = true) : zeroC (pMul (0, 0) e) := by
  unfold pFinite at hf
  rw [Bool.and_eq_true] at hf
  have f1 := fin_of_isFin hf.1
  have f2 := fin_of_isFin hf.2
  refine ⟨?_, fadd_zz (fmul_lt _ _) (fmul_zero' f2) (fmul_zero' f1)⟩
  show rung double (fsub (fmul 0 e.1) (fmul 0 e.2)) = 0
  rw [fsub_eq _ (fmul_lt _ _)]
  have h2 : rung double (fneg (fmul 0 e.2)) = 0 := by rw [rung_fneg (fmul_lt _ _) (isNaN_of_rung0 (fmul_zero' f2))]; exact fmul_zero' f2
  exact fadd_zz (fmul_lt _ _) (fmul_zero' f1) h2
theorem zq_fin {x y : Nat} (h : zq x y) (hf : fin double y) : fin double x := by
  rcases h with e | ⟨e, _⟩
  · rw [e]; exact hf
  · exact fin_zero e
theorem zeroC_addl {a b e : C} (hb : ltC b) (hz : zeroC a) (h : zqC b e) (hf : pFinite e = true) : zqC (pAdd a b) e := by
  unfold pFinite at hf
  rw [Bool.and_eq_true] at hf
  have g1 := zq_fin h.1 (fin_of_isFin hf.1)
  have g2 := zq_fin h.2 (fin_of_isFin hf.2)
  rw [pAdd_comm]
  exact ⟨(fadd_zero hb.1 g1 hz.1).trans h.1, (fadd_zero hb.2 g2 hz.2).trans h.2⟩
/-- One at a single place, noughts else: the sum is what stands there. -/
theorem pick_sum {T S : Nat → C} {e : C} {p r : Nat} (hS0 : S 0 = (0, 0)) (hS : ∀ n, S (n + 1) = pAdd (S n) (T n)) (hT : ∀ n, n < r → n ≠ p → zeroC (T n)) (hp : zqC (T p) e) (hl : ∀ n, ltC (T n)) (hf : pFinite e = true) (n : Nat) (hn : n ≤ r) :
    ltC (S n) ∧ (n ≤ p → zeroC (S n)) ∧ (p < n → zqC (S n) e) := by
  induction n with
  | zero => exact ⟨by rw [hS0]; exact ⟨by decide, by decide⟩, fun _ => by rw [hS0]; exact ⟨by decide, by decide⟩, fun h => absurd h (Nat.not_lt_zero _)⟩
  | succ n ih =>
    obtain ⟨i0, i1, i2⟩ := ih (by omega)
    refine ⟨by rw [hS]; exact ltC_add _ _, fun h => ?_, fun h => ?_⟩
    · rw [hS]; exact zeroC_add i0 (i1 (by omega)) (hT n (by omega) (by omega))
    · rw [hS]
      rcases Nat.lt_or_ge p n with h1 | h1
      · rw [pAdd_comm]; exact zeroC_addl i0 (hT n (by omega) (by omega)) (i2 h1) hf
      · have e1 : n = p := by omega
        subst e1
        exact zeroC_addl (hl n) (i1 (Nat.le_refl _)) hp hf
theorem dot_idl {zi l : List C} {r c i j : Nat} (hi : i < r) (h0 : ltCs l) (ei : ∀ n, n < r → ent zi r i n = idE i n) (hf : ∀ n, n < r → pFinite (ent l c n j) = true) : zqC (dot zi l r c i j r) (ent l c i j) := by
  refine ((pick_sum (T := fun n => pMul (ent zi r i n) (ent l c n j)) (S := fun n => dot zi l r c i j n) (e := ent l c i j) (p := i) (r := r) rfl (fun n => rfl) ?_ ?_ (fun n => ltC_mul _ _) (hf i hi)) r (Nat.le_refl _)).2.2 hi
  · intro n hn hne
    show zeroC (pMul (ent zi r i n) (ent l c n j))
    rw [ei n hn]
    unfold idE
    rw [if_neg (by omega)]
    exact zeroC_mul (hf n hn)
  · show zqC (pMul (ent zi r i i) (ent l c i j)) (ent l c i j)
    rw [ei i hi]
    unfold idE
    rw [if_pos rfl, pMul_comm]
    exact mul_one (ltC_ent h0 _ _ _) (hf i hi)
theorem dot_idr {zi l : List C} {c i j : Nat} (hj : j < c) (h0 : ltCs l) (ei : ∀ n, n < c → ent zi c n j = idE n j) (hf : ∀ n, n < c → pFinite (ent l c i n) = true) : zqC (dot l zi c c i j c) (ent l c i j) := by
  refine ((pick_sum (T := fun n => pMul (ent l c i n) (ent zi c n j)) (S := fun n => dot l zi c c i j n) (e := ent l c i j) (p := j) (r := c) rfl (fun n => rfl) ?_ ?_ (fun n => ltC_mul _ _) (hf j hj)) c (Nat.le_refl _)).2.2 hj
  · intro n hn hne
    show zeroC (pMul (ent l c i n) (ent zi c n j))
    rw [ei n hn]
    unfold idE
    rw [if_neg hne, pMul_comm]
    exact zeroC_mul (hf n hn)
  · show zqC (pMul (ent l c i j) (ent zi c j j)) (ent l c i j)
    rw [ei j hj]
    unfold idE
    rw [if_pos rfl]
    exact mul_one (ltC_ent h0 _ _ _) (hf j hj)
/-- A finite number less itself. -/
theorem sub_self_zero {a : C} (ha : ltC a) (hf : pFinite a = true) : feq .f64 (pSub a a).1 0 = true ∧ feq .f64 (pSub a a).2 0 = true := by
  unfold pFinite at hf
  rw [Bool.and_eq_true] at hf
  exact ⟨(sub_self_eq a.1 ha.1).trans hf.1, (sub_self_eq a.2 ha.2).trans hf.2⟩
end Go.Proofs.Ytajdfbjjgjpicaa
namespace Go.Proofs.Ytajdfbjjgjpicaa
open Go.RowKit Fl Ieee
set_option maxRecDepth 20000
attribute [local go_sem] run_store_float run_store_complex Fl.order_self Fl.order_self' Fl.order_eq Fl.order_ne Fl.order_lt Fl.order_gt
/-- What a caller hands in: a matrix that lies in memory. -/
structure Lies (w : World) (A : Option Addr) (l : List C) (cap : Nat) : Prop where
  reads : Reads w w.heap.size A (nums l)
  none : A = none → cap = 0
  fits : l.length ≤ cap
  lt : ltCs l
theorem Lies.has {w W : World} {A : Option Addr} {l : List C} {cap b : Nat} {r c : Int} (h : Lies w A l cap) (hb : Below w.heap.size w W) (hx : Box W b r c (.slice A l.length cap)) (hl : b < W.heap.size) : Has W b r c A l cap :=
  ⟨hx, hl, (h.reads.below hb).more hb.size, h.none, h.fits⟩
theorem ent_cn (l : List C) (c i j : Nat) : ent (l.map cnC) c i j = ent l c i j := by
  unfold ent
  rw [List.getD_eq_getElem?_getD, List.getD_eq_getElem?_getD, List.getElem?_map]
  cases l[i * c + j]? with
  | none => rfl
  | some z => exact cnC_cnC z
theorem dot_cn (la lb : List C) (ca cb i j k : Nat) : dot (la.map cnC) (lb.map cnC) ca cb i j k = dot la lb ca cb i j k := by
  induction k with
  | zero => rfl
  | succ k ih => rw [dot, dot, ih, ent_cn, ent_cn]
theorem colSum_cn (l : List C) (c j i : Nat) : colSum (l.map cnC) c j i = colSum l c j i := by
  induction i with
  | zero => rfl
  | succ i ih => rw [colSum, colSum, ih, ent_cn]
theorem norm1_cn (l : List C) (r c : Nat) : norm1 (l.map cnC) r c = norm1 l r c := by
  unfold norm1 colSums
  rw [show (fun j => colSum (l.map cnC) c j r) = (fun j => colSum l c j r) from funext fun j => colSum_cn l c j r]
/-- How far it is off. -/
def offN (la lb : List C) (n : Nat) : Nat := norm1 (entries n (fun i j => pSub (dot la lb n n i j n) (idE i j)) (n * n)) n n
theorem offN_congr {la lb la' lb' : List C} (h : la.map cnC = la'.map cnC) (h' : lb.map cnC = lb'.map cnC) (n : Nat) : offN la lb n = offN la' lb' n := by
  unfold offN
  rw [show (fun i j => pSub (dot la lb n n i j n) (idE i j)) = (fun i j => pSub (dot la' lb' n n i j n) (idE i j)) from
    funext fun i => funext fun j => by rw [← dot_cn la, ← dot_cn la', h, h']]
theorem offN_of {la lb zp zq zd : List C} {n : Nat} (hp : zp.map cnC = entries n (fun i j => dot la lb n n i j n) (n * n)) (hq : zq.map cnC = entries n idE (n * n))
    (hd : zd.map cnC = entries n (fun i j => pSub (ent zp n i j) (ent zq n i j)) (n * n)) : norm1 zd n n = offN la lb n := by
  rw [← norm1_cn, hd]
  unfold offN
  refine congrArg (fun l => norm1 l n n) (entries_congr fun k hk => ?_)
  have h0 : 0 < n := by
    rcases Nat.eq_zero_or_pos n with h | h
    · subst h; simp at hk
    · exact h
  have h1 : k / n < n := Nat.div_lt_of_lt_mul hk
  have h2 : k % n < n := Nat.mod_lt _ h0
  unfold entry
  show pSub (ent zp n (k / n) (k % n)) (ent zq n (k / n) (k % n)) = _
  rw [at_made hp h1 h2, at_made hq h1 h2]
/-- Both are square and of one size. -/
def okOff (ra ca rb cb : Int) (na nb : Nat) : Bool := okM ra ca na && okM rb cb nb && (ra == ca) && (rb == cb) && (ra == rb)
def offV (ra ca rb cb : Int) (la lb : List C) : Nat := if okOff ra ca rb cb la.length lb.length then offN la lb ra.toNat else 0
def offE (ra ca rb cb : Int) (na nb : Nat) : Int := if okOff ra ca rb cb na nb then 0 else 4
theorem okOff_iff {ra ca rb cb : Int} {na nb : Nat} (h : okOff ra ca rb cb na nb = true) : ∃ n : Nat, n ≤ 64 ∧ ra = n ∧ ca = n ∧ rb = n ∧ cb = n ∧ na = n * n ∧ nb = n * n := by
  unfold okOff at h
  simp only [Bool.and_eq_true, beq_iff_eq] at h
  obtain ⟨⟨⟨⟨h1, h2⟩, h3⟩, h4⟩, h5⟩ := h
  obtain ⟨p1, p2, p3, p4, p5⟩ := okM_iff.1 h1
  obtain ⟨q1, q2, q3, q4, q5⟩ := okM_iff.1 h2
  obtain ⟨n, rfl⟩ : ∃ n : Nat, ra = n := ⟨ra.toNat, by omega⟩
  subst h3 h5 h4
  refine ⟨n, by omega, rfl, rfl, rfl, rfl, ?_, ?_⟩
  · rw [← Int.natCast_mul] at p5; exact Int.ofNat_inj.1 p5
  · rw [← Int.natCast_mul] at q5; exact Int.ofNat_inj.1 q5

theorem Off_first (ra ca rb cb : Int) (A B : Option Addr) (na nb capa capb : Nat) (w : World) (h : okM ra ca na = false) :
    Calls Try.prog 12 #[mval ra ca (.slice A na capa), mval rb cb (.slice B nb capb)] w (RetFE 0 4 w) := by
  have HC := Lib.hid (Check_c ra ca A na capa)
  rw [h] at HC
  go_enter Try.func12, Try.ntmps12
  go_wp2_with fail
  refine (HC.out _).mono ?_
  rintro e W1 ⟨rfl, hb⟩
  obtain ⟨⟨b0, b1, b2⟩, ⟨d0, d1, d2⟩, hbl, hs1⟩ := frame2b hb
  have HB := Lib.hid hbl
  clear hb hbl h hs1
  go_wp2
  go_ret2
  exact ⟨retFE rfl rfl, HB.out⟩
theorem Off_second (ra ca rb cb : Int) (A B : Option Addr) (na nb capa capb : Nat) (w : World) (h : okM ra ca na = true) (h' : okM rb cb nb = false ∨ (okM rb cb nb = true ∧ ((ra == ca) = false ∨ ((ra == ca) = true ∧ (rb == cb) = false) ∨ ((ra == ca) = true ∧ (rb == cb) = true ∧ (ra == rb) = false)))) :
    Calls Try.prog 12 #[mval ra ca (.slice A na capa), mval rb cb (.slice B nb capb)] w (RetFE 0 4 w) := by
  have HC := Lib.hid (Check_c ra ca A na capa)
  have HD := Lib.hid (Check_c rb cb B nb capb)
  rw [h] at HC
  go_enter Try.func12, Try.ntmps12
  go_wp2_with fail
  refine (HC.out _).mono ?_
  rintro e W1 ⟨rfl, hb⟩
  obtain ⟨⟨b0, b1, b2⟩, ⟨d0, d1, d2⟩, hbl, hs1⟩ := frame2b hb
  have HB := Lib.hid hbl
  have HS := Lib.hid hs1
  have HX := Lib.hid (And.intro b0 (And.intro b1 b2))
  have HY := Lib.hid (And.intro d0 (And.intro d1 d2))
  clear hb hbl h hs1
  go_wp2_with fail
  refine (HD.out _).mono ?_
  rintro e W2 ⟨rfl, hb2⟩
  have l0 : w.heap.size < W1.heap.size := by have := HS.out; omega
  have l1 : w.heap.size + 1 < W1.heap.size := by have := HS.out; omega
  obtain ⟨e0, e1, e2⟩ := Box.below (W := W1) HX.out hb2 l0
  obtain ⟨g0, g1, g2⟩ := Box.below (W := W1) HY.out hb2 l1
  have HB2 := Lib.hid (HB.out.trans (hb2.mono (Nat.le_of_lt l0)))
  clear hb2 l0 l1 b0 b1 b2 d0 d1 d2
  rcases h' with h' | ⟨h0, h' | ⟨h', h''⟩ | ⟨h', h'', h3⟩⟩
  · rw [h']
    go_wp2
    go_ret2
    exact ⟨retFE rfl rfl, HB2.out⟩
  · rw [h0]
    go_wp2
    all_goals (go_ret2; exact ⟨retFE rfl rfl, HB2.out⟩)
  · rw [h0]
    have q1 : ra = ca := by simpa using h'
    subst q1
    clear h'
    go_wp2
    all_goals (go_ret2; exact ⟨retFE rfl rfl, HB2.out⟩)
  · rw [h0]
    have q1 : ra = ca := by simpa using h'
    subst q1
    have q2 : rb = cb := by simpa using h''
    subst q2
    clear h' h''
    go_wp2
    all_goals (go_ret2; exact ⟨retFE rfl rfl, HB2.out⟩)
set_option maxHeartbeats 4000000 in
theorem Off_good (n : Nat) (A B : Option Addr) (la lb : List C) (capa capb : Nat) (w : World) (hn : n ≤ 64) (hla : la.length = n * n) (hlb : lb.length = n * n) (hX : Lies w A la capa) (hY : Lies w B lb capb) :
    Calls Try.prog 12 #[mval n n (.slice A la.length capa), mval n n (.slice B lb.length capb)] w (RetFE (offN la lb n) 0 w) := by
  have HC := Lib.hid (Check_c n n A la.length capa)
  have HD := Lib.hid (Check_c n n B lb.length capb)
  rw [okN hn hn hla] at HC
  rw [okN hn hn hlb] at HD
  have HXm := Lib.hid hX
  have HYm := Lib.hid hY
  have HLA := Lib.hid hla
  have HLB := Lib.hid hlb
  clear hX hY hla hlb
  go_enter Try.func12, Try.ntmps12
  go_wp2_with fail
  refine (HC.out _).mono ?_
  rintro e W1 ⟨rfl, hb⟩
  obtain ⟨bx, by_, hbl, hs1⟩ := frame2b hb
  have hX1 := HXm.out.has hbl bx (by omega)
  have hY1 := HYm.out.has hbl by_ (by omega)
  have BE1 := Lib.hid hbl
  clear hb hbl hs1 bx by_
  have HX1 := Lib.hid hX1
  obtain ⟨⟨xa1, xb1, xc1⟩, -⟩ := hX1
  have xA1 := fun o => (HX1.out.alloc o).1.1
  have xB1 := fun o => (HX1.out.alloc o).1.2.1
  have xC1 := fun o => (HX1.out.alloc o).1.2.2
  have HY1 := Lib.hid hY1
  obtain ⟨⟨ya1, yb1, yc1⟩, -⟩ := hY1
  have yA1 := fun o => (HY1.out.alloc o).1.1
  have yB1 := fun o => (HY1.out.alloc o).1.2.1
  have yC1 := fun o => (HY1.out.alloc o).1.2.2
  go_wp2_with fail
  refine (HD.out _).mono ?_
  rintro e W2 ⟨rfl, hb⟩
  have hX2 := HX1.out.below hb
  have hY2 := HY1.out.below hb
  clear xa1 xb1 xc1 xA1 xB1 xC1 HX1
  have HX2 := Lib.hid hX2
  obtain ⟨⟨xa2, xb2, xc2⟩, -⟩ := hX2
  have xA2 := fun o => (HX2.out.alloc o).1.1
  have xB2 := fun o => (HX2.out.alloc o).1.2.1
  have xC2 := fun o => (HX2.out.alloc o).1.2.2
  clear ya1 yb1 yc1 yA1 yB1 yC1 HY1
  have HY2 := Lib.hid hY2
  obtain ⟨⟨ya2, yb2, yc2⟩, -⟩ := hY2
  have yA2 := fun o => (HY2.out.alloc o).1.1
  have yB2 := fun o => (HY2.out.alloc o).1.2.1
  have yC2 := fun o => (HY2.out.alloc o).1.2.2
  have BE2 := Lib.hid (BE1.out.trans (hb.mono BE1.out.size))
  clear BE1
  clear hb
  go_wp2_with fail
  refine (MMul_c n n n A B la lb capa capb _ hn hn hn HLA.out HLB.out HX2.out.2.2.1 HY2.out.2.2.1).mono ?_
  rintro e W3 ⟨s, zp, rfl, hz, hlz, hown, hb⟩
  have hX3 := HX2.out.below hb
  have hY3 := HY2.out.below hb
  clear xa2 xb2 xc2 xA2 xB2 xC2 HX2
  have HX3 := Lib.hid hX3
  obtain ⟨⟨xa3, xb3, xc3⟩, -⟩ := hX3
  have xA3 := fun o => (HX3.out.alloc o).1.1
  have xB3 := fun o => (HX3.out.alloc o).1.2.1
  have xC3 := fun o => (HX3.out.alloc o).1.2.2
  clear ya2 yb2 yc2 yA2 yB2 yC2 HY2
  have HY3 := Lib.hid hY3
  obtain ⟨⟨ya3, yb3, yc3⟩, -⟩ := hY3
  have yA3 := fun o => (HY3.out.alloc o).1.1
  have yB3 := fun o => (HY3.out.alloc o).1.2.1
  have yC3 := fun o => (HY3.out.alloc o).1.2.2
  have BE3 := Lib.hid (BE2.out.trans (hb.mono BE2.out.size))
  clear BE2
  have hel := congrArg List.length hz
  rw [List.length_map] at hel
  rw [← hel] at hown
  obtain ⟨pA, pn, pc, rfl, -⟩ := slice_of_own hown
  obtain ⟨en, -, -⟩ := own_slice hown
  subst en
  have HZP := Lib.hid hz
  have HTP := Lib.hid hlz
  have PP := Lib.hid (fun o => ((Reads.of_own hown).below (below_new W3 o)).more (below_new W3 o).size)
  have OWN := Lib.hid hown
  clear hz hlz hel hown hb
  go_wp2_with fail
  refine (Identity_c n _ hn).mono ?_
  rintro e W4 ⟨s, zq, rfl, hz, hlz, hown, hb⟩
  obtain ⟨-, hP4, hq⟩ := Has.new OWN.out hb
  clear OWN PP
  have hX4 := HX3.out.below hq
  have hY4 := HY3.out.below hq
  clear xa3 xb3 xc3 xA3 xB3 xC3 HX3
  have HX4 := Lib.hid hX4
  obtain ⟨⟨xa4, xb4, xc4⟩, -⟩ := hX4
  have xA4 := fun o => (HX4.out.alloc o).1.1
  have xB4 := fun o => (HX4.out.alloc o).1.2.1
  have xC4 := fun o => (HX4.out.alloc o).1.2.2
  clear ya3 yb3 yc3 yA3 yB3 yC3 HY3
  have HY4 := Lib.hid hY4
  obtain ⟨⟨ya4, yb4, yc4⟩, -⟩ := hY4
  have yA4 := fun o => (HY4.out.alloc o).1.1
  have yB4 := fun o => (HY4.out.alloc o).1.2.1
  have yC4 := fun o => (HY4.out.alloc o).1.2.2
  have BE4 := Lib.hid (BE3.out.trans (hq.mono BE3.out.size))
  clear BE3
  have HP4 := Lib.hid hP4
  obtain ⟨⟨pa4, pb4, pc4⟩, -⟩ := hP4
  have pA4 := fun o => (HP4.out.alloc o).1.1
  have pB4 := fun o => (HP4.out.alloc o).1.2.1
  have pC4 := fun o => (HP4.out.alloc o).1.2.2
  clear hq
  have hel := congrArg List.length hz
  rw [List.length_map] at hel
  rw [← hel] at hown
  obtain ⟨qA, qn, qc, rfl, -⟩ := slice_of_own hown
  obtain ⟨en, -, -⟩ := own_slice hown
  subst en
  have HZQ := Lib.hid hz
  have HTQ := Lib.hid hlz
  have PQ := Lib.hid (fun o => ((Reads.of_own hown).below (below_new W4 o)).more (below_new W4 o).size)
  have OWN := Lib.hid hown
  clear hz hlz hel hown hb
  go_wp2_with fail
  refine (MSub_c n n pA qA zp zq pc qc _ hn hn (len_made HZP.out) (len_made HZQ.out) ((HP4.out.alloc _).2.2.1) (PQ.out _)).mono ?_
  rintro e W5 ⟨s, zd, rfl, hz, hlz, hown, hb⟩
  obtain ⟨-, hQ5, hq⟩ := Has.new OWN.out hb
  clear OWN PQ
  have hX5 := HX4.out.below hq
  have hY5 := HY4.out.below hq
  have hP5 := HP4.out.below hq
  clear xa4 xb4 xc4 xA4 xB4 xC4 HX4
  have HX5 := Lib.hid hX5
  obtain ⟨⟨xa5, xb5, xc5⟩, -⟩ := hX5
  have xA5 := fun o => (HX5.out.alloc o).1.1
  have xB5 := fun o => (HX5.out.alloc o).1.2.1
  have xC5 := fun o => (HX5.out.alloc o).1.2.2
  clear ya4 yb4 yc4 yA4 yB4 yC4 HY4
  have HY5 := Lib.hid hY5
  obtain ⟨⟨ya5, yb5, yc5⟩, -⟩ := hY5
  have yA5 := fun o => (HY5.out.alloc o).1.1
  have yB5 := fun o => (HY5.out.alloc o).1.2.1
  have yC5 := fun o => (HY5.out.alloc o).1.2.2
  clear pa4 pb4 pc4 pA4 pB4 pC4 HP4
  have HP5 := Lib.hid hP5
  obtain ⟨⟨pa5, pb5, pc5⟩, -⟩ := hP5
  have pA5 := fun o => (HP5.out.alloc o).1.1
  have pB5 := fun o => (HP5.out.alloc o).1.2.1
  have pC5 := fun o => (HP5.out.alloc o).1.2.2
  have BE5 := Lib.hid (BE4.out.trans (hq.mono BE4.out.size))
  clear BE4
  have HQ5 := Lib.hid hQ5
  obtain ⟨⟨qa5, qb5, qc5⟩, -⟩ := hQ5
  have qA5 := fun o => (HQ5.out.alloc o).1.1
  have qB5 := fun o => (HQ5.out.alloc o).1.2.1
  have qC5 := fun o => (HQ5.out.alloc o).1.2.2
  clear hq
  have hel := congrArg List.length hz
  rw [List.length_map] at hel
  rw [← hel] at hown
  obtain ⟨dA, dn, dc, rfl, -⟩ := slice_of_own hown
  obtain ⟨en, -, -⟩ := own_slice hown
  subst en
  have HZD := Lib.hid hz
  have HTD := Lib.hid hlz
  have PD := Lib.hid (fun o => ((Reads.of_own hown).below (below_new W5 o)).more (below_new W5 o).size)
  have OWN := Lib.hid hown
  clear hz hlz hel hown hb
  have HV := Lib.hid (offN_of HZP.out HZQ.out HZD.out)
  go_wp2_with fail
  refine (Norm1_c n n dA zd dc _ hn hn (len_made HZD.out) (PD.out _) HTD.out).mono ?_
  rintro e W6 ⟨rfl, hb⟩
  have BE6 := Lib.hid (BE5.out.trans (((below_new W5 _).trans (hb.mono (below_new W5 _).size)).mono BE5.out.size))
  clear hb
  go_wp2
  go_ret2
  exact ⟨retFE HV.out rfl, BE6.out⟩
theorem Off_c (ra ca rb cb : Int) (A B : Option Addr) (la lb : List C) (capa capb : Nat) (w : World) (hX : Lies w A la capa) (hY : Lies w B lb capb) :
    Calls Try.prog 12 #[mval ra ca (.slice A la.length capa), mval rb cb (.slice B lb.length capb)] w (RetFE (offV ra ca rb cb la lb) (offE ra ca rb cb la.length lb.length) w) := by
  cases h : okOff ra ca rb cb la.length lb.length
  · unfold offV offE
    rw [h]
    show Calls _ _ _ _ (RetFE 0 4 w)
    cases h1 : okM ra ca la.length
    · exact Off_first ra ca rb cb A B _ _ capa capb w h1
    cases h2 : okM rb cb lb.length
    · exact Off_second ra ca rb cb A B _ _ capa capb w h1 (.inl h2)
    · cases h3 : (ra == ca)
      · exact Off_second ra ca rb cb A B _ _ capa capb w h1 (.inr ⟨h2, .inl h3⟩)
      · cases h4 : (rb == cb)
        · exact Off_second ra ca rb cb A B _ _ capa capb w h1 (.inr ⟨h2, .inr (.inl ⟨h3, h4⟩)⟩)
        · exact Off_second ra ca rb cb A B _ _ capa capb w h1 (.inr ⟨h2, .inr (.inr ⟨h3, h4, by unfold okOff at h; rw [h1, h2, h3, h4] at h; simpa using h⟩)⟩)
  · have h' := h
    obtain ⟨n, hn, rfl, rfl, rfl, rfl, h1, h2⟩ := okOff_iff h
    unfold offV offE
    rw [h']
    show Calls _ _ _ _ (RetFE (offN la lb (n : Int).toNat) 0 w)
    rw [Int.toNat_natCast]
    exact Off_good n A B la lb capa capb w hn h1 h2 hX hY
end Go.Proofs.Ytajdfbjjgjpicaa
namespace Go.Proofs.Ytajdfbjjgjpicaa
open Go.RowKit Fl Ieee
set_option maxRecDepth 20000
attribute [local go_sem] run_store_float run_store_complex Fl.order_self Fl.order_self' Fl.order_eq Fl.order_ne Fl.order_lt Fl.order_gt
/-- What is kept while the world grows: rows, lists that read. -/
structure Kp (w W : World) (rows : List (Nat × Obj)) (rds : List (Option Addr × List C)) : Prop where
  bel : Below w.heap.size w W
  row : ∀ p ∈ rows, W.heap[p.1]? = some p.2
  rd : ∀ p ∈ rds, Reads W W.heap.size p.1 (nums p.2)
namespace Kp
variable {w W V : World} {rows : List (Nat × Obj)} {rds : List (Option Addr × List C)}
theorem below (h : Kp w W rows rds) (hb : Below W.heap.size W V) : Kp w V rows rds :=
  ⟨h.bel.trans (hb.mono h.bel.size), fun p hp => row_keep hb (h.row p hp), fun p hp => ((h.rd p hp).below hb).more hb.size⟩
theorem add (h : Kp w W rows rds) {b : Nat} {o : Obj} (hr : W.heap[b]? = some o) : Kp w W ((b, o) :: rows) rds :=
  ⟨h.bel, fun p hp => by
    rcases List.mem_cons.1 hp with rfl | h1
    · exact hr
    · exact h.row p h1, h.rd⟩
theorem addR (h : Kp w W rows rds) {A : Option Addr} {l : List C} (hr : Reads W W.heap.size A (nums l)) : Kp w W rows ((A, l) :: rds) :=
  ⟨h.bel, h.row, fun p hp => by
    rcases List.mem_cons.1 hp with rfl | h1
    · exact hr
    · exact h.rd p h1⟩
theorem new (h : Kp w W rows rds) (o : Obj) : Kp w (W.alloc o) ((W.heap.size, o) :: rows) rds := (h.below (below_new W o)).add (heap_alloc_new W o)
theorem new2 (h : Kp w W rows rds) (o o' : Obj) : Kp w ((W.alloc o).alloc o') ((W.heap.size + 1, o') :: (W.heap.size, o) :: rows) rds :=
  ((h.new o).below (below_new _ o')).add (row_new2 W o o')
end Kp

def ltAll (l : List C) : Bool := l.all fun z => decide (z.1 < 18446744073709551616) && decide (z.2 < 18446744073709551616)
theorem ltAll_lt {l : List C} (h : ltAll l = true) : ltCs l := fun z hz => by
  have := List.all_eq_true.1 h z hz
  rw [Bool.and_eq_true, decide_eq_true_eq, decide_eq_true_eq] at this
  exact this
def nP : List C := [(0, 0), (fone, 0), (fone, 0), (0, 0)]
def nR : List C := [(fone, 0), (4611686018427387904, 0), (4611686018427387904, 0), (4616189618054758400, 0)]
def nW : List C := List.replicate 3 (0, 0)
def nT : List C := [(1, 0)]
theorem nP_f : ofI 2 2 nP = (0, 0) := by decide +kernel
theorem nP_c : carF 2 2 nP = (0, 0) := by decide +kernel
theorem nP_v : carV 2 2 nP = fone := by decide +kernel
theorem nP_e : (List.range 4).all (fun k => pEqual (cnC ((entries 2 (invE 2 (ofS 2 nP)) 4).getD k (0, 0))) (cnC (nP.getD k (0, 0)))) = true := by decide +kernel
theorem nR_f : ofI 2 2 nR = (7, 1) := by decide +kernel
theorem nW_f : ofI 1 3 nW = (4, -1) := by decide +kernel
theorem nT_f : ofI 1 1 nT = (6, 0) := by decide +kernel
theorem nT_c : carF 1 1 nT = (6, 0) := by decide +kernel
theorem nT_v : carV 1 1 nT = 0 := by decide +kernel
theorem nE_f : ofI 0 0 [] = (0, 0) := by decide +kernel
theorem nE_c : carF 0 0 [] = (0, 0) := by decide +kernel
theorem nE_v : carV 0 0 [] = 0 := by decide +kernel
theorem nO1 : offV 1 1 1 1 [(4611686018427387904, 0)] [(4602678819172646912, 0)] = 0 := by decide +kernel
theorem nO2 : offV 1 1 1 1 [(4611686018427387904, 0)] [(fone, 0)] = fone := by decide +kernel
theorem nO3 : offV 1 1 2 2 [(4611686018427387904, 0)] [(fone, 0), (0, 0), (0, 0), (fone, 0)] = 0 := by decide +kernel
theorem Inv_ok {l : List C} {n M : Nat} (hf : ofI n n l = (0, 0)) (hM : l.length = M) (hn : M = n * n) (hlt : ltAll l = true) {A : Option Addr} {cap : Nat} {V : World} (h1 : M ≤ cap) (h2 : Reads V V.heap.size A (nums l)) :
    Calls Try.prog 18 #[mval n n (.slice A M cap)] V fun e w' => ∃ A2 c2, e = .returned (.tuple #[mval n n (.slice A2 M c2), .agg #[.int .i64 0, .int .i64 0]]) ∧ Reads w' w'.heap.size A2 (nums (entries n (invE n (ofS n l)) M)) ∧ Below V.heap.size V w' := by
  have h := Inv_c n n A l cap V (by rw [hM]; exact h1) h2 (ltAll_lt hlt)
  rw [hM] at h
  exact h.mono fun e w' h => by
    obtain ⟨A2, c2, h3, h4, -, h5⟩ := h.ok (by rw [hf]) hn
    exact ⟨A2, c2, h3, h4, h5⟩
theorem Inv_no {l : List C} {r c er pl : Int} {M : Nat} (hf : ofI r c l = (er, pl)) (he : er ≠ 0) (hM : l.length = M) (hlt : ltAll l = true) {A : Option Addr} {cap : Nat} {V : World} (h1 : M ≤ cap) (h2 : Reads V V.heap.size A (nums l)) :
    Calls Try.prog 18 #[mval r c (.slice A M cap)] V fun e w' => e = .returned (.tuple #[mval 0 0 (.slice none 0 0), .agg #[.int .i64 er, .int .i64 pl]]) ∧ Below V.heap.size V w' := by
  have h := Inv_c r c A l cap V (by rw [hM]; exact h1) h2 (ltAll_lt hlt)
  rw [hM] at h
  exact h.mono fun e w' h => by
    have h := h.bad (by rw [hf]; exact he)
    rw [hf] at h; exact h
theorem Car_of {l : List C} {r c er pl : Int} {M v : Nat} (hf : carF r c l = (er, pl)) (hv : carV r c l = v) (hM : l.length = M) (hlt : ltAll l = true) {A : Option Addr} {cap : Nat} {V : World} (h1 : M ≤ cap) (h2 : Reads V V.heap.size A (nums l)) :
    Calls Try.prog 20 #[mval r c (.slice A M cap)] V fun e w' => e = .returned (.tuple #[.float .f64 v, .agg #[.int .i64 er, .int .i64 pl]]) ∧ Below V.heap.size V w' := by
  have h := Car_c r c A l cap V (by rw [hM]; exact h1) h2 (ltAll_lt hlt)
  rw [hM] at h
  exact h.mono fun e w' h => by
    obtain ⟨h3, h4⟩ := h
    rw [hf, hv] at h3; exact ⟨h3, h4⟩
theorem Off_of {la lb : List C} {ra ca rb cb er : Int} {M M' v : Nat} (hv : offV ra ca rb cb la lb = v) (he : offE ra ca rb cb la.length lb.length = er) (hM : la.length = M) (hM' : lb.length = M') {A B : Option Addr} {capa capb : Nat} {V : World} (hX : Lies V A la capa) (hY : Lies V B lb capb) :
    Calls Try.prog 12 #[mval ra ca (.slice A M capa), mval rb cb (.slice B M' capb)] V fun e w' => e = .returned (.tuple #[.float .f64 v, .int .i64 er]) ∧ Below V.heap.size V w' := by
  have h := Off_c ra ca rb cb A B la lb capa capb V hX hY
  rw [hv, he, hM, hM'] at h; exact h
theorem reads_made (W : World) (n : Nat) : Reads (W.alloc (.cells (madeCells #[.complex .f64 0 0] n) 53)) (W.alloc (.cells (madeCells #[.complex .f64 0 0] n) 53)).heap.size (some ⟨W.heap.size, 0, none⟩) (nums (List.replicate n (0, 0))) := by
  rw [mk_nums]
  exact (Reads.new W 53 _).more (by simp)
theorem RetMs.liesO {w w' : World} {r c : Int} {M : Nat} {l : List C} {e : Ending} (h : RetMs r c l w e w') (hM : l.length = M) (hlt : ltAll l = true) : ∃ A cap, e = .returned (mval r c (.slice A M cap)) ∧ Reads w' w'.heap.size A (nums l) ∧ M ≤ cap ∧ Lies w' A l cap ∧ Below w.heap.size w w' := by
  obtain ⟨A, cap, rfl, h1, h2, h3, -, hb⟩ := h.lies
  exact ⟨A, cap, by rw [hM], h1, by omega, ⟨h1, h3, h2, ltAll_lt hlt⟩, hb⟩
theorem Lies.below {w W : World} {A : Option Addr} {l : List C} {cap : Nat} (h : Lies w A l cap) (hb : Below w.heap.size w W) : Lies W A l cap := ⟨(h.reads.below hb).more hb.size, h.none, h.fits, h.lt⟩
set_option maxHeartbeats 16000000 in
theorem Names12 (w : World) : Calls Try.prog 9 #[] w fun e w' => e = .returned (.bool true) ∧ Below w.heap.size w w' := by
  have HP := Lib.hid (fun V => square12_c (0, 0) (fone, 0) (fone, 0) (0, 0) V)
  have HR := Lib.hid (fun V => square12_c (fone, 0) (4611686018427387904, 0) (4611686018427387904, 0) (4616189618054758400, 0) V)
  have HI := Lib.hid (fun V => square12_c (fone, 0) (0, 0) (0, 0) (fone, 0) V)
  have H2 := Lib.hid (fun V => one12_c (4611686018427387904, 0) V)
  have HH := Lib.hid (fun V => one12_c (4602678819172646912, 0) V)
  have H1 := Lib.hid (fun V => one12_c (fone, 0) V)
  have HT := Lib.hid (fun V => one12_c (1, 0) V)
  have HEq := Lib.hid (fun (A B : Option Addr) (ca cb : Nat) (V : World) (hA : Reads V V.heap.size A (nums (entries 2 (invE 2 (ofS 2 nP)) 4))) (hB : Reads V V.heap.size B (nums nP)) =>
    EqualMatrix_t 2 2 A B (entries 2 (invE 2 (ofS 2 nP)) 4) nP 4 ca cb V (by simp [entries]) rfl (equal_of nP_e (by simp [entries])) (by decide) hA hB)
  have hmk : ∀ V : World, (Instr.makeSlice 25 (.int .i64 3) (.int .i64 3)).run Try.prog V = .ok (.slice (some ⟨V.heap.size, 0, none⟩) 3 3) (V.alloc (.cells (madeCells #[.complex .f64 0 0] 3) 53)) := fun V => run_make_row' (P := Try.prog) 25 53 (.complex .f64 0 0) 16 Try.underlying25 infoNum rfl .i64 .i64 3 (by omega) (by omega) V
  go_enter Try.func9, Try.ntmps9
  go_wp2_with fail
  refine (HP.out _).mono ?_
  rintro e W1 hr
  obtain ⟨A1, c1, rfl, hrd, hle, hL, hb⟩ := RetMs.liesO (M := 4) hr rfl (by decide)
  have K1 := Lib.hid (Kp.mk hb (rows := []) (rds := []) (by simp) (by simp))
  have R1 := Lib.hid (show Reads W1 W1.heap.size A1 (nums nP) from hrd)
  have E1 := Lib.hid hle
  have L1 := Lib.hid hL
  clear hr hrd hle hL hb
  go_wp2_with fail
  refine (Inv_ok nP_f (show _ = 4 from rfl) rfl (by decide) E1.out R1.out).mono ?_
  rintro e W2 ⟨A2, c2, rfl, hrd, hb⟩
  have K2 := Lib.hid (((K1.out.below hb).addR hrd).new2 (.cells #[.int .i64 2, .int .i64 2, .slice A2 4 c2] 28) (.cells #[.int .i64 0, .int .i64 0] 43))
  clear hrd hb K1 R1 E1 L1
  go_wp2_with fail
  refine (HP.out _).mono ?_
  rintro e W3 hr
  obtain ⟨A3, c3, rfl, hrd, hle, hL, hb⟩ := RetMs.liesO (M := 4) hr rfl (by decide)
  have K3 := Lib.hid (K2.out.below hb)
  have R3 := Lib.hid (show Reads W3 W3.heap.size A3 (nums nP) from hrd)
  have E3 := Lib.hid hle
  have L3 := Lib.hid hL
  clear hr hrd hle hL hb K2
  go_wp2_with fail
  refine (Car_of nP_c nP_v (show _ = 4 from rfl) (by decide) E3.out R3.out).mono ?_
  rintro e W4 ⟨rfl, hb⟩
  have K4 := Lib.hid ((K3.out.below hb).new (.cells #[.int .i64 0, .int .i64 0] 43))
  clear hb K3 R3 E3 L3
  go_wp2_with fail
  refine (HR.out _).mono ?_
  rintro e W5 hr
  obtain ⟨A5, c5, rfl, hrd, hle, hL, hb⟩ := RetMs.liesO (M := 4) hr rfl (by decide)
  have K5 := Lib.hid (K4.out.below hb)
  have R5 := Lib.hid (show Reads W5 W5.heap.size A5 (nums nR) from hrd)
  have E5 := Lib.hid hle
  have L5 := Lib.hid hL
  clear hr hrd hle hL hb K4
  go_wp2_with fail
  refine (Inv_no nR_f (by decide) (show _ = 4 from rfl) (by decide) E5.out R5.out).mono ?_
  rintro e W6 ⟨rfl, hb⟩
  have K6 := Lib.hid ((K5.out.below hb).new2 zrow (.cells #[.int .i64 7, .int .i64 1] 43))
  clear hb K5 R5 E5 L5
  have HW := Lib.hid (show Calls Try.prog 18 #[mval 1 3 (.slice (some ⟨W6.heap.size + 1 + 1, 0, none⟩) 3 3)] (((W6.alloc zrow).alloc (.cells #[.int .i64 7, .int .i64 1] 43)).alloc (.cells (madeCells #[.complex .f64 0 0] 3) 53)) (fun e w' => e = .returned (.tuple #[mval 0 0 (.slice none 0 0), .agg #[.int .i64 4, .int .i64 (-1)]]) ∧ Below (((W6.alloc zrow).alloc (.cells #[.int .i64 7, .int .i64 1] 43)).alloc (.cells (madeCells #[.complex .f64 0 0] 3) 53)).heap.size (((W6.alloc zrow).alloc (.cells #[.int .i64 7, .int .i64 1] 43)).alloc (.cells (madeCells #[.complex .f64 0 0] 3) 53)) w') from by
    have hr := reads_made ((W6.alloc zrow).alloc (.cells #[.int .i64 7, .int .i64 1] 43)) 3
    have hs : ((W6.alloc zrow).alloc (.cells #[.int .i64 7, .int .i64 1] 43)).heap.size = W6.heap.size + 1 + 1 := by simp
    generalize ((W6.alloc zrow).alloc (.cells #[.int .i64 7, .int .i64 1] 43)) = VW at hr hs ⊢
    rw [← hs]
    exact Inv_no nW_f (by decide) (show _ = 3 from rfl) (by decide) (Nat.le_refl 3) hr)
  have KM := Lib.hid (K6.out.new (.cells (madeCells #[.complex .f64 0 0] 3) 53))
  go_wp2_with fail
  refine HW.out.mono ?_
  rintro e W7 ⟨rfl, hb⟩
  have K7 := Lib.hid ((KM.out.below hb).new2 zrow (.cells #[.int .i64 4, .int .i64 (-1)] 43))
  clear hb K6 HW KM hmk
  go_wp2_with fail
  refine (LdexpD_c _).mono ?_
  rintro e V ⟨x, m1, rfl, g, -, rfl⟩
  have ex : x = 1 := cn_only' g (by decide +kernel)
  subst ex
  clear g
  have KL1 := Lib.hid (K7.out.below (below_drewN (Below.refl _ _) m1))
  clear K7
  go_wp2_with fail
  refine (HT.out _).mono ?_
  rintro e W8 hr
  obtain ⟨A8, c8, rfl, hrd, hle, hL, hb⟩ := RetMs.liesO (M := 1) hr rfl (by decide)
  have K8 := Lib.hid (KL1.out.below hb)
  have R8 := Lib.hid (show Reads W8 W8.heap.size A8 (nums nT) from hrd)
  have E8 := Lib.hid hle
  have L8 := Lib.hid hL
  clear hr hrd hle hL hb KL1
  go_wp2_with fail
  refine (Inv_no nT_f (by decide) (show _ = 1 from rfl) (by decide) E8.out R8.out).mono ?_
  rintro e W9 ⟨rfl, hb⟩
  have K9 := Lib.hid ((K8.out.below hb).new2 zrow (.cells #[.int .i64 6, .int .i64 0] 43))
  clear hb K8 R8 E8 L8
  go_wp2_with fail
  refine (LdexpD_c _).mono ?_
  rintro e V ⟨x, m2, rfl, g, -, rfl⟩
  have ex : x = 1 := cn_only' g (by decide +kernel)
  subst ex
  clear g
  have KL2 := Lib.hid (K9.out.below (below_drewN (Below.refl _ _) m2))
  clear K9
  go_wp2_with fail
  refine (HT.out _).mono ?_
  rintro e W10 hr
  obtain ⟨A10, c10, rfl, hrd, hle, hL, hb⟩ := RetMs.liesO (M := 1) hr rfl (by decide)
  have K10 := Lib.hid (KL2.out.below hb)
  have R10 := Lib.hid (show Reads W10 W10.heap.size A10 (nums nT) from hrd)
  have E10 := Lib.hid hle
  have L10 := Lib.hid hL
  clear hr hrd hle hL hb KL2
  go_wp2_with fail
  refine (Car_of nT_c nT_v (show _ = 1 from rfl) (by decide) E10.out R10.out).mono ?_
  rintro e W11 ⟨rfl, hb⟩
  have K11 := Lib.hid ((K10.out.below hb).new (.cells #[.int .i64 6, .int .i64 0] 43))
  clear hb K10 R10 E10 L10
  go_wp2_with fail
  refine (H2.out _).mono ?_
  rintro e W12 hr
  obtain ⟨A12, c12, rfl, hrd, hle, hL, hb⟩ := RetMs.liesO (M := 1) hr rfl (by decide)
  have K12 := Lib.hid (K11.out.below hb)
  have R12 := Lib.hid (show Reads W12 W12.heap.size A12 (nums [(4611686018427387904, 0)]) from hrd)
  have E12 := Lib.hid hle
  have L12 := Lib.hid hL
  clear hr hrd hle hL hb K11
  go_wp2_with fail
  refine (HH.out _).mono ?_
  rintro e W13 hr
  obtain ⟨A13, c13, rfl, hrd, hle, hL, hb⟩ := RetMs.liesO (M := 1) hr rfl (by decide)
  have K13 := Lib.hid (K12.out.below hb)
  have HB13 := Lib.hid hb
  have R13 := Lib.hid (show Reads W13 W13.heap.size A13 (nums [(4602678819172646912, 0)]) from hrd)
  have E13 := Lib.hid hle
  have L13 := Lib.hid hL
  clear hr hrd hle hL hb K12
  have hLb := L13.out
  have La := Lib.hid (L12.out.below HB13.out)
  clear hLb
  go_wp2_with fail
  refine (Off_of (er := 0) nO1 (by decide) (show _ = 1 from rfl) (show _ = 1 from rfl) La.out L13.out).mono ?_
  rintro e W14 ⟨rfl, hb⟩
  have K14 := Lib.hid (K13.out.below hb)
  clear hb K13 La R12 E12 L12 R13 E13 L13 HB13
  go_wp2_with fail
  refine (H2.out _).mono ?_
  rintro e W15 hr
  obtain ⟨A15, c15, rfl, hrd, hle, hL, hb⟩ := RetMs.liesO (M := 1) hr rfl (by decide)
  have K15 := Lib.hid (K14.out.below hb)
  have R15 := Lib.hid (show Reads W15 W15.heap.size A15 (nums [(4611686018427387904, 0)]) from hrd)
  have E15 := Lib.hid hle
  have L15 := Lib.hid hL
  clear hr hrd hle hL hb K14
  go_wp2_with fail
  refine (H1.out _).mono ?_
  rintro e W16 hr
  obtain ⟨A16, c16, rfl, hrd, hle, hL, hb⟩ := RetMs.liesO (M := 1) hr rfl (by decide)
  have K16 := Lib.hid (K15.out.below hb)
  have HB16 := Lib.hid hb
  have R16 := Lib.hid (show Reads W16 W16.heap.size A16 (nums [(fone, 0)]) from hrd)
  have E16 := Lib.hid hle
  have L16 := Lib.hid hL
  clear hr hrd hle hL hb K15
  have hLb := L16.out
  have La := Lib.hid (L15.out.below HB16.out)
  clear hLb
  go_wp2_with fail
  refine (Off_of (er := 0) nO2 (by decide) (show _ = 1 from rfl) (show _ = 1 from rfl) La.out L16.out).mono ?_
  rintro e W17 ⟨rfl, hb⟩
  have K17 := Lib.hid (K16.out.below hb)
  clear hb K16 La R15 E15 L15 R16 E16 L16 HB16
  go_wp2_with fail
  refine (H2.out _).mono ?_
  rintro e W18 hr
  obtain ⟨A18, c18, rfl, hrd, hle, hL, hb⟩ := RetMs.liesO (M := 1) hr rfl (by decide)
  have K18 := Lib.hid (K17.out.below hb)
  have R18 := Lib.hid (show Reads W18 W18.heap.size A18 (nums [(4611686018427387904, 0)]) from hrd)
  have E18 := Lib.hid hle
  have L18 := Lib.hid hL
  clear hr hrd hle hL hb K17
  go_wp2_with fail
  refine (HI.out _).mono ?_
  rintro e W19 hr
  obtain ⟨A19, c19, rfl, hrd, hle, hL, hb⟩ := RetMs.liesO (M := 4) hr rfl (by decide)
  have K19 := Lib.hid (K18.out.below hb)
  have HB19 := Lib.hid hb
  have R19 := Lib.hid (show Reads W19 W19.heap.size A19 (nums [(fone, 0), (0, 0), (0, 0), (fone, 0)]) from hrd)
  have E19 := Lib.hid hle
  have L19 := Lib.hid hL
  clear hr hrd hle hL hb K18
  have hLb := L19.out
  have La := Lib.hid (L18.out.below HB19.out)
  clear hLb
  go_wp2_with fail
  refine (Off_of (er := 4) nO3 (by decide) (show _ = 1 from rfl) (show _ = 4 from rfl) La.out L19.out).mono ?_
  rintro e W20 ⟨rfl, hb⟩
  have K20 := Lib.hid (K19.out.below hb)
  clear hb K19 La R18 E18 L18 R19 E19 L19 HB19
  go_wp2_with fail
  refine (Inv_ok (l := []) nE_f (show _ = 0 from rfl) rfl (by decide) (Nat.le_refl 0) (fun h => absurd h (by simp [nums]))).mono ?_
  rintro e W21 ⟨A21, c21, rfl, -, hb⟩
  have K21 := Lib.hid ((K20.out.below hb).new2 (.cells #[.int .i64 0, .int .i64 0, .slice A21 0 c21] 28) (.cells #[.int .i64 0, .int .i64 0] 43))
  clear hb K20
  go_wp2_with fail
  refine (Car_of (l := []) nE_c nE_v (show _ = 0 from rfl) (by decide) (Nat.le_refl 0) (fun h => absurd h (by simp [nums]))).mono ?_
  rintro e W22 ⟨rfl, hb⟩
  have K22 := Lib.hid ((K21.out.below hb).new (.cells #[.int .i64 0, .int .i64 0] 43))
  clear hb K21
  go_wp2_with fail
  generalize W22.alloc (.cells #[.int .i64 0, .int .i64 0] 43) = WX at K22 ⊢
  have HK := Lib.hid (fun (V : World) (hV : Below WX.heap.size WX V) => (show V.cell? ⟨W2.heap.size, 0, none⟩ = some (.int .i64 2) ∧ V.cell? ⟨W2.heap.size, 1, none⟩ = some (.int .i64 2) ∧ V.cell? ⟨W2.heap.size, 2, none⟩ = some (.slice A2 4 c2) ∧ V.cell? ⟨W2.heap.size + 1, 0, none⟩ = some (.int .i64 0) ∧ V.cell? ⟨W2.heap.size + 1, 1, none⟩ = some (.int .i64 0) ∧ V.cell? ⟨W4.heap.size, 0, none⟩ = some (.int .i64 0) ∧ V.cell? ⟨W4.heap.size, 1, none⟩ = some (.int .i64 0) from by
    have hk := (K22.out.below hV).row
    obtain ⟨a0, a1, a2, -⟩ := box3 (hk (W2.heap.size, .cells #[.int .i64 2, .int .i64 2, .slice A2 4 c2] 28) (by simp))
    obtain ⟨p0, p1, -⟩ := row2 (hk (W2.heap.size + 1, .cells #[.int .i64 0, .int .i64 0] 43) (by simp))
    obtain ⟨q0, q1, -⟩ := row2 (hk (W4.heap.size, .cells #[.int .i64 0, .int .i64 0] 43) (by simp))
    exact ⟨a0, a1, a2, p0, p1, q0, q1⟩))
  have HRa := Lib.hid (fun (V : World) (hV : Below WX.heap.size WX V) => (show Reads V V.heap.size A2 (nums (entries 2 (invE 2 (ofS 2 nP)) 4)) from (K22.out.below hV).rd (A2, entries 2 (invE 2 (ofS 2 nP)) 4) (by simp)))
  go_cut [24] (fun s24 wx => s24 = .bool true ∧ Below WX.heap.size WX wx)
  case first =>
    go_region_held3 (fun V => V.cell? ⟨W2.heap.size, 0, none⟩ = some (.int .i64 2) ∧ V.cell? ⟨W2.heap.size, 1, none⟩ = some (.int .i64 2) ∧ V.cell? ⟨W2.heap.size, 2, none⟩ = some (.slice A2 4 c2) ∧ V.cell? ⟨W2.heap.size + 1, 0, none⟩ = some (.int .i64 0) ∧ V.cell? ⟨W2.heap.size + 1, 1, none⟩ = some (.int .i64 0) ∧ V.cell? ⟨W4.heap.size, 0, none⟩ = some (.int .i64 0) ∧ V.cell? ⟨W4.heap.size, 1, none⟩ = some (.int .i64 0))
      (with_reducible refine HK.out _ ?_; (repeat (first | with_reducible assumption | with_reducible refine Below.drew ?_ | with_reducible exact Below.refl _ _)); done)
      (first
      | (go_at_call 26; (refine (HP.out _).mono ?_); (rintro e V hr); (obtain ⟨A8, c8, rfl, hrd8, -, -, hb8⟩ := RetMs.liesO (M := 4) hr rfl (by decide)); (have hrd9 : Reads V V.heap.size A8 (nums nP) := hrd8); (have hV : Below WX.heap.size WX V := Below.trans (by (repeat (first | with_reducible assumption | with_reducible refine Below.drew ?_ | with_reducible exact Below.refl _ _))) (Below.mono hb8 (by exact Nat.le_refl _))))
      | (go_at_call 21; (with_reducible refine (HEq.out A2 A8 c2 c8 V (HRa.out V hV) hrd9).mono ?_); (rintro e V2 ⟨rfl, hb9⟩); (have hV2 : Below WX.heap.size WX V2 := hV.trans (hb9.mono hV.size))))
    all_goals
      go_wp2_with fail
      go_meet
      exact ⟨rfl, hV2⟩
  case rest =>
    obtain ⟨rfl, hV⟩ := hcut
    rename World => WY
    have KY := Lib.hid (K22.out.below hV)
    clear hV HK HRa K22 HEq HP
    obtain ⟨a0, a1, -⟩ := row2 (KY.out.row (W6.heap.size + 1, .cells #[.int .i64 7, .int .i64 1] 43) (by simp))
    obtain ⟨b0, b1, -⟩ := row2 (KY.out.row (W7.heap.size + 1, .cells #[.int .i64 4, .int .i64 (-1)] 43) (by simp))
    obtain ⟨d0, d1, -⟩ := row2 (KY.out.row (W9.heap.size + 1, .cells #[.int .i64 6, .int .i64 0] 43) (by simp))
    obtain ⟨e0, e1, -⟩ := row2 (KY.out.row (W11.heap.size, .cells #[.int .i64 6, .int .i64 0] 43) (by simp))
    obtain ⟨g0, g1, -⟩ := row2 (KY.out.row (W21.heap.size + 1, .cells #[.int .i64 0, .int .i64 0] 43) (by simp))
    obtain ⟨i0, i1, -⟩ := row2 (KY.out.row (W22.heap.size, .cells #[.int .i64 0, .int .i64 0] 43) (by simp))
    obtain ⟨k0, k1, k2, -⟩ := box3 (KY.out.row (W21.heap.size, .cells #[.int .i64 0, .int .i64 0, .slice A21 0 c21] 28) (by simp))
    go_wp2_with fail
    refine (awake12_c _).mono ?_
    rintro e V ⟨rfl, hb⟩
    have BV := Lib.hid (KY.out.bel.trans (hb.mono KY.out.bel.size))
    clear hb a0 a1 b0 b1 d0 d1 e0 e1 g0 g1 i0 i1 k0 k1 k2
    go_wp2
    go_ret
    exact ⟨rfl, BV.out⟩
end Go.Proofs.Ytajdfbjjgjpicaa
namespace Go.Proofs.Ytajdfbjjgjpicaa
open Go.RowKit Go.WideElems Go.Maps Go.Deep Fl Ieee
set_option maxRecDepth 20000
theorem InverseNames_walk (w : World) : Calls Try.prog 9 #[] w fun e w' => e = .returned (.bool true) ∧ Below w.heap.size w w' := Names12 w
/-! ### The row's step -/
namespace inverseNames_frame
open Go.ChangeShapes Go.WideShapes Go.ChangeAt Go.RowKit
theorem own : ownKnob Try.prog.godebug = none := by kernel_rfl
set_option maxRecDepth 100000 in
theorem lifted (os : Os) (started : os.Started) (H : Type) (enc : TypeId × Value → H) :
    ReturnsInHanded {} Try.checked os 9 .any (Rows.inverseNamesSpec.pre6 enc Try.prog Try.f9 Rows.inverseNamesRow.domain false) (Rows.inverseNamesSpec.post enc Try.prog Try.f9 false true false false) := by
  refine returnsInHanded_of_change (C := Try.checked) own started (by kernel_rfl) Try.func9
    (ChangeSpec.witness6 (enc := enc) (C := Try.checked) false ⟨#[], #[], []⟩ 8 (by kernel_rfl) (by kernel_rfl) (by kernel_rfl) (by kernel_rfl)) ?_
  intro W base args ds gs before hval0 hW hcnd _
  have hW' := hW
  obtain ⟨p, q, hA0, hV, rfl, hfz, hnd⟩ := hW
  have hA : DataW.TrodAll enc Try.prog W 0 (fun _ => true) true Try.f9.params.toList args.toList ds p := hA0
  rw [Try.params9] at hA
  obtain ⟨hargs, rfl, rfl⟩ := trodAll_nil hA
  obtain rfl : args = #[] := by cases args; simp_all
  obtain ⟨rfl, rfl⟩ := trodVars_none hV
  clear hA0
  simp only [List.append_nil] at hW'
  refine (InverseNames_walk  W).mono fun e W' ⟨he, hg⟩ => ?_
  subst he
  exact ⟨_, rfl, post_of_below (pa := []) (pv := []) hW' (fun _ _ _ => (trodAll_cons_mk (shut_bool Try.underlying4 _) trodAll_mk0)) (fun sp _ => trodAll_mk0) (fun _ _ => rfl) rfl
    hg (ok_one (by kernel_rfl) rfl (okWide_bool_mk Try.underlying4 _))⟩
theorem over : Rows.inverseNamesRow.holds Try.pinned (OpenSpec.ofChange Rows.inverseNamesSpec) :=
  OpenClaim.holds_of_wide 9 Try.f9 rfl rfl rfl rfl rfl rfl rfl ⟨rfl, rfl, rfl, rfl, rfl⟩ rfl rfl rfl rfl rfl (by kernel_rfl) Try.func9 (by kernel_rfl)
    (of_decide_eq_true (by kernel_rfl)) (by unfold Func.isWrapper; first | (rw [if_pos (by decide +kernel)]; kernel_rfl) | (rw [if_neg (by decide +kernel)]; exact ⟨rfl, rfl⟩))
    (fun os started H enc _ => lifted os started H enc)
end inverseNames_frame

/-- THE STATEMENT. -/
theorem inverseNames_holds : Rows.InverseNamesSaid := inverseNames_frame.over
#print axioms inverseNames_holds
end Go.Proofs.Ytajdfbjjgjpicaa
