/- Exact numbers: whole numbers times powers of two; bounds; what a power of two does to each operation. -/
import Derived.Test.YtibjkmjccelcaaaFlAb
namespace Fl
open Ieee Go
/-- A finite word, its size by its rung. -/
abbrev sv (x : Nat) : Int := sval double x
theorem abs_sval (x : Nat) : (sval double x).natAbs = val double (rung double x) := by unfold sval; split <;> omega
theorem sval_word (s : Bool) {r : Nat} (h : r ≤ double.infRung) : sval double (double.word s r) = if s then -(val double r : Int) else (val double r : Int) := by
  have hl := infRung_lt double
  unfold sval; rw [sgn_word s (by omega), rung_word s (by omega)]
theorem fin_word (s : Bool) {r : Nat} (h : r < double.infRung) : fin double (double.word s r) := by
  have hl := infRung_lt double
  unfold fin; rw [rung_word s (by omega)]; exact h
theorem zero_rung {x : Nat} : sval double x = 0 ↔ rung double x = 0 := by
  constructor
  · intro h
    have h1 : val double (rung double x) = 0 := by rw [← abs_sval, h]; rfl
    exact val_inj (f := double) (h1.trans (val_zero double).symm)
  · intro h; unfold sval; rw [h, val_zero]; simp
theorem sgn_of_sval {x : Nat} (h : sval double x ≠ 0) : sgn double x = decide (sval double x < 0) := by
  have h1 : rung double x ≠ 0 := fun e => h (zero_rung.2 e)
  have h2 := le_val double (rung double x)
  unfold sval
  cases sgn double x
  · simp
  · simp; omega
/-! ### The operations, told by the exact numbers -/
theorem add_sval {x y : Nat} (hx : fin double x) (hy : fin double y) :
    ∃ r s, fadd x y = double.word s (min r double.infRung) ∧ Rne double (sval double x + sval double y).natAbs 1 r ∧ (sval double x + sval double y ≠ 0 → s = decide (sval double x + sval double y < 0)) := by
  obtain ⟨b, h1, h2⟩ := add_fin ok_double hx hy
  have hb : fadd x y = b := by
    unfold fadd fop
    show (double.add x y).getD _ = b
    rw [h1]; rfl
  obtain ⟨r, h3, h4⟩ := h2
  exact ⟨r, _, hb.trans h4, h3, fun h => if_neg h⟩
theorem mul_sval {x y : Nat} (hx : fin double x) (hy : fin double y) :
    ∃ r, fmul x y = double.word (sgn double x ^^ sgn double y) (min r double.infRung) ∧ Rne double ((sval double x).natAbs * (sval double y).natAbs) (one_ double) r := by
  obtain ⟨b, h1, h2⟩ := mul_fin ok_double hx hy
  have hb : fmul x y = b := by
    unfold fmul fop
    show (double.mul x y).getD _ = b
    rw [h1]; rfl
  obtain ⟨r, h3, h4⟩ := h2
  rw [abs_sval, abs_sval]
  exact ⟨r, hb.trans h4, h3⟩
theorem div_sval {x y : Nat} (hx : fin double x) (hy : fin double y) (h0 : sval double y ≠ 0) :
    ∃ r, fdiv x y = double.word (sgn double x ^^ sgn double y) (min r double.infRung) ∧ Rne double ((sval double x).natAbs * one_ double) (sval double y).natAbs r := by
  obtain ⟨b, h1, h2⟩ := div_fin ok_double hx hy (fun e => h0 (zero_rung.2 e))
  have hb : fdiv x y = b := by
    unfold fdiv fop
    show (double.div x y).getD _ = b
    rw [h1]; rfl
  obtain ⟨r, h3, h4⟩ := h2
  rw [abs_sval, abs_sval]
  exact ⟨r, hb.trans h4, h3⟩
/-! ### Powers of two among the rungs -/
theorem val_inf_ex : ∃ M, M = 2098 ∧ val double double.infRung = 2 ^ M := ⟨2098, rfl, val_inf_double⟩
theorem pw (k : Nat) (h : k ≤ 2097) : ∃ s, val double s = 2 ^ k ∧ s < double.infRung := by
  obtain ⟨s, hs⟩ := repr double k 1 (by rw [binade64]; omega)
  rw [Nat.one_mul] at hs
  refine ⟨s, hs, (val_lt_iff (f := double)).1 ?_⟩
  obtain ⟨M, hM, e⟩ := val_inf_ex
  rw [hs, e]
  exact Nat.pow_lt_pow_right (by omega) (by omega)
theorem one_pow : ∃ K, K = 1074 ∧ one_ double = 2 ^ K := ⟨1074, rfl, by decide +kernel⟩
theorem binade_of_lo {r a : Nat} (ha : 54 ≤ a) (h : 2 ^ a ≤ val double r) : double.binade < r := by
  refine (val_lt_iff (f := double)).1 (Nat.lt_of_lt_of_le ?_ h)
  have e : val double double.binade = 2 ^ 52 := by decide +kernel
  rw [e]; exact Nat.pow_lt_pow_right (by omega) (by omega)
/-- A size of so many digits is a multiple of what its last digit stands for. -/
theorem dvd_of_lo {r a : Nat} (ha : 52 ≤ a) (h : 2 ^ a ≤ val double r) : 2 ^ (a - 52) ∣ val double r := by
  obtain ⟨c, q, hv, hc, _⟩ := val_form double r
  rw [binade64] at hc
  have hq : a - 52 ≤ q := by
    refine Nat.le_of_not_lt fun hlt => ?_
    have h1 : val double r < 2 ^ 53 * 2 ^ q := by
      rw [hv]; exact Nat.mul_lt_mul_of_pos_right (by omega) (Nat.two_pow_pos _)
    rw [← Nat.pow_add] at h1
    have h2 : 2 ^ (53 + q) ≤ 2 ^ a := Nat.pow_le_pow_right (by omega) (by omega)
    omega
  rw [hv]
  exact Nat.dvd_trans (Nat.pow_dvd_pow 2 hq) (Nat.dvd_mul_left _ _)
/-! ### Bounds -/
/-- Finite; nought, or of a size from 2^lo (in units of the least) to 2^hi. -/
def Bd (x lo hi : Nat) : Prop := fin double x ∧ (sval double x = 0 ∨ 2 ^ lo ≤ (sval double x).natAbs) ∧ (sval double x).natAbs ≤ 2 ^ hi
theorem Bd.mono {x a b c d : Nat} (h : Bd x a b) (h1 : c ≤ a) (h2 : b ≤ d) : Bd x c d :=
  ⟨h.1, h.2.1.imp id (Nat.le_trans (Nat.pow_le_pow_right (by omega) h1)), Nat.le_trans h.2.2 (Nat.pow_le_pow_right (by omega) h2)⟩
theorem rne_hi {N D r k : Nat} (hD : 0 < D) (h : Rne double N D r) (hk : k ≤ 2097) (hN : N ≤ 2 ^ k * D) : r < double.infRung ∧ val double r ≤ 2 ^ k := by
  obtain ⟨s, hs, hi⟩ := pw k hk
  have h1 : r ≤ s := rne_le hD h (by rw [hs]; exact hN)
  exact ⟨by omega, by rw [← hs]; exact val_le h1⟩
theorem rne_lo {N D r k : Nat} (hD : 0 < D) (h : Rne double N D r) (hk : k ≤ 2097) (hN : 2 ^ k * D ≤ N) : 2 ^ k ≤ val double r := by
  obtain ⟨s, hs, _⟩ := pw k hk
  have h1 : s ≤ r := le_rne hD h (by rw [hs]; exact hN)
  rw [← hs]; exact val_le h1
theorem rne_zero {D r : Nat} (hD : 0 < D) (h : Rne double 0 D r) : r = 0 := h.unique hD (Rne.zero double D hD)
theorem natAbs_word {s : Bool} {r : Nat} (h : r < double.infRung) : (sval double (double.word s (min r double.infRung))).natAbs = val double r := by
  have e : min r double.infRung = r := by omega
  rw [e, sval_word s (Nat.le_of_lt h)]
  cases s <;> simp
theorem Bd.of {x r lo hi : Nat} {s : Bool} (hx : x = double.word s (min r double.infRung)) (hr : r < double.infRung) (hl : r = 0 ∨ 2 ^ lo ≤ val double r) (hh : val double r ≤ 2 ^ hi) : Bd x lo hi := by
  have e : min r double.infRung = r := by omega
  have h1 := natAbs_word (s := s) hr
  rw [← hx] at h1
  refine ⟨by rw [hx, e]; exact fin_word s hr, ?_, by rw [h1]; exact hh⟩
  rcases hl with h | h
  · left
    have : (sval double x).natAbs = 0 := by rw [h1, h, val_zero]
    omega
  · right; rw [h1]; exact h
theorem Bd.mul {x y a b c d l h : Nat} (hx : Bd x a b) (hy : Bd y c d) (hl : l + 1074 = a + c) (hh : h + 1074 = b + d) (hh' : h ≤ 2097) (hlh : l ≤ 2097) : Bd (fmul x y) l h := by
  obtain ⟨r, h1, h2⟩ := mul_sval hx.1 hy.1
  have hU := one_pos double
  obtain ⟨K, hK, eU⟩ := one_pow
  rw [← hK] at hl hh
  have hhi := rne_hi hU h2 hh' (by
    rw [eU, ← Nat.pow_add, hh, Nat.pow_add]
    exact Nat.mul_le_mul hx.2.2 hy.2.2)
  refine Bd.of h1 hhi.1 ?_ hhi.2
  rcases hx.2.1 with h0 | h0
  · left; rw [h0] at h2; simp at h2; exact rne_zero hU h2
  · rcases hy.2.1 with h0' | h0'
    · left; rw [h0'] at h2; simp at h2; exact rne_zero hU h2
    · right
      refine rne_lo hU h2 hlh ?_
      rw [eU, ← Nat.pow_add, hl, Nat.pow_add]
      exact Nat.mul_le_mul h0 h0'
theorem Bd.div {x y a b c d l h : Nat} (hx : Bd x a b) (hy : Bd y c d) (h0 : sval double y ≠ 0) (hl : l + d = a + 1074) (hh : h + c = b + 1074) (hh' : h ≤ 2097) (hlh : l ≤ 2097) : Bd (fdiv x y) l h := by
  obtain ⟨r, h1, h2⟩ := div_sval hx.1 hy.1 h0
  have hD : 0 < (sval double y).natAbs := by omega
  have hy1 : 2 ^ c ≤ (sval double y).natAbs := hy.2.1.resolve_left h0
  obtain ⟨K, hK, eU⟩ := one_pow
  rw [← hK] at hl hh
  have hhi := rne_hi hD h2 hh' (by
    rw [eU]
    have e1 : (sval double x).natAbs * 2 ^ K ≤ 2 ^ b * 2 ^ K := Nat.mul_le_mul_right _ hx.2.2
    have e2 : 2 ^ h * 2 ^ c ≤ 2 ^ h * (sval double y).natAbs := Nat.mul_le_mul_left _ hy1
    rw [← Nat.pow_add] at e1 e2
    rw [hh] at e2
    exact Nat.le_trans e1 e2)
  refine Bd.of h1 hhi.1 ?_ hhi.2
  rcases hx.2.1 with hz | hz
  · left; rw [hz] at h2; simp at h2; exact rne_zero hD h2
  · right
    refine rne_lo hD h2 hlh ?_
    rw [eU]
    have e1 : 2 ^ a * 2 ^ K ≤ (sval double x).natAbs * 2 ^ K := Nat.mul_le_mul_right _ hz
    have e2 : 2 ^ l * (sval double y).natAbs ≤ 2 ^ l * 2 ^ d := Nat.mul_le_mul_left _ hy.2.2
    rw [← Nat.pow_add] at e1 e2
    rw [hl] at e2
    exact Nat.le_trans e2 e1
theorem Bd.dvd {x a b m : Nat} (hx : Bd x a b) (hm : m + 52 ≤ a) : ((2 ^ m : Nat) : Int) ∣ sval double x := by
  rcases hx.2.1 with h | h
  · rw [h]; exact Int.dvd_zero _
  · rw [abs_sval] at h
    have h1 := dvd_of_lo (r := rung double x) (a := a) (by omega) h
    have h2 : 2 ^ m ∣ val double (rung double x) := Nat.dvd_trans (Nat.pow_dvd_pow 2 (by omega)) h1
    rw [← abs_sval] at h2
    exact Int.ofNat_dvd_left.2 h2
theorem Bd.add {x y a b c d l h : Nat} (hx : Bd x a b) (hy : Bd y c d) (hl1 : l + 52 ≤ a) (hl2 : l + 52 ≤ c) (hh1 : b + 1 ≤ h) (hh2 : d + 1 ≤ h) (hh' : h ≤ 2097) (hlh : l ≤ 2097) : Bd (fadd x y) l h := by
  obtain ⟨r, s, h1, h2, _⟩ := add_sval hx.1 hy.1
  have hp : ∀ k, k + 1 ≤ h → 2 ^ k * 2 ≤ 2 ^ h := fun k hk => by rw [← Nat.pow_succ]; exact Nat.pow_le_pow_right (by omega) hk
  have e1 := hp b hh1
  have e2 := hp d hh2
  have b1 := hx.2.2
  have b2 := hy.2.2
  have hhi := rne_hi Nat.one_pos h2 hh' (by
    rw [Nat.mul_one]
    have := Int.natAbs_add_le (sval double x) (sval double y)
    omega)
  refine Bd.of h1 hhi.1 ?_ hhi.2
  by_cases hz : sval double x + sval double y = 0
  · left; rw [hz] at h2; exact rne_zero Nat.one_pos h2
  · right
    refine rne_lo Nat.one_pos h2 hlh ?_
    rw [Nat.mul_one]
    have hd : ((2 ^ l : Nat) : Int) ∣ sval double x + sval double y := Int.dvd_add (hx.dvd hl1) (hy.dvd hl2)
    have := Int.ofNat_dvd_left.1 hd
    exact Nat.le_of_dvd (by omega) this
theorem Bd.neg {x a b : Nat} (hl : x < 18446744073709551616) (hx : Bd x a b) : Bd (fneg x) a b := by
  have hn : isNaN double x = false := by have := hx.1; unfold fin at this; unfold isNaN; simp; omega
  have e : sval double (fneg x) = -sval double x := by rw [fneg_of_not hn]; exact sval_flip (f := double) hl
  refine ⟨by have := hx.1; unfold fin at *; rw [rung_fneg hl hn]; exact this, ?_, ?_⟩
  · rw [e]; rcases hx.2.1 with h | h
    · left; rw [h]; rfl
    · right; rw [Int.natAbs_neg]; exact h
  · rw [e, Int.natAbs_neg]; exact hx.2.2
theorem sval_fneg {x : Nat} (hl : x < 18446744073709551616) (hx : fin double x) : sval double (fneg x) = -sval double x := by
  have hn : isNaN double x = false := by unfold fin at hx; unfold isNaN; simp; omega
  rw [fneg_of_not hn]; exact sval_flip (f := double) hl
/-! ### Equal numbers -/
theorem feq_of_sval {x y : Nat} (hx : fin double x) (hy : fin double y) (h : sval double x = sval double y) : feq .f64 x y = true := by
  have nx : isNaN double x = false := by unfold fin at hx; unfold isNaN; simp; omega
  have ny : isNaN double y = false := by unfold fin at hy; unfold isNaN; simp; omega
  have h1 := feq_def .f64 x y
  have e : FloatKind.f64.format = double := rfl
  rw [e, nx, ny] at h1
  rw [h1]
  simp only [Bool.not_false, Bool.true_and, decide_eq_true_eq]
  have hr : rung double x = rung double y := val_inj (f := double) (by rw [← abs_sval, ← abs_sval, h])
  by_cases h0 : sval double x = 0
  · have a := zero_rung.1 h0
    have b := zero_rung.1 (h ▸ h0)
    unfold key; rw [a, b]; simp
  · have a := sgn_of_sval h0
    have b := sgn_of_sval (x := y) (by rw [← h]; exact h0)
    unfold key; rw [a, b, h, hr]
/-! ### A power of two -/
theorem val_shift {r : Nat} (i : Nat) (h : double.binade ≤ r) : val double (r + i * double.binade) = val double r * 2 ^ i := by
  rcases rung_cases double r with h1 | ⟨q, m, hm, rfl⟩
  · omega
  · have e : double.binade * (q + 1) + m + i * double.binade = double.binade * (q + i + 1) + m := by
      rw [Nat.mul_comm i, Nat.add_right_comm, ← Nat.mul_add]; congr 2; omega
    rw [e, val_mul_add hm, val_mul_add hm, Nat.pow_add, Nat.mul_assoc]
theorem rne_shift {N D r : Nat} (i : Nat) (h : double.binade < r) : Rne double (N * 2 ^ i) D (r + i * double.binade) ↔ Rne double N D r := by
  have hp : 0 < 2 ^ i := Nat.two_pow_pos _
  have v0 := val_shift (r := r) i (Nat.le_of_lt h)
  have v1 : val double (r + i * double.binade + 1) = val double (r + 1) * 2 ^ i := by
    rw [Nat.add_right_comm]; exact val_shift i (by omega)
  have hpar : (r + i * double.binade) % 2 = r % 2 := by
    have : i * double.binade = 2 * (i * 2251799813685248) := by rw [binade64]; omega
    omega
  obtain ⟨p, rfl⟩ : ∃ p, r = p + 1 := ⟨r - 1, by omega⟩
  have vp : val double (p + i * double.binade) = val double p * 2 ^ i := val_shift i (by omega)
  unfold Rne
  rw [v0, v1, hpar, ← Nat.add_mul]
  have e1 : 2 * (N * 2 ^ i) = 2 * N * 2 ^ i := (Nat.mul_assoc _ _ _).symm
  have e2 : ∀ S, S * 2 ^ i * D = S * D * 2 ^ i := fun S => Nat.mul_right_comm _ _ _
  rw [e1, e2]
  have l1 : ∀ a b : Nat, a * 2 ^ i < b * 2 ^ i ↔ a < b := fun a b => Nat.mul_lt_mul_right hp
  have l2 : ∀ a b : Nat, a * 2 ^ i = b * 2 ^ i ↔ a = b := fun a b => Nat.mul_left_inj (by omega)
  rw [l1, l2]
  constructor
  · rintro ⟨h1, h2⟩
    refine ⟨h1, fun q hq => ?_⟩
    have hq' : q = p := by omega
    subst hq'
    have h3 := h2 (q + i * double.binade) (by omega)
    rw [vp, ← Nat.add_mul, e2, l1, l2] at h3
    exact h3
  · rintro ⟨h1, h2⟩
    refine ⟨h1, fun q hq => ?_⟩
    have hq' : q = p + i * double.binade := by omega
    subst hq'
    rw [vp, ← Nat.add_mul, e2, l1, l2]
    exact h2 p rfl
/-- y is x times 2^i. -/
def Sc (i x y : Nat) : Prop := fin double x ∧ fin double y ∧ sval double y = sval double x * (2 ^ i : Nat)
theorem Sc.abs {i x y : Nat} (h : Sc i x y) : (sval double y).natAbs = (sval double x).natAbs * 2 ^ i := by rw [h.2.2, Int.natAbs_mul]; rfl
theorem Sc.zero {i x y : Nat} (h : Sc i x y) : sval double x = 0 ↔ sval double y = 0 := by
  have hp : 0 < 2 ^ i := Nat.two_pow_pos _
  rw [h.2.2]
  constructor
  · intro e; rw [e]; simp
  · intro e; rcases Int.mul_eq_zero.1 e with h1 | h1
    · exact h1
    · omega
theorem Sc.sgn {i x y : Nat} (h : Sc i x y) (h0 : sval double x ≠ 0) : Fl.sgn double y = Fl.sgn double x := by
  have hp : (0 : Int) < ((2 ^ i : Nat) : Int) := by have := Nat.two_pow_pos i; omega
  rw [sgn_of_sval h0, sgn_of_sval (fun e => h0 (h.zero.2 e)), h.2.2]
  rw [decide_eq_decide]
  constructor
  · intro h1
    rcases Int.lt_or_le (sval double x) 0 with h2 | h2
    · exact h2
    · have := Int.mul_nonneg h2 (Int.le_of_lt hp); omega
  · intro h1
    exact Int.mul_neg_of_neg_of_pos h1 hp
/-- Both results: rounded alike. -/
theorem Sc.of {i r r' x y : Nat} {s s' : Bool} (hx : x = double.word s (min r double.infRung)) (hy : y = double.word s' (min r' double.infRung)) (hr : r < double.infRung) (hr' : r' < double.infRung)
    (h : (r = 0 ∧ r' = 0) ∨ (double.binade < r ∧ r' = r + i * double.binade ∧ s' = s)) : Sc i x y := by
  have e : min r double.infRung = r := by omega
  have e' : min r' double.infRung = r' := by omega
  rw [e] at hx; rw [e'] at hy
  refine ⟨by rw [hx]; exact fin_word s hr, by rw [hy]; exact fin_word s' hr', ?_⟩
  rw [hx, hy, sval_word s (Nat.le_of_lt hr), sval_word s' (Nat.le_of_lt hr')]
  rcases h with ⟨rfl, rfl⟩ | ⟨h1, rfl, rfl⟩
  · rw [val_zero]; cases s <;> cases s' <;> simp
  · rw [val_shift i (Nat.le_of_lt h1)]
    cases s' <;> simp [Int.neg_mul]
theorem Sc.bd {i x y a b : Nat} (h : Sc i x y) (hx : Bd x a b) : Bd y a (b + i) := by
  have hp : 1 ≤ 2 ^ i := Nat.one_le_two_pow
  refine ⟨h.2.1, ?_, ?_⟩
  · rcases hx.2.1 with h0 | h0
    · exact .inl (h.zero.1 h0)
    · right; rw [h.abs]; exact Nat.le_trans h0 (Nat.le_mul_of_pos_right _ hp)
  · rw [h.abs, Nat.pow_add]; exact Nat.mul_le_mul_right _ hx.2.2
theorem fin_of_eq {x r : Nat} {s : Bool} (hx : x = double.word s (min r double.infRung)) (hf : fin double x) : r < double.infRung := by
  have hl := infRung_lt double
  rw [hx] at hf; unfold fin at hf; rw [rung_word _ (by omega)] at hf; omega
theorem Sc.mul {i x y t a b c d : Nat} (h : Sc i x y) (bx : Bd x a b) (bt : Bd t c d) (hl : 1128 ≤ a + c) (hl2 : a + c ≤ 3171) (hb0 : 1074 ≤ b + d) (hh : b + i + d ≤ 3171) : Sc i (fmul x t) (fmul y t) := by
  obtain ⟨r, h1, h2⟩ := mul_sval h.1 bt.1
  obtain ⟨r', h1', h2'⟩ := mul_sval h.2.1 bt.1
  have hU := one_pos double
  have f1 : fin double (fmul x t) := (Bd.mul bx bt (l := a + c - 1074) (h := b + d - 1074) (by omega) (by omega) (by omega) (by omega)).1
  have f2 : fin double (fmul y t) := (Bd.mul (h.bd bx) bt (l := a + c - 1074) (h := b + i + d - 1074) (by omega) (by omega) (by omega) (by omega)).1
  refine Sc.of h1 h1' (fin_of_eq h1 f1) (fin_of_eq h1' f2) ?_
  rw [h.abs, Nat.mul_right_comm] at h2'
  rcases bx.2.1 with h0 | h0
  · left; rw [h0] at h2 h2'; simp at h2 h2'; exact ⟨rne_zero hU h2, rne_zero hU h2'⟩
  · rcases bt.2.1 with h0' | h0'
    · left; rw [h0'] at h2 h2'; simp at h2 h2'; exact ⟨rne_zero hU h2, rne_zero hU h2'⟩
    · right
      have hbig : double.binade < r := by
        refine binade_of_lo (a := a + c - 1074) (by omega) (rne_lo hU h2 (by omega) ?_)
        obtain ⟨K, hK, eU⟩ := one_pow
        have e : a + c - 1074 + K = a + c := by omega
        rw [eU, ← Nat.pow_add, e, Nat.pow_add]
        exact Nat.mul_le_mul h0 h0'
      have hx0 : sval double x ≠ 0 := by
        intro e; rw [e] at h0; have := Nat.two_pow_pos a; simp at h0
      exact ⟨hbig, h2'.unique hU ((rne_shift i hbig).2 h2), by rw [h.sgn hx0]⟩
theorem Sc.div {i x y t a b c d : Nat} (h : Sc i x y) (bx : Bd x a b) (bt : Bd t c d) (ht : sval double t ≠ 0) (hl : d + 54 ≤ a + 1074) (hl2 : a + 1074 ≤ 2097 + d) (hc : c ≤ b + 1074) (hh : b + i + 1074 ≤ 2097 + c) : Sc i (fdiv x t) (fdiv y t) := by
  obtain ⟨r, h1, h2⟩ := div_sval h.1 bt.1 ht
  obtain ⟨r', h1', h2'⟩ := div_sval h.2.1 bt.1 ht
  have hD : 0 < (sval double t).natAbs := by omega
  have f1 : fin double (fdiv x t) := (Bd.div bx bt ht (l := a + 1074 - d) (h := b + 1074 - c) (by omega) (by omega) (by omega) (by omega)).1
  have f2 : fin double (fdiv y t) := (Bd.div (h.bd bx) bt ht (l := a + 1074 - d) (h := b + i + 1074 - c) (by omega) (by omega) (by omega) (by omega)).1
  refine Sc.of h1 h1' (fin_of_eq h1 f1) (fin_of_eq h1' f2) ?_
  rw [h.abs, Nat.mul_right_comm] at h2'
  rcases bx.2.1 with h0 | h0
  · left; rw [h0] at h2 h2'; simp at h2 h2'; exact ⟨rne_zero hD h2, rne_zero hD h2'⟩
  · right
    have hbig : double.binade < r := by
      refine binade_of_lo (a := a + 1074 - d) (by omega) (rne_lo hD h2 (by omega) ?_)
      obtain ⟨K, hK, eU⟩ := one_pow
      rw [eU]
      have e1 : 2 ^ a * 2 ^ K ≤ (sval double x).natAbs * 2 ^ K := Nat.mul_le_mul_right _ h0
      have e2 : 2 ^ (a + 1074 - d) * (sval double t).natAbs ≤ 2 ^ (a + 1074 - d) * 2 ^ d := Nat.mul_le_mul_left _ bt.2.2
      have e : a + 1074 - d + d = a + K := by omega
      rw [← Nat.pow_add] at e1 e2
      rw [e] at e2
      exact Nat.le_trans e2 e1
    have hx0 : sval double x ≠ 0 := by
      intro e; rw [e] at h0; have := Nat.two_pow_pos a; simp at h0
    exact ⟨hbig, h2'.unique hD ((rne_shift i hbig).2 h2), by rw [h.sgn hx0]⟩
theorem Sc.add {i x y u v a b c d l k : Nat} (h : Sc i x y) (h' : Sc i u v) (bx : Bd x a b) (bu : Bd u c d) (hl1 : l + 52 ≤ a) (hl2 : l + 52 ≤ c) (hl : 54 ≤ l) (hl3 : l ≤ 2097) (hb : b ≤ k) (hd : d ≤ k) (hh : k + i + 1 ≤ 2097) : Sc i (fadd x u) (fadd y v) := by
  obtain ⟨r, s, h1, h2, hs⟩ := add_sval h.1 h'.1
  obtain ⟨r', s', h1', h2', hs'⟩ := add_sval h.2.1 h'.2.1
  have f1 : fin double (fadd x u) := (Bd.add bx bu (l := l) (h := k + 1) hl1 hl2 (by omega) (by omega) (by omega) hl3).1
  have f2 : fin double (fadd y v) := (Bd.add (h.bd bx) (h'.bd bu) (l := l) (h := k + i + 1) hl1 hl2 (by omega) (by omega) (by omega) hl3).1
  refine Sc.of h1 h1' (fin_of_eq h1 f1) (fin_of_eq h1' f2) ?_
  have e : sval double y + sval double v = (sval double x + sval double u) * (2 ^ i : Nat) := by rw [h.2.2, h'.2.2, Int.add_mul]
  have hp : (0 : Int) < ((2 ^ i : Nat) : Int) := by have := Nat.two_pow_pos i; omega
  by_cases hz : sval double x + sval double u = 0
  · left
    have hz' : sval double y + sval double v = 0 := by rw [e, hz]; simp
    rw [hz] at h2; rw [hz'] at h2'
    exact ⟨rne_zero Nat.one_pos h2, rne_zero Nat.one_pos h2'⟩
  · right
    have hdv : ((2 ^ l : Nat) : Int) ∣ sval double x + sval double u := Int.dvd_add (bx.dvd hl1) (bu.dvd hl2)
    have hlo := Nat.le_of_dvd (by omega) (Int.ofNat_dvd_left.1 hdv)
    have hbig : double.binade < r := binade_of_lo hl (rne_lo Nat.one_pos h2 hl3 (by rw [Nat.mul_one]; exact hlo))
    have e2 : (sval double y + sval double v).natAbs = (sval double x + sval double u).natAbs * 2 ^ i := by rw [e, Int.natAbs_mul]; rfl
    rw [e2] at h2'
    refine ⟨hbig, h2'.unique Nat.one_pos ((rne_shift i hbig).2 h2), ?_⟩
    have hz' : sval double y + sval double v ≠ 0 := by
      rw [e]; intro hm; rcases Int.mul_eq_zero.1 hm with h3 | h3
      · exact hz h3
      · omega
    rw [hs hz, hs' hz', e, decide_eq_decide]
    constructor
    · intro h3
      rcases Int.lt_or_le (sval double x + sval double u) 0 with h4 | h4
      · exact h4
      · have := Int.mul_nonneg h4 (Int.le_of_lt hp); omega
    · intro h3; exact Int.mul_neg_of_neg_of_pos h3 hp
theorem Sc.neg {i x y : Nat} (h : Sc i x y) (hx : x < 18446744073709551616) (hy : y < 18446744073709551616) : Sc i (fneg x) (fneg y) := by
  have nx : isNaN double x = false := by have := h.1; unfold fin at this; unfold isNaN; simp; omega
  have ny : isNaN double y = false := by have := h.2.1; unfold fin at this; unfold isNaN; simp; omega
  refine ⟨by have := h.1; unfold fin at *; rw [rung_fneg hx nx]; exact this, by have := h.2.1; unfold fin at *; rw [rung_fneg hy ny]; exact this, ?_⟩
  rw [sval_fneg hx h.1, sval_fneg hy h.2.1, h.2.2, Int.neg_mul]
end Fl
