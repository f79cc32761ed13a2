/- Layer 10, the plain law of SolveScales: of at most two rows of whole complex numbers a right side 2^i times another has unknowns 2^i times as great. -/
import Derived.Test.YtglmmidhkpomgaaGreatScP
import Derived.Test.YtglmmidhkpomgaaGreatSV0
namespace Fl
open Ieee Go
theorem Pr.add {i a b c d x y u v l h' : Nat} (h : Pr i a b x y) (h2 : Pr i c d u v) (hl1 : l + 52 ≤ a) (hl2 : l + 52 ≤ c) (hl : 54 ≤ l) (hb : b + 1 ≤ h') (hd : d + 1 ≤ h') (hh : h' + i ≤ 2097) (hll : l ≤ 2097) : Pr i l h' (fadd x u) (fadd y v) :=
  ⟨fadd_lt _ _, fadd_lt _ _, h.2.2.1.add h2.2.2.1 h.2.2.2 h2.2.2.2 hl1 hl2 hl hll (k := h' - 1) (by omega) (by omega) (by omega), h.2.2.2.add h2.2.2.2 hl1 hl2 hb hd (by omega) hll⟩
/-- A word beside itself. -/
theorem Pr.self {x lo hi : Nat} (lx : x < 18446744073709551616) (h : Bd x lo hi) : Pr 0 lo hi x x := ⟨lx, lx, ⟨h.1, h.1, by simp⟩, h⟩
theorem Pr.quo {i a b c d x y t l h' : Nat} (h : Pr i a b x y) (bt : Bd t c d) (ht : sval double t ≠ 0) (hl : l + d = a + 1074) (hh : h' + c = b + 1074) (h54 : 54 ≤ l) (hh2 : h' + i ≤ 2097) (hll : l ≤ 2097) : Pr i l h' (fdiv x t) (fdiv y t) :=
  ⟨fdiv_lt _ _, fdiv_lt _ _, h.2.2.1.div h.2.2.2 bt ht (by omega) (by omega) (by omega) (by omega), h.2.2.2.div bt ht hl hh (by omega) hll⟩
/-- A quotient by a number that is no smaller. -/
theorem div_le1 {u v c d lr : Nat} (hu : Bd u c d) (hv : Bd v c d) (h0 : sval double v ≠ 0) (hle : (sval double u).natAbs ≤ (sval double v).natAbs) (hlr : lr + d = c + 1074) (hlr2 : lr ≤ 2097) (hcd : c ≤ d) (hdc : d ≤ c + 1000) : Bd (fdiv u v) lr 1074 := by
  have hb := Bd.div hu hv h0 (l := lr) (h := d + 1074 - c) hlr (by omega) (by omega) hlr2
  obtain ⟨r, h1, h2⟩ := div_sval hu.1 hv.1 h0
  refine ⟨hb.1, hb.2.1, ?_⟩
  have hD : 0 < (sval double v).natAbs := by omega
  have hr : r ≤ 4607182418800017408 := rne_le hD h2 (by
    rw [show val double 4607182418800017408 = one_ double by decide +kernel, Nat.mul_comm]
    exact Nat.mul_le_mul_left _ hle)
  have hi : double.infRung = 9218868437227405312 := by decide
  rw [h1, Nat.min_eq_left (by rw [hi]; omega), abs_sval, rung_word _ (by rw [sw64]; omega)]
  have := val_le (f := double) hr
  obtain ⟨K, hK, eU⟩ := one_pow
  rw [← hK, ← eU]
  have e : val double 4607182418800017408 = one_ double := by decide +kernel
  omega
/-- What a quotient is divided by: the greater part, and what the lesser adds. -/
def denv (v u : Nat) : Nat := fadd v (fmul u (fdiv u v))
theorem den_facts {u v c d : Nat} (hu : Bd u c d) (hv : Bd v c d) (h0 : sval double v ≠ 0) (hle : (sval double u).natAbs ≤ (sval double v).natAbs) (hcd : c ≤ d) (hd : d ≤ 2000) (h2c : d + 112 ≤ 2 * c) (hdc : d ≤ c + 1000) :
    Bd (denv v u) (2 * c - d - 52) (d + 1) ∧ sval double (denv v u) ≠ 0 := by
  have hr := div_le1 hu hv h0 hle (lr := c + 1074 - d) (by omega) (by omega) hcd hdc
  have hm := Bd.mul hu hr (l := 2 * c - d) (h := d) (by omega) (by omega) (by omega) (by omega)
  have hsum : sval double v + sval double (fmul u (fdiv u v)) ≠ 0 := by
    obtain ⟨r, h1, -⟩ := div_sval hu.1 hv.1 h0
    obtain ⟨q, h3, -⟩ := mul_sval hu.1 hr.1
    have hl := infRung_lt double
    have e1 : sgn double (fdiv u v) = (sgn double u ^^ sgn double v) := by rw [h1]; exact sgn_word _ (by omega)
    have e2 : (sgn double u ^^ sgn double (fdiv u v)) = sgn double v := by rw [e1]; cases sgn double u <;> cases sgn double v <;> rfl
    rw [e2] at h3
    rw [h3, sval_word _ (by omega)]
    have hn : sval double v = if sgn double v then -(val double (rung double v) : Int) else (val double (rung double v) : Int) := rfl
    have hp : val double (rung double v) ≠ 0 := fun e => by
      have := abs_sval v
      omega
    rw [hn]
    cases sgn double v <;> simp <;> omega
  exact ⟨hv.add hm (by omega) (by omega) (by omega) (by omega) (by omega) (by omega), hv.add_nz hm (l := 2 * c - d - 52) (h := d + 1) (by omega) (by omega) (by omega) (by omega) (by omega) (by omega) hsum⟩
/-- Two numbers, one 2^i times the other, part by part. -/
structure CP (i lo hi : Nat) (x y : C) : Prop where
  re : Pr i lo hi x.1 y.1
  im : Pr i lo hi x.2 y.2
namespace CP
variable {i a b c d : Nat} {x y u v q : C}
theorem ltx (h : CP i a b x y) : ltC x := ⟨h.re.1, h.im.1⟩
theorem lty (h : CP i a b x y) : ltC y := ⟨h.re.2.1, h.im.2.1⟩
theorem mono (h : CP i a b x y) (h1 : c ≤ a) (h2 : b ≤ d) : CP i c d x y := ⟨h.re.mono h1 h2, h.im.mono h1 h2⟩
theorem fin_of {z : C} (h1 : fin double z.1) (h2 : fin double z.2) : pFinite z = true := by
  unfold pFinite isFin
  rw [decide_eq_true (show rung double z.1 < double.infRung from h1), decide_eq_true (show rung double z.2 < double.infRung from h2)]; rfl
theorem finx (h : CP i a b x y) : pFinite x = true := fin_of h.re.2.2.1.1 h.im.2.2.1.1
theorem finy (h : CP i a b x y) : pFinite y = true := fin_of h.re.2.2.1.2.1 h.im.2.2.1.2.1
theorem sub {l h' : Nat} (h : CP i a b x y) (h2 : CP i c d u v) (hl1 : l + 52 ≤ a) (hl2 : l + 52 ≤ c) (hl : 54 ≤ l) (hb : b + 1 ≤ h') (hd : d + 1 ≤ h') (hh : h' + i ≤ 2097) (hll : l ≤ 2097) : CP i l h' (pSub x u) (pSub y v) :=
  ⟨h.re.sub h2.re hl1 hl2 hl hb hd hh hll, h.im.sub h2.im hl1 hl2 hl hb hd hh hll⟩
theorem mul {l h' : Nat} (hq : CP 0 c d q q) (h : CP i a b x y) (hl : l + 1126 = a + c) (hh : h' + 1073 = b + d) (h54 : 54 ≤ l) (hh2 : h' + i ≤ 2097) (hll : l + 52 ≤ 2097) (hb : 1 ≤ h') : CP i l h' (pMul q x) (pMul q y) := by
  have p1 := hq.re.mul h.re (l := l + 52) (h' := h' - 1) (by omega) (by omega) (by omega) (by omega) (by omega)
  have p2 := hq.im.mul h.im (l := l + 52) (h' := h' - 1) (by omega) (by omega) (by omega) (by omega) (by omega)
  have p3 := hq.re.mul h.im (l := l + 52) (h' := h' - 1) (by omega) (by omega) (by omega) (by omega) (by omega)
  have p4 := hq.im.mul h.re (l := l + 52) (h' := h' - 1) (by omega) (by omega) (by omega) (by omega) (by omega)
  exact ⟨p1.sub p2 (by omega) (by omega) h54 (by omega) (by omega) hh2 (by omega), p3.add p4 (by omega) (by omega) h54 (by omega) (by omega) hh2 (by omega)⟩
theorem div {l h' : Nat} (h : CP i a b x y) (hq : CP 0 c d q q) (hz : pZero q = false) (hl : l + 2 * d + 53 = a + c + 1074) (hh : h' + 2 * c = b + d + 1127) (h54 : 54 ≤ l) (hh2 : h' + i ≤ 2097) (hll : l ≤ 2097)
    (hcd : c ≤ d) (hd : d ≤ 2000) (h2c : d + 112 ≤ 2 * c) (hdc : d ≤ c + 1000) (hab : b + 1 + i ≤ 2097) (ha : a + c ≤ 2097 + d) (hac : d + 106 ≤ a + c) : CP i l h' (pDiv x q) (pDiv y q) := by
  have b1 := hq.re.2.2.2
  have b2 := hq.im.2.2.2
  have hfin := hq.finx
  obtain ⟨f1, f2, n1, n2, i1, i2⟩ := fin_parts hfin
  have e1 := (fabs_fin i1 n1).1
  have e2 := (fabs_fin i2 n2).1
  have hle : fle .f64 (fabs q.2) (fabs q.1) = decide (rung double q.2 ≤ rung double q.1) := by rw [e1, e2, fle_rungs (by omega) (by omega)]
  have hnz : ¬ (rung double q.1 = 0 ∧ rung double q.2 = 0) := fun ⟨z1, z2⟩ => by
    unfold pZero at hz
    rw [feq_zero, feq_zero] at hz
    change ((!isNaN double q.1 && decide (rung double q.1 = 0)) && (!isNaN double q.2 && decide (rung double q.2 = 0))) = false at hz
    rw [n1, n2, decide_eq_true z1, decide_eq_true z2] at hz
    cases hz
  have core : ∀ {v w : Nat}, Bd v c d → Bd w c d → v < 18446744073709551616 → w < 18446744073709551616 → rung double v ≠ 0 → rung double w ≤ rung double v → ∀ {p p' s s' : Nat}, Pr i a b p p' → Pr i a b s s' →
      Pr i l h' (fdiv (fadd p (fmul s (fdiv w v))) (denv v w)) (fdiv (fadd p' (fmul s' (fdiv w v))) (denv v w)) ∧ Pr i l h' (fdiv (fsub s (fmul p (fdiv w v))) (denv v w)) (fdiv (fsub s' (fmul p' (fdiv w v))) (denv v w)) ∧ Pr i l h' (fdiv (fsub (fmul p (fdiv w v)) s) (denv v w)) (fdiv (fsub (fmul p' (fdiv w v)) s') (denv v w)) := by
    intro v w hv hw lv lw v0 hwv p p' s s' hp hs
    have hv0 : sval double v ≠ 0 := fun e => v0 (zero_rung.1 e)
    have hab2 : (sval double w).natAbs ≤ (sval double v).natAbs := by rw [abs_sval, abs_sval]; exact val_le hwv
    obtain ⟨bt, t0⟩ := den_facts hw hv hv0 hab2 hcd hd h2c hdc
    have br := div_le1 hw hv hv0 hab2 (lr := c + 1074 - d) (by omega) (by omega) hcd hdc
    have pr := Pr.self (fdiv_lt w v) br
    have m1 := pr.mul hs (l := a + c - d) (h' := b) (by omega) (by omega) (by omega) (by omega) (by omega)
    have m2 := pr.mul hp (l := a + c - d) (h' := b) (by omega) (by omega) (by omega) (by omega) (by omega)
    rw [fmul_comm, fmul_comm (fdiv w v) s'] at m1
    rw [fmul_comm, fmul_comm (fdiv w v) p'] at m2
    have k1 := hp.add m1 (l := a + c - d - 52) (h' := b + 1) (by omega) (by omega) (by omega) (by omega) (by omega) (by omega) (by omega)
    have k2 := hs.sub m2 (l := a + c - d - 52) (h' := b + 1) (by omega) (by omega) (by omega) (by omega) (by omega) (by omega) (by omega)
    have k3 := m2.sub hs (l := a + c - d - 52) (h' := b + 1) (by omega) (by omega) (by omega) (by omega) (by omega) (by omega) (by omega)
    exact ⟨k1.quo bt t0 (by omega) (by omega) h54 hh2 hll, k2.quo bt t0 (by omega) (by omega) h54 hh2 hll, k3.quo bt t0 (by omega) (by omega) h54 hh2 hll⟩
  by_cases hb : rung double q.2 ≤ rung double q.1
  · have hq1 : rung double q.1 ≠ 0 := fun e => hnz ⟨e, by omega⟩
    obtain ⟨r1, r2, -⟩ := core b1 b2 hq.re.1 hq.im.1 hq1 hb h.re h.im
    unfold pDiv
    rw [hle, if_pos (decide_eq_true hb), if_pos (decide_eq_true hb)]
    exact ⟨r1, r2⟩
  · have hq2 : rung double q.2 ≠ 0 := by omega
    obtain ⟨r1, -, r3⟩ := core b2 b1 hq.im.1 hq.re.1 hq2 (by omega) h.im h.re
    unfold pDiv
    rw [hle, if_neg (by rw [decide_eq_false hb]; simp), if_neg (by rw [decide_eq_false hb]; simp)]
    have ed : fadd (fmul q.1 (fdiv q.1 q.2)) q.2 = denv q.2 q.1 := fadd_comm _ _
    refine ⟨?_, ?_⟩
    · show Pr i l h' (fdiv (fadd (fmul x.1 (fdiv q.1 q.2)) x.2) (fadd (fmul q.1 (fdiv q.1 q.2)) q.2)) (fdiv (fadd (fmul y.1 (fdiv q.1 q.2)) y.2) (fadd (fmul q.1 (fdiv q.1 q.2)) q.2))
      rw [ed, fadd_comm (fmul x.1 _), fadd_comm (fmul y.1 _)]; exact r1
    · show Pr i l h' (fdiv (fsub (fmul x.2 (fdiv q.1 q.2)) x.1) (fadd (fmul q.1 (fdiv q.1 q.2)) q.2)) (fdiv (fsub (fmul y.2 (fdiv q.1 q.2)) y.1) (fadd (fmul q.1 (fdiv q.1 q.2)) q.2))
      rw [ed]; exact r3
theorem zero (h : CP i a b x y) : pZero y = pZero x := by
  have key : ∀ {p q : Nat}, Pr i a b p q → feq .f64 q 0 = feq .f64 p 0 := fun {p q} hp => by
    have e1 : isNaN double p = false := decide_eq_false (by have := hp.2.2.1.1; unfold fin at this; omega)
    have e2 : isNaN double q = false := decide_eq_false (by have := hp.2.2.1.2.1; unfold fin at this; omega)
    rw [feq_zero, feq_zero]
    show (!isNaN double q && decide (rung double q = 0)) = (!isNaN double p && decide (rung double p = 0))
    rw [e1, e2]
    congr 1
    rw [decide_eq_decide, ← zero_rung, ← zero_rung]
    exact hp.2.2.1.zero.symm
  unfold pZero
  rw [key h.re, key h.im]
end CP
theorem and4 {a b c d : Bool} (h1 : a = true) (h2 : b = true) (h3 : c = true) (h4 : d = true) : (a && ((b && c) && d)) = true := by rw [h1, h2, h3, h4]; rfl
/-- An elimination of at most two rows of whole numbers: its numbers' bounds. -/
structure BndS (n : Nat) (Lo Up : Nat → Nat → C) : Prop where
  u0 : ∀ j, j < n → CP 0 1074 1083 (Up 0 j) (Up 0 j)
  u1 : 1 < n → CP 0 899 1156 (Up 1 1) (Up 1 1)
  l1 : 1 < n → CP 0 1003 1145 (Lo 1 0) (Lo 1 0)
  nz : ∀ r, r < n → pZero (Up r r) = false
theorem BndS.sol {n i B : Nat} {Lo Up : Nat → Nat → C} {b b' : Nat → C} {o : Nat → Nat} (h : BndS n Lo Up) (hn : n ≤ 2) (hb : ∀ r, r < n → CP i B (B + 9) (b (o r)) (b' (o r))) (h1 : 974 ≤ B) (h2 : B ≤ 1074) (h3 : i ≤ 100) :
    (∀ r, r < n → CP i (B - 742) (B + 640) (solX Lo Up o b n r) (solX Lo Up o b' n r)) ∧ solFine Lo Up o b n = true ∧ solFine Lo Up o b' n = true := by
  match n, hn with
  | 0, _ => exact ⟨fun r hr => absurd hr (Nat.not_lt_zero _), rfl, rfl⟩
  | 1, _ =>
    have w0 := (hb 0 (by omega)).div (h.u0 0 (by omega)) (h.nz 0 (by omega)) (l := B - 71) (h' := B + 71) (by omega) (by omega) (by omega) (by omega) (by omega) (by omega) (by omega) (by omega) (by omega) (by omega) (by omega) (by omega)
    refine ⟨fun r hr => ?_, ?_, ?_⟩
    · have : r = 0 := by omega
      subst this
      exact w0.mono (by omega) (by omega)
    · exact w0.finx
    · exact w0.finy
  | 2, _ =>
    have m1 := (h.l1 (by omega)).mul (hb 0 (by omega)) (l := B - 123) (h' := B + 81) (by omega) (by omega) (by omega) (by omega) (by omega) (by omega)
    have v1 := (hb 1 (by omega)).sub m1 (l := B - 175) (h' := B + 82) (by omega) (by omega) (by omega) (by omega) (by omega) (by omega) (by omega)
    have w1 := v1.div (h.u1 (by omega)) (h.nz 1 (by omega)) (l := B - 567) (h' := B + 567) (by omega) (by omega) (by omega) (by omega) (by omega) (by omega) (by omega) (by omega) (by omega) (by omega) (by omega) (by omega)
    have p1 := (h.u0 1 (by omega)).mul w1 (l := B - 619) (h' := B + 577) (by omega) (by omega) (by omega) (by omega) (by omega) (by omega)
    have s0 := (hb 0 (by omega)).sub p1 (l := B - 671) (h' := B + 578) (by omega) (by omega) (by omega) (by omega) (by omega) (by omega) (by omega)
    have w0 := s0.div (h.u0 0 (by omega)) (h.nz 0 (by omega)) (l := B - 742) (h' := B + 640) (by omega) (by omega) (by omega) (by omega) (by omega) (by omega) (by omega) (by omega) (by omega) (by omega) (by omega) (by omega)
    refine ⟨fun r hr => ?_, ?_, ?_⟩
    · have : r = 0 ∨ r = 1 := by omega
      rcases this with rfl | rfl
      · exact w0
      · exact w1.mono (by omega) (by omega)
    · have h4 := and4 v1.finx w1.finx s0.finx w0.finx
      exact h4
    · have h4 := and4 v1.finy w1.finy s0.finy w0.finy
      exact h4
  | n + 3, hn => omega
end Fl
