/- Layer 12, the plain law of InverseScaled: two eliminations of at most three rows of reals, one's numbers 2^i times the other's. -/
import Derived.Test.YtglmmidhkpomgaaGreatReg

namespace Fl
open Ieee Go
/-- y is x times 2^i, and x lies between. -/
def Pr (i lo hi x y : Nat) : Prop := x < 18446744073709551616 ∧ y < 18446744073709551616 ∧ Sc i x y ∧ Bd x lo hi
theorem sval_zq {x y : Nat} (h : zq x y) : sval double x = sval double y := by
  rcases h with h | ⟨h1, h2⟩
  · rw [h]
  · rw [zero_rung.2 h1, zero_rung.2 h2]
theorem fin_zq {x y : Nat} (h : zq x y) (hf : fin double y) : fin double x := by
  unfold fin at *; rw [zq_rung h]; exact hf
theorem zq_of_sval {x y : Nat} (hx : x < 18446744073709551616) (hy : y < 18446744073709551616) (h : sval double x = sval double y) : zq x y := by
  by_cases h0 : sval double x = 0
  · exact .inr ⟨zero_rung.1 h0, zero_rung.1 (h ▸ h0)⟩
  · left
    refine word_inj (f := double) hx hy ?_ (val_inj (by rw [← abs_sval, ← abs_sval, h]))
    rw [sgn_of_sval h0, sgn_of_sval (h ▸ h0), h]
namespace Pr
variable {i lo hi a b c d x y u v : Nat}
theorem zq {x' y' : Nat} (h : Pr i lo hi x y) (hx : Fl.zq x' x) (hy : Fl.zq y' y) (lx : x' < 18446744073709551616) (ly : y' < 18446744073709551616) : Pr i lo hi x' y' := by
  obtain ⟨-, -, s, bd⟩ := h
  have e1 := sval_zq hx
  have e2 := sval_zq hy
  refine ⟨lx, ly, ⟨fin_zq hx s.1, fin_zq hy s.2.1, by rw [e1, e2]; exact s.2.2⟩, fin_zq hx bd.1, ?_, ?_⟩
  · rw [e1]; exact bd.2.1
  · rw [e1]; exact bd.2.2
theorem mono (h : Pr i a b x y) (h1 : c ≤ a) (h2 : b ≤ d) : Pr i c d x y := ⟨h.1, h.2.1, h.2.2.1, h.2.2.2.mono h1 h2⟩
theorem bdy (h : Pr i lo hi x y) : Bd y (lo + i) (hi + i) := by
  obtain ⟨-, -, s, bd⟩ := h
  refine ⟨s.2.1, ?_, ?_⟩
  · rcases bd.2.1 with h0 | h0
    · exact .inl (s.zero.1 h0)
    · right; rw [s.abs, Nat.pow_add]; exact Nat.mul_le_mul_right _ h0
  · rw [s.abs, Nat.pow_add]; exact Nat.mul_le_mul_right _ bd.2.2
theorem nz (h : Pr i lo hi x y) : sval double x ≠ 0 ↔ sval double y ≠ 0 := not_congr h.2.2.1.zero
theorem sub {l h' : Nat} (h : Pr i a b x y) (h2 : Pr i c d u v) (hl1 : l + 52 ≤ a) (hl2 : l + 52 ≤ c) (hl : 54 ≤ l) (hb : b + 1 ≤ h') (hd : d + 1 ≤ h') (hh : h' + i ≤ 2097) (hll : l ≤ 2097) : Pr i l h' (fsub x u) (fsub y v) := by
  refine ⟨fsub_lt _ _, fsub_lt _ _, ?_, ?_⟩
  · rw [fsub_eq x h2.1, fsub_eq y h2.2.1]
    exact h.2.2.1.add (h2.2.2.1.neg h2.1 h2.2.1) h.2.2.2 (h2.2.2.2.neg h2.1) hl1 hl2 hl hll (k := h' - 1) (by omega) (by omega) (by omega)
  · rw [fsub_eq x h2.1]
    exact h.2.2.2.add (h2.2.2.2.neg h2.1) hl1 hl2 hb hd (by omega) hll
theorem mul {l h' : Nat} (hf : Pr 0 c d u v) (h : Pr i a b x y) (hl : l + 1074 = a + c) (hh : h' + 1074 = b + d) (h54 : 54 ≤ l) (hh2 : h' + i ≤ 2097) (hll : l ≤ 2097) : Pr i l h' (fmul u x) (fmul v y) := by
  have e : Fl.zq (fmul v y) (fmul u y) := (zq_of_sval hf.2.1 hf.1 (by rw [hf.2.2.1.2.2]; simp)).mul_l y
  have s : Sc i (fmul x u) (fmul y u) := h.2.2.1.mul h.2.2.2 hf.2.2.2 (by omega) (by omega) (by omega) (by omega)
  rw [fmul_comm x u, fmul_comm y u] at s
  have bd : Bd (fmul u x) l h' := by rw [fmul_comm]; exact h.2.2.2.mul hf.2.2.2 hl hh (by omega) hll
  exact zq (y := fmul u y) ⟨fmul_lt _ _, fmul_lt _ _, s, bd⟩ (zq.rfl' _) e (fmul_lt _ _) (fmul_lt _ _)
end Pr
theorem sc_same {x y r : Nat} {s s' : Bool} (hx : x = double.word s (min r double.infRung)) (hy : y = double.word s' (min r double.infRung)) (hr : r < double.infRung) (h : r = 0 ∨ s' = s) : Sc 0 x y := by
  have e : min r double.infRung = r := by omega
  rw [e] at hx hy
  refine ⟨by rw [hx]; exact fin_word s hr, by rw [hy]; exact fin_word s' hr, ?_⟩
  rw [hx, hy, sval_word s (Nat.le_of_lt hr), sval_word s' (Nat.le_of_lt hr)]
  rcases h with rfl | rfl
  · rw [val_zero]; cases s <;> cases s' <;> simp
  · simp
namespace Pr
variable {i lo hi a b c d x y u v : Nat}
/-- One number and its scale, the other's scale and it. -/
theorem mulW {l h' w w' : Nat} (h : Pr i a b u v) (hw : Pr i c d w w') (hl : l + 1074 = a + c + i) (hh : h' + 1074 = b + d + i) (hh2 : h' ≤ 2097) (hll : l ≤ 2097) : Pr 0 l h' (fmul u w') (fmul v w) := by
  have bd : Bd (fmul u w') l h' := h.2.2.2.mul hw.bdy (by omega) (by omega) hh2 hll
  refine ⟨fmul_lt _ _, fmul_lt _ _, ?_, bd⟩
  obtain ⟨r, h1, h2⟩ := mul_sval h.2.2.1.1 hw.2.2.1.2.1
  obtain ⟨r', h1', h2'⟩ := mul_sval h.2.2.1.2.1 hw.2.2.1.1
  have e : (sval double v).natAbs * (sval double w).natAbs = (sval double u).natAbs * (sval double w').natAbs := by
    rw [h.2.2.1.abs, hw.2.2.1.abs, Nat.mul_right_comm, Nat.mul_assoc]
  rw [e] at h2'
  have hU := one_pos double
  have er := h2'.unique hU h2
  subst er
  refine sc_same h1 h1' (fin_of_eq h1 bd.1) ?_
  by_cases h0 : sval double u = 0
  · left; rw [h0] at h2; simp at h2; exact rne_zero hU h2
  · by_cases h0' : sval double w = 0
    · left
      have : sval double w' = 0 := hw.2.2.1.zero.1 h0'
      rw [this] at h2; simp at h2; exact rne_zero hU h2
    · right; rw [h.2.2.1.sgn h0, hw.2.2.1.sgn h0']
/-- The quotient of two numbers, that of their scales. -/
theorem divF {l h' p q : Nat} (h : Pr i a b x y) (hp : Pr i c d p q) (h0 : sval double p ≠ 0) (hl : l + d = a + 1074) (hh : h' + c = b + 1074) (hh2 : h' ≤ 2097) (hll : l ≤ 2097) : Pr 0 l h' (fdiv x p) (fdiv y q) := by
  have bd : Bd (fdiv x p) l h' := h.2.2.2.div hp.2.2.2 h0 hl hh hh2 hll
  refine ⟨fdiv_lt _ _, fdiv_lt _ _, ?_, bd⟩
  obtain ⟨r, h1, h2⟩ := div_sval h.2.2.1.1 hp.2.2.1.1 h0
  obtain ⟨r', h1', h2'⟩ := div_sval h.2.2.1.2.1 hp.2.2.1.2.1 (hp.nz.1 h0)
  have hD : 0 < (sval double p).natAbs := by omega
  have hi : 0 < 2 ^ i := Nat.two_pow_pos _
  rw [h.2.2.1.abs, hp.2.2.1.abs, Nat.mul_right_comm, Rne.scale _ hi] at h2'
  have er := h2'.unique hD h2
  subst er
  refine sc_same h1 h1' (fin_of_eq h1 bd.1) ?_
  by_cases hx0 : sval double x = 0
  · left; rw [hx0] at h2; simp at h2; exact rne_zero hD h2
  · right; rw [h.2.2.1.sgn hx0, hp.2.2.1.sgn h0]
/-- A number over another, and over its scale: the latter is the less. -/
theorem divW {l h' p q : Nat} (h : Pr 0 a b x y) (hp : Pr i c d p q) (h0 : sval double p ≠ 0) (hl : l + (d + i) = a + 1074) (hh : h' + (c + i) = b + 1074) (h54 : 54 ≤ l) (hh2 : h' + i ≤ 2097) (hll : l + i ≤ 2097) : Pr i l h' (fdiv y q) (fdiv x p) := by
  have hq0 := hp.nz.1 h0
  have by' : Bd y a b := h.bdy
  have bd : Bd (fdiv y q) l h' := by'.div hp.bdy hq0 hl hh (by omega) (by omega)
  have bd2 : Bd (fdiv x p) (l + i) (h' + i) := h.2.2.2.div hp.2.2.2 h0 (by omega) (by omega) (by omega) (by omega)
  refine ⟨fdiv_lt _ _, fdiv_lt _ _, ?_, bd⟩
  obtain ⟨r, h1, h2⟩ := div_sval h.2.2.1.2.1 hp.2.2.1.2.1 hq0
  obtain ⟨r', h1', h2'⟩ := div_sval h.2.2.1.1 hp.2.2.1.1 h0
  have hi : 0 < 2 ^ i := Nat.two_pow_pos _
  have hD : 0 < (sval double p).natAbs := by omega
  have hDq : 0 < (sval double q).natAbs := by omega
  have ey : (sval double y).natAbs = (sval double x).natAbs := by rw [h.2.2.1.abs]; simp
  refine Sc.of h1 h1' (fin_of_eq h1 bd.1) (fin_of_eq h1' bd2.1) ?_
  by_cases hx0 : sval double x = 0
  · left
    have hy0 : sval double y = 0 := h.2.2.1.zero.1 hx0
    rw [hy0] at h2; rw [hx0] at h2'; simp at h2 h2'
    exact ⟨rne_zero hDq h2, rne_zero hD h2'⟩
  · right
    have hy0 : sval double y ≠ 0 := fun e => hx0 (h.2.2.1.zero.2 e)
    have hbig : double.binade < r := by
      have hv := bd.2.1
      have hr := fin_of_eq h1 bd.1
      have hz : sval double (fdiv y q) ≠ 0 := fun e => by
        have h5 : r = 0 := by
          have := zero_rung.1 e
          rw [h1, rung_word _ (by have := infRung_lt double; omega)] at this
          have := infRung_lt double; omega
        rw [h5] at h2
        have hy1 : 2 ^ a ≤ (sval double y).natAbs := by rcases by'.2.1 with g | g; exact absurd g hy0; exact g
        have h6 : 2 ^ l ≤ val double 0 := rne_lo hDq h2 (by omega) (by
          obtain ⟨K, hK, eU⟩ := one_pow
          rw [eU]
          have e1 : 2 ^ a * 2 ^ K ≤ (sval double y).natAbs * 2 ^ K := Nat.mul_le_mul_right _ hy1
          have e2 : 2 ^ l * (sval double q).natAbs ≤ 2 ^ l * 2 ^ (d + i) := Nat.mul_le_mul_left _ hp.bdy.2.2
          have e3 : l + (d + i) = a + K := by omega
          rw [← Nat.pow_add] at e1 e2
          rw [e3] at e2
          exact Nat.le_trans e2 e1)
        rw [val_zero] at h6
        have := Nat.two_pow_pos l; omega
      have h7 : 2 ^ l ≤ val double r := by
        rcases hv with g | g
        · exact absurd g hz
        · rw [h1, natAbs_word hr] at g; exact g
      exact binade_of_lo h54 h7
    refine ⟨hbig, ?_, by rw [h.2.2.1.sgn hx0, hp.2.2.1.sgn h0]⟩
    rw [ey, hp.2.2.1.abs] at h2
    have h8 := (rne_shift i hbig).2 h2
    rw [Rne.scale _ hi] at h8
    exact h2'.unique hD h8
end Pr
/-! ### Numbers that are real -/
theorem fneg_rung0 {z : Nat} (hl : z < 18446744073709551616) (h : rung double z = 0) : rung double (fneg z) = 0 := by
  rw [rung_fneg hl (isNaN_of_rung0 h)]; exact h
theorem fsub_zero' {x z : Nat} (hx : x < 18446744073709551616) (hf : fin double x) (hl : z < 18446744073709551616) (hz : rung double z = 0) : zq (fsub x z) x := by
  rw [fsub_eq x hl]; exact fadd_zero hx hf (fneg_rung0 hl hz)
theorem add_zz {x z : Nat} (hx : x < 18446744073709551616) (h : rung double x = 0) (hz : rung double z = 0) : rung double (fadd x z) = 0 :=
  (zq_rung (fadd_zero hx (fin_of_rung0 h) hz)).trans h
theorem sub_zz {x z : Nat} (hx : x < 18446744073709551616) (h : rung double x = 0) (hl : z < 18446744073709551616) (hz : rung double z = 0) : rung double (fsub x z) = 0 := by
  rw [fsub_eq x hl]; exact add_zz hx h (fneg_rung0 hl hz)
theorem real_mul {p q : C} (fp : fin double p.1) (fq : fin double q.1) (zp : rung double p.2 = 0) (zq' : rung double q.2 = 0) (hf : fin double (fmul p.1 q.1)) : zq (pMul p q).1 (fmul p.1 q.1) ∧ rung double (pMul p q).2 = 0 := by
  have m1 : rung double (fmul p.2 q.2) = 0 := zmul zp (fin_of_rung0 zq')
  have m2 : rung double (fmul p.1 q.2) = 0 := by rw [fmul_comm]; exact zmul zq' fp
  have m3 : rung double (fmul p.2 q.1) = 0 := zmul zp fq
  exact ⟨fsub_zero' (fmul_lt _ _) hf (fmul_lt _ _) m1, add_zz (fmul_lt _ _) m2 m3⟩
theorem real_div {p q : C} (lp : ltC p) (lq : ltC q) (fp : fin double p.1) (fq : fin double q.1) (zp : rung double p.2 = 0) (zq' : rung double q.2 = 0) (h0 : rung double q.1 ≠ 0) : zq (pDiv p q).1 (fdiv p.1 q.1) ∧ rung double (pDiv p q).2 = 0 := by
  have pq : pFinite q = true := by
    unfold pFinite; rw [Bool.and_eq_true]
    exact ⟨by unfold isFin; simpa [fin] using fq, by unfold isFin; rw [zq']; decide⟩
  obtain ⟨f1, f2, n1, n2, i1, i2⟩ := fin_parts pq
  have e1 := (fabs_fin i1 n1).1
  have e2 := (fabs_fin i2 n2).1
  have hle : fle .f64 (fabs q.2) (fabs q.1) = true := by
    rw [e1, e2, fle_rungs (by omega) (by omega), zq']; simp
  have r1 := fdiv_zero zq' fq h0
  have t1 : fadd q.1 (fmul q.2 (fdiv q.2 q.1)) = q.1 := zadd (zmul zq' (fin_of_rung0 r1)) lq.1 fq h0
  unfold pDiv
  rw [if_pos hle]
  simp only [t1]
  refine ⟨(fadd_zero lp.1 fp (zmul zp (fin_of_rung0 r1))).div_l _, fdiv_zero ?_ fq h0⟩
  exact sub_zz lp.2 zp (fmul_lt _ _) (by rw [fmul_comm]; exact zmul r1 fp)
/-- Two numbers without imaginary parts, one 2^i times the other. -/
structure Rp (i lo hi : Nat) (z z' : C) : Prop where
  re : Pr i lo hi z.1 z'.1
  im : rung double z.2 = 0
  im' : rung double z'.2 = 0
  lt : z.2 < 18446744073709551616
  lt' : z'.2 < 18446744073709551616
namespace Rp
variable {i a b c d : Nat} {x y u v p q : C}
theorem ltx (h : Rp i a b x y) : ltC x := ⟨h.re.1, h.lt⟩
theorem lty (h : Rp i a b x y) : ltC y := ⟨h.re.2.1, h.lt'⟩
theorem mono (h : Rp i a b x y) (h1 : c ≤ a) (h2 : b ≤ d) : Rp i c d x y := { h with re := h.re.mono h1 h2 }
theorem finx (h : Rp i a b x y) : pFinite x = true := by
  unfold pFinite; rw [Bool.and_eq_true]
  exact ⟨by unfold isFin; simpa [fin] using h.re.2.2.1.1, by unfold isFin; rw [h.im]; decide⟩
theorem finy (h : Rp i a b x y) : pFinite y = true := by
  unfold pFinite; rw [Bool.and_eq_true]
  exact ⟨by unfold isFin; simpa [fin] using h.re.2.2.1.2.1, by unfold isFin; rw [h.im']; decide⟩
theorem zero (h : Rp i a b x y) : pZero y = pZero x := by
  refine Bool.eq_iff_iff.2 ?_
  rw [zero_iff h.finx, zero_iff h.finy]
  have e := h.re.2.2.1.zero
  rw [zero_rung, zero_rung] at e
  rw [h.im, h.im', e]
theorem nz (h : Rp i a b x y) (h0 : pZero x = false) : sval double x.1 ≠ 0 := fun e => by
  rw [(zero_iff h.finx).2 ⟨zero_rung.1 e, h.im⟩] at h0; cases h0
theorem sub {l h' : Nat} (h : Rp i a b x y) (h2 : Rp i c d u v) (hl1 : l + 52 ≤ a) (hl2 : l + 52 ≤ c) (hl : 54 ≤ l) (hb : b + 1 ≤ h') (hd : d + 1 ≤ h') (hh : h' + i ≤ 2097) (hll : l ≤ 2097) : Rp i l h' (pSub x u) (pSub y v) where
  re := h.re.sub h2.re hl1 hl2 hl hb hd hh hll
  im := sub_zz h.lt h.im h2.lt h2.im
  im' := sub_zz h.lt' h.im' h2.lt' h2.im'
  lt := fsub_lt _ _
  lt' := fsub_lt _ _
theorem mul {l h' : Nat} (hf : Rp 0 c d u v) (h : Rp i a b x y) (hl : l + 1074 = a + c) (hh : h' + 1074 = b + d) (h54 : 54 ≤ l) (hh2 : h' + i ≤ 2097) (hll : l ≤ 2097) : Rp i l h' (pMul u x) (pMul v y) := by
  have m := hf.re.mul h.re hl hh h54 hh2 hll
  obtain ⟨z1, z2⟩ := real_mul hf.re.2.2.1.1 h.re.2.2.1.1 hf.im h.im m.2.2.1.1
  obtain ⟨z3, z4⟩ := real_mul hf.re.2.2.1.2.1 h.re.2.2.1.2.1 hf.im' h.im' m.2.2.1.2.1
  exact ⟨m.zq z1 z3 (fsub_lt _ _) (fsub_lt _ _), z2, z4, fadd_lt _ _, fadd_lt _ _⟩
theorem mulW {l h' : Nat} {w w' : C} (h : Rp i a b u v) (hw : Rp i c d w w') (hl : l + 1074 = a + c + i) (hh : h' + 1074 = b + d + i) (hh2 : h' ≤ 2097) (hll : l ≤ 2097) : Rp 0 l h' (pMul u w') (pMul v w) := by
  have m := h.re.mulW hw.re hl hh hh2 hll
  obtain ⟨z1, z2⟩ := real_mul h.re.2.2.1.1 hw.re.2.2.1.2.1 h.im hw.im' m.2.2.1.1
  obtain ⟨z3, z4⟩ := real_mul h.re.2.2.1.2.1 hw.re.2.2.1.1 h.im' hw.im m.2.2.1.2.1
  exact ⟨m.zq z1 z3 (fsub_lt _ _) (fsub_lt _ _), z2, z4, fadd_lt _ _, fadd_lt _ _⟩
theorem divF {l h' : Nat} (h : Rp i a b x y) (hp : Rp i c d p q) (h0 : pZero p = false) (hl : l + d = a + 1074) (hh : h' + c = b + 1074) (hh2 : h' ≤ 2097) (hll : l ≤ 2097) : Rp 0 l h' (pDiv x p) (pDiv y q) := by
  have n0 := hp.nz h0
  have n1 := hp.re.nz.1 n0
  have m := h.re.divF hp.re n0 hl hh hh2 hll
  obtain ⟨z1, z2⟩ := real_div h.ltx hp.ltx h.re.2.2.1.1 hp.re.2.2.1.1 h.im hp.im (fun e => n0 (zero_rung.2 e))
  obtain ⟨z3, z4⟩ := real_div h.lty hp.lty h.re.2.2.1.2.1 hp.re.2.2.1.2.1 h.im' hp.im' (fun e => n1 (zero_rung.2 e))
  exact ⟨m.zq z1 z3 (ltC_div _ _).1 (ltC_div _ _).1, z2, z4, (ltC_div _ _).2, (ltC_div _ _).2⟩
theorem divW {l h' : Nat} (h : Rp 0 a b x y) (hp : Rp i c d p q) (h0 : pZero p = false) (hl : l + (d + i) = a + 1074) (hh : h' + (c + i) = b + 1074) (h54 : 54 ≤ l) (hh2 : h' + i ≤ 2097) (hll : l + i ≤ 2097) : Rp i l h' (pDiv y q) (pDiv x p) := by
  have n0 := hp.nz h0
  have n1 := hp.re.nz.1 n0
  have m := h.re.divW hp.re n0 hl hh h54 hh2 hll
  obtain ⟨z1, z2⟩ := real_div h.ltx hp.ltx h.re.2.2.1.1 hp.re.2.2.1.1 h.im hp.im (fun e => n0 (zero_rung.2 e))
  obtain ⟨z3, z4⟩ := real_div h.lty hp.lty h.re.2.2.1.2.1 hp.re.2.2.1.2.1 h.im' hp.im' (fun e => n1 (zero_rung.2 e))
  exact ⟨m.zq z3 z1 (ltC_div _ _).1 (ltC_div _ _).1, z4, z2, (ltC_div _ _).2, (ltC_div _ _).2⟩
/-- A real's size. -/
theorem size (h : Rp i a b x y) : pSize1 x = rung double x.1 ∧ pSize1 y = rung double y.1 := by
  have key : ∀ z : C, pFinite z = true → rung double z.2 = 0 → pSize1 z = rung double z.1 := fun z hf hz => by
    obtain ⟨f1, f2, n1, n2, i1, i2⟩ := fin_parts hf
    unfold pSize1
    rw [(fabs_fin i1 n1).1, (fabs_fin i2 n2).1, hz]
    have hl := infRung_lt double
    have hr := sgn_rung' (r := rung double z.1) (by omega)
    by_cases h0 : rung double z.1 = 0
    · rw [h0]; decide +kernel
    · exact zadd (z := 0) (by decide) (rung_lt64' _) (fin_rung f1) (by rw [hr.2]; exact h0)
  exact ⟨key x h.finx h.im, key y h.finy h.im'⟩
theorem flt_size {a' b' : Nat} (h : Rp i a b x y) (h2 : Rp i a' b' u v) : flt .f64 (pSize1 y) (pSize1 v) = flt .f64 (pSize1 x) (pSize1 u) := by
  have l1 := (size1_fin h.finx).1
  have l2 := (size1_fin h.finy).1
  have l3 := (size1_fin h2.finx).1
  have l4 := (size1_fin h2.finy).1
  rw [flt_rungs l2 l4, flt_rungs l1 l3, h.size.1, h.size.2, h2.size.1, h2.size.2, decide_eq_decide]
  rw [← val_lt_iff (f := double), ← val_lt_iff (f := double) (a := rung double x.1), ← abs_sval, ← abs_sval, ← abs_sval, ← abs_sval, h.re.2.2.1.abs, h2.re.2.2.1.abs]
  exact Nat.mul_lt_mul_right (Nat.two_pow_pos i)
end Rp
end Fl
