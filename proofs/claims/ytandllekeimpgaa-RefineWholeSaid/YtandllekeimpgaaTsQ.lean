/- 2Sum and the product's error are exact (pure). -/
import Derived.Test.YtandllekeimpgaaFmP
import Derived.Test.YtandllekeimpgaaS02
import Derived.Test.YtandllekeimpgaaExt
namespace Fl
open Ieee Go Go.Proofs.Ytandllekeimpgaa
theorem three_h : val double 9216616637413720064 = 3 * val double 9209861237972664320 := by decide +kernel
/-- 2SUM IS EXACT where no size passes 2^1022. -/
theorem twoSum_exact {x y : Nat} (hlx : x < 18446744073709551616) (_ : y < 18446744073709551616) (hx : fin double x) (hy : fin double y)
    (bx : (sval double x).natAbs ≤ val double 9209861237972664320) (by_ : (sval double y).natAbs ≤ val double 9209861237972664320) :
    fin double (twoSum x y).1 ∧ fin double (twoSum x y).2 ∧ sval double (twoSum x y).1 + sval double (twoSum x y).2 = sval double x + sval double y ∧ Nr (sval double x + sval double y) (sval double (twoSum x y).1) := by
  have h3 := three_h
  have hq : 9216616637413720064 < double.infRung := by rw [inf_double]; decide
  have hH2 := rep_two (rep_val 9209861237972664320)
  obtain ⟨H, hH⟩ : ∃ H, H = val double 9209861237972664320 := ⟨_, rfl⟩
  rw [← hH] at h3 bx by_ hH2
  have ha := rep_sval x
  have hb := rep_sval y
  obtain ⟨fs, ns⟩ := nr_fadd hx hy hq (by rw [h3]; omega)
  have l1 := ns.le hH2 (by omega)
  have l2 := ns.ge hH2.neg (by omega)
  obtain ⟨ft, nt⟩ := nr_fsub hlx fs hx hq (by rw [h3]; omega)
  obtain ⟨r1, r2, r3, r4⟩ := two_steps ha hb ns nt
  have d1 := nt.2 _ ns.1
  have d2 := nt.2 _ hb
  have d3 := ns.2 _ hb
  obtain ⟨fu, nu⟩ := nr_fsub (fsub_lt _ _) fs ft hq (by rw [h3]; omega)
  have eu := nu.exact r1
  obtain ⟨fv, nv⟩ := nr_fsub (fsub_lt _ _) hx fu hq (by rw [h3]; omega)
  have ev := nv.exact (by rw [eu]; exact r2)
  obtain ⟨fw, nw⟩ := nr_fsub (fsub_lt _ _) hy ft hq (by rw [h3]; omega)
  have ew := nw.exact r3
  obtain ⟨fe, ne⟩ := nr_fadd fv fw hq (by rw [h3]; omega)
  have ee := ne.exact (by rw [show sval double (fsub x (fsub (fadd x y) (fsub (fadd x y) x))) + sval double (fsub y (fsub (fadd x y) x)) = sval double x + sval double y - sval double (fadd x y) by omega]; exact r4)
  refine ⟨fs, fe, ?_, ns⟩
  show sval double (fadd x y) + sval double (fadd (fsub x (fsub (fadd x y) (fsub (fadd x y) x))) (fsub y (fsub (fadd x y) x))) = _
  omega
/-- The nearest real of the product, in whole numbers, where it is one. -/
theorem sgn_prod {a b : Nat} {Z : Int} {K : Nat} (e : sval double a * sval double b = Z * 2 ^ K) (h0 : Z ≠ 0) : (sgn double a ^^ sgn double b) = decide (Z < 0) := by
  have hp := pz K
  have h1 : sval double a * sval double b = if (sgn double a ^^ sgn double b) then -((val double (rung double a) * val double (rung double b) : Nat) : Int) else ((val double (rung double a) * val double (rung double b) : Nat) : Int) := (sgn_mul _ _ _ _).symm
  rw [e] at h1
  generalize val double (rung double a) * val double (rung double b) = V at *
  have hz : Z * 2 ^ K ≠ 0 := fun h => (Int.mul_eq_zero.1 h).elim h0 (by omega)
  by_cases hn : Z < 0
  · have := Int.mul_neg_of_neg_of_pos hn hp
    rw [decide_eq_true hn]
    cases hs : (sgn double a ^^ sgn double b) with
    | true => rfl
    | false => rw [hs] at h1; simp at h1; omega
  · have := Int.mul_pos (show 0 < Z by omega) hp
    rw [decide_eq_false hn]
    cases hs : (sgn double a ^^ sgn double b) with
    | false => rfl
    | true => rw [hs] at h1; simp at h1; omega
theorem vals_prod {a b : Nat} : val double (rung double a) * val double (rung double b) = (sval double a * sval double b).natAbs := by
  unfold sval
  rw [← sgn_mul]
  split <;> omega
theorem rounds_scale {s : Bool} {N D c b : Nat} (hD : 0 < D) (hc : 0 < c) (h : Rounds double s (N * c) (D * c) b) : Rounds double s N D b :=
  h.of_eq (Nat.mul_pos hD hc) hD (by ac_rfl)
theorem fmul_rounds {a b : Nat} (ha : fin double a) (hb : fin double b) : Rounds double (sgn double a ^^ sgn double b) (sval double a * sval double b).natAbs (one_ double) (fmul a b) := by
  obtain ⟨c, hc, hr⟩ := mul_fin ok_double ha hb
  have e : fmul a b = c := by show ((double.mul a b).getD _) = c; rw [hc]; rfl
  rw [e, ← vals_prod]; exact hr
theorem ffma_rounds {x y z : Nat} (hx : fin double x) (hy : fin double y) (hz : fin double z) : Rounds double (if sval double x * sval double y + sval double z * (one_ double : Nat) = 0 then (sgn double x ^^ sgn double y) && sgn double z else decide (sval double x * sval double y + sval double z * (one_ double : Nat) < 0)) (sval double x * sval double y + sval double z * (one_ double : Nat)).natAbs (one_ double) (ffma x y z) := by
  obtain ⟨c, hc, hr⟩ := fma_fin ok_double hx hy hz
  have e : ffma x y z = c := by show ((double.fma x y z).getD _) = c; rw [hc]; rfl
  rw [e]; exact hr
theorem rne_nought {D r : Nat} (hD : 0 < D) (h : Rne double 0 D r) : r = 0 := Rne.unique hD h (Rne.zero double D hD)
/-- THE PRODUCT'S ERROR IS EXACT, where the product is not too small. -/
theorem prod_exact {a b : Nat} (ha : fin double a) (hb : fin double b) (hp : fin double (fmul a b)) (hs : sval double a = 0 ∨ sval double b = 0 ∨ 81129638414606681695789005144064 ≤ (sval double (fmul a b)).natAbs) :
    fin double (ffma a b (fneg (fmul a b))) ∧ (sval double (fmul a b) + sval double (ffma a b (fneg (fmul a b)))) * (one_ double : Nat) = sval double a * sval double b := by
  obtain ⟨K, hK, hO⟩ := one_pow
  have hK1 : 1 ≤ K := by omega
  clear hK
  have lp : fmul a b < 18446744073709551616 := fmul_lt a b
  obtain ⟨f1, f2, f3⟩ := fin_fneg lp hp
  have R1 := fmul_rounds ha hb
  have R2 := ffma_rounds ha hb f1
  rw [f2] at R2
  rw [hO] at R1 R2 ⊢
  have hOi : (((2 ^ K : Nat) : Nat) : Int) = (2 : Int) ^ K := by rw [Int.natCast_pow]; rfl
  rw [hOi] at R2 ⊢
  have hk0 := pz K
  have hkn : 0 < 2 ^ K := Nat.two_pow_pos K
  obtain ⟨Z, hZ⟩ : ∃ Z : Int, sval double a * sval double b = Z * 2 ^ K ∧ Rep (Z - sval double (fmul a b)) ∧ (Z ≠ 0 → 0 < (sval double (fmul a b)).natAbs) ∧ Nr Z (sval double (fmul a b)) := by
    by_cases h0 : sval double a * sval double b = 0
    · refine ⟨0, by rw [h0]; simp, ?_⟩
      rw [h0] at R1
      have e0 : sval double (fmul a b) = 0 := by
        obtain ⟨r, hr, hb⟩ := R1.rung
        have := rne_nought hkn hr
        subst this
        have : rung double (fmul a b) = 0 := by omega
        unfold sval; rw [this, val_zero]; split <;> rfl
      rw [e0]
      exact ⟨by simpa using Rep.zero, fun h => absurd rfl h, Rep.zero, fun y _ => by omega⟩
    · have hs' : 81129638414606681695789005144064 ≤ (sval double (fmul a b)).natAbs := by
        rcases hs with h | h | h
        · exact absurd (by rw [h, Int.zero_mul]) h0
        · exact absurd (by rw [h, Int.mul_zero]) h0
        · exact h
      obtain ⟨k, ⟨m, hm⟩, a2, a3⟩ := rep_sval a
      obtain ⟨l, ⟨n, hn⟩, b2, b3⟩ := rep_sval b
      have pk := pz k
      have pl := pz l
      have m1 : m ≤ 9007199254740992 := Int.le_of_mul_le_mul_left (by rw [← hm]; omega) pk
      have m2 : -9007199254740992 ≤ m := Int.le_of_mul_le_mul_left (by rw [← hm]; omega) pk
      have n1 : n ≤ 9007199254740992 := Int.le_of_mul_le_mul_left (by rw [← hn]; omega) pl
      have n2 : -9007199254740992 ≤ n := Int.le_of_mul_le_mul_left (by rw [← hn]; omega) pl
      have eAB : sval double a * sval double b = m * n * 2 ^ (k + l) := by
        rw [hm, hn, Int.pow_add]; ac_rfl
      have hmn : (m * n).natAbs ≤ 9007199254740992 * 9007199254740992 := by
        rw [Int.natAbs_mul]; exact Nat.mul_le_mul (by omega) (by omega)
      obtain ⟨V, hV⟩ : ∃ V, V = m * n := ⟨_, rfl⟩
      rw [← hV] at eAB hmn
      by_cases hkl : k + l < K
      · exfalso
        obtain ⟨r, hr, hb⟩ := R1.rung
        obtain ⟨q, hq, _⟩ := pw 105 (by omega)
        have hle : (sval double a * sval double b).natAbs ≤ val double q * 2 ^ K := by
          rw [eAB, hq, Int.natAbs_mul, Int.natAbs_pow]
          obtain ⟨K', rfl⟩ : ∃ K', K = K' + 1 := ⟨K - 1, by omega⟩
          have e1 : 2 ^ 105 * 2 ^ (K' + 1) = 2 ^ 106 * 2 ^ K' := by rw [Nat.pow_succ 2 K']; omega
          rw [e1]
          exact Nat.mul_le_mul (by omega) (Nat.pow_le_pow_right (by decide) (by omega))
        have h1 := rne_le hkn hr hle
        have h2 : rung double (fmul a b) ≤ q := by omega
        have h3 := val_le (f := double) h2
        rw [hq] at h3
        unfold sval at hs'
        split at hs' <;> omega
      · obtain ⟨j, hj⟩ : ∃ j, k + l = j + K := ⟨k + l - K, by omega⟩
        have pj := pz j
        have eZ : sval double a * sval double b = V * 2 ^ j * 2 ^ K := by rw [eAB, hj, Int.pow_add, Int.mul_assoc]
        have hZ0 : V * 2 ^ j ≠ 0 := fun h => h0 (by rw [eZ, h, Int.zero_mul])
        have hd : (2:Int) ^ j ∣ V * 2 ^ j := ⟨V, by rw [Int.mul_comm]⟩
        have nz : Nr (V * 2 ^ j) (sval double (fmul a b)) := by
          refine rounds_near' ?_ (fun _ => sgn_prod eZ hZ0) hp
          refine rounds_scale (c := 2 ^ K) (by decide) hkn ?_
          rw [Nat.one_mul]
          rw [eZ, Int.natAbs_mul, Int.natAbs_pow] at R1
          exact R1
        refine ⟨V * 2 ^ j, eZ, ?_, fun _ => by omega, nz⟩
        have hb1 : V * 2 ^ j ≤ 81129638414606681695789005144064 * 2 ^ j := Int.mul_le_mul_of_nonneg_right (by omega) (by omega)
        have hb2 : -81129638414606681695789005144064 * 2 ^ j ≤ V * 2 ^ j := Int.mul_le_mul_of_nonneg_right (by omega) (by omega)
        have e52 : (2:Int) ^ (j + 52) = 4503599627370496 * 2 ^ j := by rw [Int.pow_add, Int.mul_comm]; rfl
        have hnb := near_by nz (l := j + 52) (by rw [e52]; omega) (by rw [e52]; omega)
        rw [e52] at hnb
        exact ⟨j, Int.dvd_sub hd (nz.dvd hd), by omega, by omega⟩
  obtain ⟨e1, e2, e3, e4⟩ := hZ
  have d1 := e4.2 _ (rep_two (rep_sval (fmul a b)))
  have d2 := e4.2 0 Rep.zero
  have eS : sval double a * sval double b + -sval double (fmul a b) * 2 ^ K = (Z - sval double (fmul a b)) * 2 ^ K := by rw [e1, Int.sub_mul, Int.neg_mul, Int.sub_eq_add_neg]
  rw [eS] at R2
  have hval : (sval double (fmul a b)).natAbs = val double (rung double (fmul a b)) := by unfold sval; split <;> omega
  obtain ⟨g1, g2⟩ := rounds_near (z := Z - sval double (fmul a b)) (b := ffma a b (fneg (fmul a b))) (q := rung double (fmul a b)) (rounds_scale (c := 2 ^ K) (by decide) hkn (by
    rw [Int.natAbs_mul, Int.natAbs_pow] at R2
    rw [Nat.one_mul]; exact R2)) (fun h => by
      have h1 : (Z - sval double (fmul a b)) * 2 ^ K ≠ 0 := fun h2 => (Int.mul_eq_zero.1 h2).elim h (by omega)
      rw [if_neg h1]
      exact decide_eq_decide.2 ⟨fun h2 => by
        refine Classical.byContradiction fun h3 => ?_
        have := Int.mul_nonneg (show 0 ≤ Z - sval double (fmul a b) by omega) (Int.le_of_lt hk0)
        omega, fun h2 => Int.mul_neg_of_neg_of_pos h2 hk0⟩) hp (by rw [← hval]; by_cases hz0 : Z = 0
                                                                   · subst hz0; omega
                                                                   · have := e3 hz0; omega)
  refine ⟨g1, ?_⟩
  rw [g2.exact e2, e1, show sval double (fmul a b) + (Z - sval double (fmul a b)) = Z by omega]
/-- What the document tells of the error, by whole numbers: z 2^-2200, rounded; nought where it is 0. -/
def RoundsE (z : Int) (nought y : Nat) : Prop := (z = 0 → y = nought) ∧ (z ≠ 0 → Rounds double (decide (z < 0)) z.natAbs (2 ^ 1126) y)
theorem ffma_roundsE {a b y : Nat} (ha : fin double a) (hb : fin double b) (hp : fin double (fmul a b)) {T K : Nat} (hT : T = 52) (hK : K = 1126)
    (h : (sval double a * sval double b * 2 ^ T - sval double (fmul a b) * 2 ^ K = 0 → y = 0) ∧ (sval double a * sval double b * 2 ^ T - sval double (fmul a b) * 2 ^ K ≠ 0 → Rounds double (decide (sval double a * sval double b * 2 ^ T - sval double (fmul a b) * 2 ^ K < 0)) (sval double a * sval double b * 2 ^ T - sval double (fmul a b) * 2 ^ K).natAbs (2 ^ K) y)) :
    y = ffma a b (fneg (fmul a b)) := by
  obtain ⟨O, hO', hO⟩ := one_pow
  have lp : fmul a b < 18446744073709551616 := fmul_lt a b
  obtain ⟨f1, f2, f3⟩ := fin_fneg lp hp
  have R2 := ffma_rounds ha hb f1
  have R1 := fmul_rounds ha hb
  rw [f2, hO] at R2
  have hOi : (((2 ^ O : Nat) : Nat) : Int) = (2 : Int) ^ O := by rw [Int.natCast_pow]; rfl
  rw [hOi] at R2
  have eKT : K = O + T := by omega
  clear hT hK hO'
  have pT := pz T
  have eS : sval double a * sval double b * 2 ^ T - sval double (fmul a b) * 2 ^ K = (sval double a * sval double b + -sval double (fmul a b) * 2 ^ O) * 2 ^ T := by
    rw [eKT, Int.pow_add, Int.add_mul, Int.neg_mul, Int.neg_mul, Int.sub_eq_add_neg, Int.mul_assoc (sval double (fmul a b))]
  rw [eS] at h
  generalize sval double a * sval double b + -sval double (fmul a b) * 2 ^ O = S at *
  by_cases h0 : S = 0
  · rw [h.1 (by rw [h0, Int.zero_mul])]
    rw [if_pos h0, h0] at R2
    have sf : sgn double (fneg (fmul a b)) = !sgn double (fmul a b) := by
      have hn : isNaN double (fmul a b) = false := by unfold isNaN fin at *; simp; omega
      rw [fneg_of_not hn]; exact sgn_flip (f := double) lp
    rw [sf, R1.sgn] at R2
    have e1 : ((sgn double a ^^ sgn double b) && !(sgn double a ^^ sgn double b)) = false := by cases (sgn double a ^^ sgn double b) <;> rfl
    rw [e1] at R2
    obtain ⟨r, hr, hb⟩ := R2
    have := rne_nought (Nat.two_pow_pos O) hr
    subst this
    rw [hb]; decide
  · have h1 : S * 2 ^ T ≠ 0 := fun h2 => (Int.mul_eq_zero.1 h2).elim h0 (by omega)
    have h2 := h.2 h1
    rw [if_neg h0] at R2
    have e2 : (S * 2 ^ T < 0) = (S < 0) := propext ⟨fun h2 => by
        refine Classical.byContradiction fun h3 => ?_
        have := Int.mul_nonneg (show 0 ≤ S by omega) (Int.le_of_lt pT)
        omega, fun h2 => Int.mul_neg_of_neg_of_pos h2 pT⟩
    simp only [e2] at h2
    refine Rounds.congr (Nat.two_pow_pos K) (Nat.two_pow_pos O) ?_ h2 R2
    rw [Int.natAbs_mul, Int.natAbs_pow, eKT, Nat.mul_assoc, show Int.natAbs 2 = 2 from rfl, ← Nat.pow_add, Nat.add_comm O]
end Fl
