/- Layer 10, the plain law of SolveScales, second part: the elimination's bounds; Ldexp is exact; both solutions. -/
import Derived.Test.YtglmmidhkpomgaaScC
import Derived.Test.YtglmmidhkpomgaaLdA
import Derived.Test.YtglmmidhkpomgaaT19
namespace Go.Proofs.Ytglmmidhkpomgaa
open Go.RowKit Fl Ieee
set_option maxRecDepth 20000
theorem val_lo {x m : Nat} (h : 2 ^ (52 + m) ≤ val double x) : 4503599627370496 * (m + 1) ≤ x := by
  refine val_le_iff (f := double).1 ?_
  have e := val_mul_add (f := double) (q := m) (m := 0) (by decide)
  rw [binade64] at e
  rw [show 4503599627370496 * (m + 1) = 4503599627370496 * (m + 1) + 0 from rfl, e, Nat.add_zero]
  rw [show (4503599627370496 : Nat) = 2 ^ 52 by decide, ← Nat.pow_add]; exact h
theorem val_hi {x m : Nat} (h : val double x ≤ 2 ^ (52 + m)) : x ≤ 4503599627370496 * (m + 1) := by
  refine val_le_iff (f := double).1 ?_
  have e := val_mul_add (f := double) (q := m) (m := 0) (by decide)
  rw [binade64] at e
  rw [show 4503599627370496 * (m + 1) = 4503599627370496 * (m + 1) + 0 from rfl, e, Nat.add_zero]
  rw [show (4503599627370496 : Nat) = 2 ^ 52 by decide, ← Nat.pow_add]; exact h
/-- Ldexp by at most 100 of what lies well inside is exact. -/
theorem ldW_exact {x lo hi : Nat} (lx : x < 18446744073709551616) (h : Bd x lo hi) (hlo : 154 ≤ lo) (hhi : hi ≤ 1900) (j : Int) (h1 : -100 ≤ j) (h2 : j ≤ 100) :
    (rung double x ≠ 0 → j + expo x ≤ 2046) ∧ ldW x j < 18446744073709551616 ∧ fin double (ldW x j) ∧ (0 ≤ j → Sc j.toNat x (ldW x j)) ∧ (j ≤ 0 → Sc (-j).toNat (ldW x j) x) := by
  by_cases h0 : rung double x = 0
  · have e : ldW x j = x := by unfold ldW; rw [if_pos h0]
    have z := zero_rung.2 h0
    rw [e]
    exact ⟨fun h => absurd h0 h, lx, h.1, fun _ => ⟨h.1, h.1, by rw [z]; simp⟩, fun _ => ⟨h.1, h.1, by rw [z]; simp⟩⟩
  · have hv : 2 ^ lo ≤ val double (rung double x) := by
      rcases h.2.1 with e | e
      · exact absurd (zero_rung.1 e) h0
      · rw [abs_sval] at e; exact e
    have hv2 : val double (rung double x) ≤ 2 ^ hi := by have := h.2.2; rw [abs_sval] at this; exact this
    have r1 := val_lo (x := rung double x) (m := 102) (Nat.le_trans (Nat.pow_le_pow_right (by omega) (by omega)) hv)
    obtain ⟨m8, hm8⟩ : ∃ m : Nat, m = 1848 := ⟨_, rfl⟩
    have r2 := val_hi (x := rung double x) (m := m8) (Nat.le_trans hv2 (Nat.pow_le_pow_right (by omega) (by omega)))
    have hN : nrmW x = x := by unfold nrmW; rw [if_neg (by omega)]
    have hE : expo x = (rung double x / 4503599627370496 : Nat) := by unfold expo nrmE fld; rw [if_neg (by omega), hN]; omega
    have hi' : double.infRung = 9218868437227405312 := by decide
    obtain ⟨k, hk⟩ : ∃ k : Nat, (k : Int) = j + expo x := ⟨(j + expo x).toNat, by omega⟩
    have hr : ldW x j = double.word (sgn double x) (k * 4503599627370496 + rung double x % 4503599627370496) := by
      unfold ldW ldN
      rw [if_neg h0, ← hk, if_neg (by omega), if_neg (by omega), hN]
      unfold frc
      rw [hN, Int.toNat_natCast]
    obtain ⟨r', hr'⟩ : ∃ r', r' = k * 4503599627370496 + rung double x % 4503599627370496 := ⟨_, rfl⟩
    rw [← hr'] at hr
    have hr3 : r' < 9218868437227405312 := by omega
    have hx := word_split (f := double) (x := x) lx
    have sx : sval double x = if sgn double x then -(val double (rung double x) : Int) else (val double (rung double x) : Int) := rfl
    have sy : sval double (ldW x j) = if sgn double x then -(val double r' : Int) else (val double r' : Int) := by rw [hr]; exact sval_word _ (by omega)
    have fy : fin double (ldW x j) := by rw [hr]; exact fin_word _ (by omega)
    refine ⟨fun _ => by omega, by rw [hr]; exact word_lt (f := double) _ (by rw [sw64]; omega), fy, fun hj => ⟨h.1, fy, ?_⟩, fun hj => ⟨fy, h.1, ?_⟩⟩
    · have e := val_shift (r := rung double x) j.toNat (by rw [binade64]; omega)
      rw [binade64, show rung double x + j.toNat * 4503599627370496 = r' by omega] at e
      rw [sy, sx, e]
      cases sgn double x <;> simp [Int.natCast_mul, Int.neg_mul]
    · have e := val_shift (r := r') (-j).toNat (by rw [binade64]; omega)
      rw [binade64, show r' + (-j).toNat * 4503599627370496 = rung double x by omega] at e
      rw [sy, sx, e]
      cases sgn double x <;> simp [Int.natCast_mul, Int.neg_mul]
/-- The elimination of at most two rows of whole numbers. -/
theorem bndS {n : Nat} {l : List C} (hn : n ≤ 2) (hl : l.length = n * n) (hw : ∀ z ∈ l, CP 0 1074 1083 z z) (hF : (ofF n n l).1 = 0) : BndS n (lowE (ofS n l)) (uppE (ofS n l)) := by
  obtain ⟨hfin, -, hrun⟩ := of_fin (by omega) hl hF
  have hdg := run_diag (n := n) (S := S0 l n) (matE_fin hl hfin) n (Nat.le_refl _) hrun
  have hS : ofS n l = (elRun n (S0 l n) n).2 := by unfold ofS; simp only [Int.toNat_natCast]
  have hE : ∀ i j, i < n → j < n → CP 0 1074 1083 ((S0 l n).E i j) ((S0 l n).E i j) := fun i j hi hj => hw _ (List.mem_of_getElem? (at_ok hl hi hj))
  have unz : ∀ r, r < n → pZero (uppE (ofS n l) r r) = false := fun r hr => by
    unfold uppE; rw [if_neg (Nat.lt_irrefl _), hS]; exact hdg r hr
  match n, hn with
  | 0, _ => exact ⟨fun j h => by omega, fun h => by omega, fun h => by omega, unz⟩
  | 1, _ =>
    have e0 : elErr 1 0 (elRun 1 (S0 l 1) 0).2 = 0 := by
      by_cases e : elErr 1 0 (elRun 1 (S0 l 1) 0).2 = 0
      · exact e
      · rw [elRun_bad rfl e] at hrun; exact absurd hrun e
    have e1 : ofS ((1 : Nat) : Int) l = elStep 1 0 (S0 l 1) := by rw [hS, elRun_ok (k := 0) rfl e0]; rfl
    refine ⟨fun j hj => ?_, fun h => by omega, fun h => by omega, unz⟩
    have : j = 0 := by omega
    subst this
    unfold uppE
    rw [if_neg (Nat.lt_irrefl _), e1]
    show CP 0 1074 1083 (elE (elSwap 0 (elPiv 1 0 (S0 l 1)) (S0 l 1)).E 0 0 0) (elE (elSwap 0 (elPiv 1 0 (S0 l 1)) (S0 l 1)).E 0 0 0)
    rw [elE_old (Nat.le_refl _)]
    exact hE _ _ (xch_lt (by omega) (elPiv_lt (S0 l 1) (k := 0) (n := 1) (by omega)).1 (by omega)) (by omega)
  | 2, _ =>
    have h1 : (elRun 2 (S0 l 2) 1).1.1 = 0 := by
      by_cases e : (elRun 2 (S0 l 2) 1).1.1 = 0
      · exact e
      · rw [show elRun 2 (S0 l 2) 2 = elRun 2 (S0 l 2) (1 + 1) from rfl, elRun_stays e 1] at hrun; exact absurd hrun e
    have e0 : elErr 2 0 (elRun 2 (S0 l 2) 0).2 = 0 := by
      by_cases e : elErr 2 0 (elRun 2 (S0 l 2) 0).2 = 0
      · exact e
      · rw [elRun_bad (k := 0) rfl e] at h1; exact absurd h1 e
    have e1 : elErr 2 1 (elRun 2 (S0 l 2) 1).2 = 0 := by
      by_cases e : elErr 2 1 (elRun 2 (S0 l 2) 1).2 = 0
      · exact e
      · rw [elRun_bad (k := 1) h1 e] at hrun; exact absurd hrun e
    obtain ⟨S1, hS1⟩ : ∃ S1, S1 = elStep 2 0 (S0 l 2) := ⟨_, rfl⟩
    have q1 : (elRun 2 (S0 l 2) 1).2 = S1 := by rw [elRun_ok (k := 0) rfl e0, hS1]; rfl
    have q2 : ofS (2 : Nat) l = elStep 2 1 S1 := by rw [hS, elRun_ok (k := 1) h1 e1, q1]
    have hp1 : elPiv 2 1 S1 = 1 := by have := elPiv_lt S1 (k := 1) (n := 2) (by omega); omega
    obtain ⟨p0, hp0⟩ : ∃ p, p = elPiv 2 0 (S0 l 2) := ⟨_, rfl⟩
    have hp2 : p0 < 2 := by rw [hp0]; exact (elPiv_lt (S0 l 2) (k := 0) (n := 2) (by omega)).1
    obtain ⟨Q, hQ⟩ : ∃ Q : Mat, Q = fun i => (S0 l 2).E (xch 0 p0 i) := ⟨_, rfl⟩
    have hQc : ∀ i j, i < 2 → j < 2 → CP 0 1074 1083 (Q i j) (Q i j) := fun i j hi hj => by rw [hQ]; exact hE _ _ (xch_lt (by omega) hp2 hi) hj
    have f1 : S1.E = elE Q 0 := by rw [hS1, hQ, hp0]; rfl
    have f2 : ∀ i j, i < 2 → (ofS (2 : Nat) l).E i j = elE Q 0 i j := fun i j hi => by
      rw [q2]
      show elE (elSwap 1 (elPiv 2 1 S1) S1).E 1 i j = _
      rw [elE_old (by omega), hp1]
      show S1.E (xch 1 1 i) j = _
      rw [xch_self, f1]
    have g0 : ∀ j, (ofS (2 : Nat) l).E 0 j = Q 0 j := fun j => by rw [f2 0 j (by omega), elE_old (Nat.le_refl _)]
    have g1 : (ofS (2 : Nat) l).E 1 0 = pDiv (Q 1 0) (Q 0 0) := by rw [f2 1 0 (by omega), elE_fac (by omega)]; rfl
    have g2 : (ofS (2 : Nat) l).E 1 1 = pSub (Q 1 1) (pMul (pDiv (Q 1 0) (Q 0 0)) (Q 0 1)) := by rw [f2 1 1 (by omega), elE_new (by omega) (by omega)]; rfl
    have hz : pZero (Q 0 0) = false := by
      have h := unz 0 (by omega)
      unfold uppE at h
      rw [if_neg (Nat.lt_irrefl _), g0] at h
      exact h
    have c1 := (hQc 1 0 (by omega) (by omega)).div (hQc 0 0 (by omega) (by omega)) hz (l := 1003) (h' := 1145) (by omega) (by omega) (by omega) (by omega) (by omega) (by omega) (by omega) (by omega) (by omega) (by omega) (by omega) (by omega)
    have c2 := c1.mul (hQc 0 1 (by omega) (by omega)) (l := 951) (h' := 1155) (by omega) (by omega) (by omega) (by omega) (by omega) (by omega)
    have c3 := (hQc 1 1 (by omega) (by omega)).sub c2 (l := 899) (h' := 1156) (by omega) (by omega) (by omega) (by omega) (by omega) (by omega) (by omega)
    refine ⟨fun j hj => ?_, fun _ => ?_, fun _ => ?_, unz⟩
    · unfold uppE; rw [if_neg (by omega), g0]; exact hQc 0 j (by omega) hj
    · unfold uppE; rw [if_neg (by omega), g2]; exact c3
    · unfold lowE; rw [if_neg (by omega), if_pos (by omega), g1]; exact c1
  | n + 3, hn => omega
/-- Whole numbers, and a right side so many times as great. -/
def ldC (z : C) (by_ : Int) : C := (ldW z.1 by_, ldW z.2 by_)
theorem ld_pair {z : C} (h : CP 0 1074 1083 z z) (j : Int) (h1 : -100 ≤ j) (h2 : j ≤ 100) :
    (0 ≤ j → CP j.toNat 1074 1083 z (ldC z j)) ∧ (j ≤ 0 → CP (-j).toNat (1074 - (-j).toNat) (1074 - (-j).toNat + 9) (ldC z j) z) := by
  have key : ∀ {x : Nat}, Pr 0 1074 1083 x x → (0 ≤ j → Pr j.toNat 1074 1083 x (ldW x j)) ∧ (j ≤ 0 → Pr (-j).toNat (1074 - (-j).toNat) (1074 - (-j).toNat + 9) (ldW x j) x) := fun {x} hx => by
    obtain ⟨-, l1, f1, s1, s2⟩ := ldW_exact hx.1 hx.2.2.2 (by omega) (by omega) j h1 h2
    refine ⟨fun hj => ⟨hx.1, l1, s1 hj, hx.2.2.2⟩, fun hj => ⟨l1, hx.1, s2 hj, f1, ?_, ?_⟩⟩
    · have s := s2 hj
      rcases hx.2.2.2.2.1 with e | e
      · exact .inl (s.zero.2 e)
      · right
        rw [s.abs] at e
        refine Nat.le_of_mul_le_mul_right (c := 2 ^ (-j).toNat) ?_ (Nat.two_pow_pos _)
        rw [← Nat.pow_add, show 1074 - (-j).toNat + (-j).toNat = 1074 by omega]; exact e
    · have s := s2 hj
      have e := hx.2.2.2.2.2
      rw [s.abs] at e
      refine Nat.le_of_mul_le_mul_right (c := 2 ^ (-j).toNat) ?_ (Nat.two_pow_pos _)
      rw [← Nat.pow_add, show 1074 - (-j).toNat + 9 + (-j).toNat = 1083 by omega]; exact e
  obtain ⟨a1, a2⟩ := key h.re
  obtain ⟨b1, b2⟩ := key h.im
  exact ⟨fun hj => ⟨a1 hj, b1 hj⟩, fun hj => ⟨a2 hj, b2 hj⟩⟩
/-- Both right sides: all is finite, and the unknowns are just so many times as great. -/
theorem scales {n : Nat} {l bl fl : List C} (hn : n ≤ 2) (hl : l.length = n * n) (hw : ∀ z ∈ l, CP 0 1074 1083 z z) (hF : (ofF n n l).1 = 0) (hb : bl.length = n) (hbw : ∀ z ∈ bl, CP 0 1074 1083 z z) (j : Int) (h1 : -100 ≤ j) (h2 : j ≤ 100)
    (hf : fl = bl.map fun z => ldC z j) :
    solOk n (ofS n l) bl = true ∧ solOk n (ofS n l) fl = true ∧ ∀ r, r < n → ∃ s t : C, s = solX (lowE (ofS n l)) (uppE (ofS n l)) (ofS n l).o (bOf bl) n r ∧ t = solX (lowE (ofS n l)) (uppE (ofS n l)) (ofS n l).o (bOf fl) n r ∧
      ltC s ∧ ltC t ∧ pFinite s = true ∧ pFinite t = true ∧ (rung double s.1 ≠ 0 → j + expo s.1 ≤ 2046) ∧ (rung double s.2 ≠ 0 → j + expo s.2 ≤ 2046) ∧ feq .f64 t.1 (ldW s.1 j) = true ∧ feq .f64 t.2 (ldW s.2 j) = true := by
  have hB := bndS hn hl hw hF
  have hperm : Perm n (ofS n l).o := of_perm
  have hbo : ∀ r, r < n → CP 0 1074 1083 (bOf bl r) (bOf bl r) ∧ bOf fl r = ldC (bOf bl r) j := fun r hr => by
    obtain ⟨z, hz⟩ := some_of_lt (l := bl) (k := r) (by omega)
    have e1 : bOf bl r = z := by unfold bOf; rw [List.getD_eq_getElem?_getD, hz]; rfl
    have e2 : bOf fl r = ldC z j := by unfold bOf; rw [hf, List.getD_eq_getElem?_getD, List.getElem?_map, hz]; rfl
    rw [e1, e2]; exact ⟨hbw z (List.mem_of_getElem? hz), rfl⟩
  have fe : ∀ {x y : Nat} {m : Nat}, Sc m x y → ∀ {w : Nat}, Sc m x w → feq .f64 y w = true := fun h1 w h2 => feq_of_sval h1.2.1 h2.2.1 (by rw [h1.2.2, h2.2.2])
  have fe2 : ∀ {x y : Nat} {m : Nat}, Sc m y x → ∀ {w : Nat}, Sc m w x → feq .f64 y w = true := fun {x y m} h1 w h2 => feq_of_sval h1.1 h2.1 (by
    have e := h1.2.2.symm.trans h2.2.2
    have hp : ((2 ^ m : Nat) : Int) ≠ 0 := by have := Nat.two_pow_pos m; omega
    exact Int.eq_of_mul_eq_mul_right hp e)
  rcases Int.le_total 0 j with hj | hj
  · obtain ⟨q1, q2, q3⟩ := hB.sol hn (i := j.toNat) (B := 1074) (b := bOf bl) (b' := bOf fl) (o := (ofS n l).o) (fun r hr => by
      obtain ⟨a, e⟩ := hbo _ (hperm.1 r hr)
      rw [e]; exact (ld_pair a j h1 h2).1 hj) (by omega) (by omega) (by omega)
    refine ⟨q2, q3, fun r hr => ⟨_, _, rfl, rfl, (q1 r hr).ltx, (q1 r hr).lty, (q1 r hr).finx, (q1 r hr).finy, ?_, ?_, ?_, ?_⟩⟩
    · exact (ldW_exact (q1 r hr).re.1 (q1 r hr).re.2.2.2 (by omega) (by omega) j h1 h2).1
    · exact (ldW_exact (q1 r hr).im.1 (q1 r hr).im.2.2.2 (by omega) (by omega) j h1 h2).1
    · exact fe (q1 r hr).re.2.2.1 ((ldW_exact (q1 r hr).re.1 (q1 r hr).re.2.2.2 (by omega) (by omega) j h1 h2).2.2.2.1 hj)
    · exact fe (q1 r hr).im.2.2.1 ((ldW_exact (q1 r hr).im.1 (q1 r hr).im.2.2.2 (by omega) (by omega) j h1 h2).2.2.2.1 hj)
  · obtain ⟨q1, q2, q3⟩ := hB.sol hn (i := (-j).toNat) (B := 1074 - (-j).toNat) (b := bOf fl) (b' := bOf bl) (o := (ofS n l).o) (fun r hr => by
      obtain ⟨a, e⟩ := hbo _ (hperm.1 r hr)
      rw [e]; exact (ld_pair a j h1 h2).2 hj) (by omega) (by omega) (by omega)
    have bre : ∀ r, r < n → Bd (solX (lowE (ofS n l)) (uppE (ofS n l)) (ofS n l).o (bOf bl) n r).1 232 1714 := fun r hr => ((q1 r hr).re.bdy).mono (by omega) (by omega)
    have bim : ∀ r, r < n → Bd (solX (lowE (ofS n l)) (uppE (ofS n l)) (ofS n l).o (bOf bl) n r).2 232 1714 := fun r hr => ((q1 r hr).im.bdy).mono (by omega) (by omega)
    refine ⟨q3, q2, fun r hr => ⟨_, _, rfl, rfl, (q1 r hr).lty, (q1 r hr).ltx, (q1 r hr).finy, (q1 r hr).finx, ?_, ?_, ?_, ?_⟩⟩
    · exact (ldW_exact (q1 r hr).re.2.1 (bre r hr) (by omega) (by omega) j h1 h2).1
    · exact (ldW_exact (q1 r hr).im.2.1 (bim r hr) (by omega) (by omega) j h1 h2).1
    · exact fe2 (q1 r hr).re.2.2.1 ((ldW_exact (q1 r hr).re.2.1 (bre r hr) (by omega) (by omega) j h1 h2).2.2.2.2 hj)
    · exact fe2 (q1 r hr).im.2.2.1 ((ldW_exact (q1 r hr).im.2.1 (bim r hr) (by omega) (by omega) j h1 h2).2.2.2.2 hj)
end Go.Proofs.Ytglmmidhkpomgaa
