/- Layer 12, the plain law of InverseScaled: the eliminations, the unknowns. -/
import Derived.Test.YtajdfbjjgjpicaaScP
import Derived.Test.YtajdfbjjgjpicaaSV0
namespace Fl
open Ieee Go
def aK : Nat → Nat
  | 0 => 0
  | 1 => 72
  | _ => 237
def bK : Nat → Nat
  | 0 => 20
  | 1 => 41
  | _ => 155
/-- k columns are eliminated in both. -/
structure RelS (n k i B : Nat) (S S' : El) : Prop where
  fac : ∀ r j, r < n → j < k → j < r → Rp 0 961 1187 (S.E r j) (S'.E r j)
  ent : ∀ r j, r < n → j < n → ¬ (j < k ∧ j < r) → Rp i (B - aK (min r k)) (B + bK (min r k)) (S.E r j) (S'.E r j)
  o : S'.o = S.o
  s : S'.s = S.s
theorem RelS.fin {n k i B : Nat} {S S' : El} (h : RelS n k i B S S') : finTo S.E n ∧ finTo S'.E n := by
  refine ⟨fun r j hr hj => ?_, fun r j hr hj => ?_⟩ <;> by_cases c : j < k ∧ j < r
  · exact (h.fac r j hr c.1 c.2).finx
  · exact (h.ent r j hr hj c).finx
  · exact (h.fac r j hr c.1 c.2).finy
  · exact (h.ent r j hr hj c).finy
theorem aK_le (k : Nat) : aK k ≤ 237 := by unfold aK; split <;> omega
theorem bK_le (k : Nat) : bK k ≤ 155 := by unfold bK; split <;> omega
theorem RelS.step {n k i B : Nat} {S S' : El} (h : RelS n k i B S S') (hn : n ≤ 3) (hk : k < n) (hB : 1010 ≤ B) (hB2 : B ≤ 1074) (hi : B + i ≤ 1138) :
    elErr n k S' = elErr n k S ∧ (elErr n k S = 0 → RelS n (k + 1) i B (elStep n k S) (elStep n k S')) := by
  obtain ⟨fS, fS'⟩ := h.fin
  have hcol : ∀ r, k ≤ r → r < n → Rp i (B - aK k) (B + bK k) (S.E r k) (S'.E r k) := fun r h1 h2 => by
    have := h.ent r k h2 hk (by omega)
    rwa [show min r k = k by omega] at this
  have hnil : elNil n k S' = elNil n k S := nilUp_zero fun r a b => (hcol r a (by omega)).zero
  have hpiv : elPiv n k S' = elPiv n k S := by
    unfold elPiv
    have : ∀ m, k + m ≤ n → pivUp (fun r => S'.E r k) k m = pivUp (fun r => S.E r k) k m := by
      intro m
      induction m with
      | zero => intro _; rfl
      | succ m ih =>
        intro hm
        have ih := ih (by omega)
        have hb := pivUp_bounds (fun r => S.E r k) k m
        unfold pivUp
        rw [ih]
        have := (hcol (pivUp (fun r => S.E r k) k m) hb.1 (by omega)).flt_size (hcol (k + m) (by omega) (by omega))
        rw [this]
    exact this (n - k) (by omega)
  have hp := elPiv_lt S hk
  by_cases hN : elNil n k S = true
  · have e1 : elErr n k S = 7 := by unfold elErr; rw [if_pos hN]
    have e2 : elErr n k S' = 7 := by unfold elErr; rw [if_pos (hnil.trans hN)]
    exact ⟨e2.trans e1.symm, fun e => by rw [e1] at e; cases e⟩
  · have hN := Bool.eq_false_iff.2 hN
    obtain ⟨T, hT⟩ : ∃ T, T = elSwap k (elPiv n k S) S := ⟨_, rfl⟩
    obtain ⟨T', hT'⟩ : ∃ T', T' = elSwap k (elPiv n k S) S' := ⟨_, rfl⟩
    have hx : ∀ r, k ≤ r → r < n → k ≤ xch k (elPiv n k S) r ∧ xch k (elPiv n k S) r < n := fun r h1 h2 => by
      refine ⟨?_, xch_lt hk hp.1 h2⟩
      unfold xch; split
      · exact hp.2
      · split <;> omega
    have hxo : ∀ r, r < k → xch k (elPiv n k S) r = r := fun r h1 => xch_ne (by omega) (by omega)
    have hR : RelS n k i B T T' := by
      rw [hT, hT']
      refine ⟨fun r j hr hj hjr => ?_, fun r j hr hj c => ?_, ?_, ?_⟩
      · show Rp 0 961 1187 (S.E (xch k (elPiv n k S) r) j) (S'.E (xch k (elPiv n k S) r) j)
        rcases Nat.lt_or_ge r k with h1 | h1
        · rw [hxo r h1]; exact h.fac r j hr hj hjr
        · have := hx r h1 hr
          exact h.fac _ j this.2 hj (by omega)
      · show Rp i _ _ (S.E (xch k (elPiv n k S) r) j) (S'.E (xch k (elPiv n k S) r) j)
        rcases Nat.lt_or_ge r k with h1 | h1
        · rw [hxo r h1]; exact h.ent r j hr hj c
        · have := hx r h1 hr
          have h2 := h.ent _ j this.2 hj (by omega)
          rw [show min (xch k (elPiv n k S) r) k = min r k by omega] at h2
          exact h2
      · show (fun r => S'.o _) = fun r => S.o _; rw [h.o]
      · show (if _ then S'.s else !S'.s) = if _ then S.s else !S.s; rw [h.s]
    have hp0 : pZero (T.E k k) = false := by rw [hT]; exact (piv_at hk fS hN).2
    have hpk : Rp i (B - aK k) (B + bK k) (T.E k k) (T'.E k k) := by
      have := hR.ent k k hk hk (by omega)
      rwa [show min k k = k by omega] at this
    have hfac : ∀ r, k < r → r < n → Rp 0 (1074 - (aK k + bK k)) (1074 + (aK k + bK k)) (elF T.E k r) (elF T'.E k r) := fun r h1 h2 => by
      have hx := hR.ent r k h2 hk (by omega)
      rw [show min r k = k by omega] at hx
      have := aK_le k; have := bK_le k
      exact hx.divF hpk hp0 (by omega) (by omega) (by omega) (by omega)
    have hnew : RelS n (k + 1) i B (elNext k T) (elNext k T') := by
      refine ⟨fun r j hr hj hjr => ?_, fun r j hr hj c => ?_, hR.o, hR.s⟩
      · show Rp 0 961 1187 (elE T.E k r j) (elE T'.E k r j)
        by_cases e : j = k
        · subst e
          rw [elE_fac hjr, elE_fac hjr]
          have hk2 : j = 0 ∨ j = 1 := by omega
          have hv : aK j + bK j ≤ 113 := by rcases hk2 with rfl | rfl <;> decide
          exact (hfac r hjr hr).mono (by omega) (by omega)
        · rw [elE_left (by omega), elE_left (by omega)]; exact hR.fac r j hr (by omega) hjr
      · show Rp i _ _ (elE T.E k r j) (elE T'.E k r j)
        rcases Nat.lt_or_ge k r with h1 | h1
        · have hj2 : k < j := by omega
          rw [elE_new h1 hj2, elE_new h1 hj2]
          have hx := hR.ent r j hr hj (by omega)
          have hy := hR.ent k j hk hj (by omega)
          rw [show min r k = k by omega] at hx
          rw [show min k k = k by omega] at hy
          rw [show min r (k + 1) = k + 1 by omega]
          have hf := hfac r h1 hr
          have hk2 : k = 0 ∨ k = 1 := by omega
          rcases hk2 with rfl | rfl
          · have hm := hf.mul hy (l := B - 20) (h' := B + 40) (by simp only [aK, bK] <;> omega) (by simp only [aK, bK] <;> omega) (by omega) (by omega) (by omega)
            exact hx.sub hm (by simp only [aK] <;> omega) (by simp only [aK] <;> omega) (by simp only [aK] <;> omega) (by simp only [bK] <;> omega) (by simp only [bK] <;> omega) (by simp only [bK] <;> omega) (by simp only [aK] <;> omega)
          · have hm := hf.mul hy (l := B - 185) (h' := B + 154) (by simp only [aK, bK] <;> omega) (by simp only [aK, bK] <;> omega) (by omega) (by omega) (by omega)
            exact hx.sub hm (by simp only [aK] <;> omega) (by simp only [aK] <;> omega) (by simp only [aK] <;> omega) (by simp only [bK] <;> omega) (by simp only [bK] <;> omega) (by simp only [bK] <;> omega) (by simp only [aK] <;> omega)
        · rw [elE_old h1, elE_old h1]
          have := hR.ent r j hr hj (by omega)
          rw [show min r k = min r (k + 1) by omega] at this
          exact this
    have eS : elStep n k S = elNext k T := by rw [hT]; rfl
    have eS' : elStep n k S' = elNext k T' := by rw [hT']; show elNext k (elSwap k (elPiv n k S') S') = _; rw [hpiv]
    obtain ⟨g1, g2⟩ := hnew.fin
    have e1 : elErr n k S = 0 := by
      unfold elErr
      rw [if_neg (by rw [hN]; exact Bool.false_ne_true), ← hT, if_pos]
      rw [fineTo_all hk]
      exact fun r j _ _ _ d => g1 r j (by omega) d
    have e2 : elErr n k S' = 0 := by
      unfold elErr
      rw [if_neg (by rw [hnil, hN]; exact Bool.false_ne_true), hpiv, ← hT', if_pos]
      rw [fineTo_all hk]
      exact fun r j _ _ _ d => g2 r j (by omega) d
    exact ⟨e2.trans e1.symm, fun _ => by rw [eS, eS']; exact hnew⟩
theorem RelS.run {n i B : Nat} {S S' : El} (h : RelS n 0 i B S S') (hn : n ≤ 3) (hB : 1010 ≤ B) (hB2 : B ≤ 1074) (hi : B + i ≤ 1138) : ∀ k, k ≤ n → (elRun n S' k).1 = (elRun n S k).1 ∧ ((elRun n S k).1.1 = 0 → RelS n k i B (elRun n S k).2 (elRun n S' k).2)
  | 0, _ => ⟨rfl, fun _ => h⟩
  | k + 1, hk => by
    obtain ⟨h1, h2⟩ := RelS.run h hn hB hB2 hi k (by omega)
    by_cases h0 : (elRun n S k).1.1 = 0
    · have h0' : (elRun n S' k).1.1 = 0 := by rw [h1]; exact h0
      obtain ⟨h3, h4⟩ := (h2 h0).step hn (by omega) hB hB2 hi
      by_cases he : elErr n k (elRun n S k).2 = 0
      · rw [elRun_ok h0 he, elRun_ok h0' (h3.trans he)]
        exact ⟨rfl, fun _ => h4 he⟩
      · rw [elRun_bad h0 he, elRun_bad h0' (by rw [h3]; exact he), h3]
        exact ⟨rfl, fun e => absurd e he⟩
    · have h0' : (elRun n S' k).1.1 ≠ 0 := by rw [h1]; exact h0
      have e1 : elRun n S (k + 1) = elRun n S k := by rw [elRun, if_neg h0]
      have e2 : elRun n S' (k + 1) = elRun n S' k := by rw [elRun, if_neg h0']
      rw [e1, e2]
      exact ⟨h1, fun e => absurd e h0⟩
/-! ### The unknowns -/
/-- What the two need: lower factors, upper rows, right sides. -/
structure SolS (n i B : Nat) (Lo Lo' Up Up' : Nat → Nat → C) (b b' : Nat → C) : Prop where
  lo : ∀ r k, r < n → k < r → Rp 0 961 1187 (Lo r k) (Lo' r k)
  up : ∀ r k, r ≤ k → k < n → Rp i (B - aK r) (B + bK r) (Up r k) (Up' r k)
  nz : ∀ r, r < n → pZero (Up r r) = false
  b : ∀ r, r < n → Rp 0 1074 1074 (b r) (b' r)
  B1 : 1010 ≤ B
  B2 : B ≤ 1074
  B3 : B + i ≤ 1138
  B4 : 1074 ≤ B + i
namespace SolS
variable {n i B : Nat} {Lo Lo' Up Up' : Nat → Nat → C} {b b' : Nat → C}
/-- Downward. -/
theorem y0 (h : SolS n i B Lo Lo' Up Up' b b') (hn : 0 < n) : Rp 0 1074 1074 (b 0) (b' 0) := h.b 0 hn
theorem y1 (h : SolS n i B Lo Lo' Up Up' b b') (hn : 1 < n) : Rp 0 909 1188 (pSub (b 1) (pMul (Lo 1 0) (b 0))) (pSub (b' 1) (pMul (Lo' 1 0) (b' 0))) :=
  (h.b 1 hn).sub ((h.lo 1 0 hn (by omega)).mul (h.y0 (by omega)) (l := 961) (h' := 1187) (by omega) (by omega) (by omega) (by omega) (by omega)) (by omega) (by omega) (by omega) (by omega) (by omega) (by omega) (by omega)
theorem y2a (h : SolS n i B Lo Lo' Up Up' b b') (hn : 2 < n) : Rp 0 909 1188 (pSub (b 2) (pMul (Lo 2 0) (b 0))) (pSub (b' 2) (pMul (Lo' 2 0) (b' 0))) :=
  (h.b 2 hn).sub ((h.lo 2 0 hn (by omega)).mul (h.y0 (by omega)) (l := 961) (h' := 1187) (by omega) (by omega) (by omega) (by omega) (by omega)) (by omega) (by omega) (by omega) (by omega) (by omega) (by omega) (by omega)
theorem y2 (h : SolS n i B Lo Lo' Up Up' b b') (hn : 2 < n) : Rp 0 744 1302 (pSub (pSub (b 2) (pMul (Lo 2 0) (b 0))) (pMul (Lo 2 1) (pSub (b 1) (pMul (Lo 1 0) (b 0))))) (pSub (pSub (b' 2) (pMul (Lo' 2 0) (b' 0))) (pMul (Lo' 2 1) (pSub (b' 1) (pMul (Lo' 1 0) (b' 0))))) :=
  (h.y2a hn).sub ((h.lo 2 1 hn (by omega)).mul (h.y1 (by omega)) (l := 796) (h' := 1301) (by omega) (by omega) (by omega) (by omega) (by omega)) (by omega) (by omega) (by omega) (by omega) (by omega) (by omega) (by omega)
end SolS
def X1 (Up : Nat → Nat → C) (Y : Nat → C) : C := pDiv (Y 0) (Up 0 0)
def X21 (Up : Nat → Nat → C) (Y : Nat → C) : C := pDiv (Y 1) (Up 1 1)
def X20 (Up : Nat → Nat → C) (Y : Nat → C) : C := pDiv (pSub (Y 0) (pMul (Up 0 1) (X21 Up Y))) (Up 0 0)
def X32 (Up : Nat → Nat → C) (Y : Nat → C) : C := pDiv (Y 2) (Up 2 2)
def X31 (Up : Nat → Nat → C) (Y : Nat → C) : C := pDiv (pSub (Y 1) (pMul (Up 1 2) (X32 Up Y))) (Up 1 1)
def X30 (Up : Nat → Nat → C) (Y : Nat → C) : C := pDiv (pSub (pSub (Y 0) (pMul (Up 0 1) (X31 Up Y))) (pMul (Up 0 2) (X32 Up Y))) (Up 0 0)
theorem fwd_0 (Lo : Nat → Nat → C) (o : Nat → Nat) (b : Nat → C) (n : Nat) (hn : 0 < n) : fwd Lo o b n 0 = b (o 0) := by
  induction n with
  | zero => omega
  | succ n ih =>
    by_cases e : n = 0
    · subst e; rfl
    · unfold fwd; rw [putX_other (by omega)]; exact ih (by omega)
theorem fwd_1 (Lo : Nat → Nat → C) (o : Nat → Nat) (b : Nat → C) (n : Nat) (hn : 1 < n) : fwd Lo o b n 1 = pSub (b (o 1)) (pMul (Lo 1 0) (b (o 0))) := by
  induction n with
  | zero => omega
  | succ n ih =>
    by_cases e : n = 1
    · subst e; rfl
    · unfold fwd; rw [putX_other (by omega)]; exact ih (by omega)
theorem fwd_2 (Lo : Nat → Nat → C) (o : Nat → Nat) (b : Nat → C) (n : Nat) (hn : 2 < n) : fwd Lo o b n 2 = pSub (pSub (b (o 2)) (pMul (Lo 2 0) (b (o 0)))) (pMul (Lo 2 1) (pSub (b (o 1)) (pMul (Lo 1 0) (b (o 0))))) := by
  induction n with
  | zero => omega
  | succ n ih =>
    by_cases e : n = 2
    · subst e; rfl
    · unfold fwd; rw [putX_other (by omega)]; exact ih (by omega)
theorem and4 {a b c d : Bool} (h1 : a = true) (h2 : b = true) (h3 : c = true) (h4 : d = true) : (a && ((b && c) && d)) = true := by rw [h1, h2, h3, h4]; rfl
theorem and9 {a b c d e f g h k : Bool} (h1 : a = true) (h2 : b = true) (h3 : c = true) (h4 : d = true) (h5 : e = true) (h6 : f = true) (h7 : g = true) (h8 : h = true) (h9 : k = true) :
    ((a && (b && c)) && ((((d && e) && f) && (g && h)) && k)) = true := by rw [h1, h2, h3, h4, h5, h6, h7, h8, h9]; rfl
/-- What is told: the unknowns lie between, all is finite. -/
theorem SolS.sol {n i B : Nat} {Lo Lo' Up Up' : Nat → Nat → C} {b b' : Nat → C} {o : Nat → Nat} (h : SolS n i B Lo Lo' Up Up' (fun r => b (o r)) (fun r => b' (o r))) (hn : n ≤ 3) :
    (∀ r, r < n → Rp i (1374 - (B + i)) (2749 - (B + i)) (solX Lo' Up' o b' n r) (solX Lo Up o b n r)) ∧ solFine Lo Up o b n = true ∧ solFine Lo' Up' o b' n = true := by
  have b1 := h.B1
  have b2 := h.B2
  have b3 := h.B3
  have b4 := h.B4
  have ey0 : ∀ (Lo : Nat → Nat → C) (b : Nat → C), 0 < n → fwd Lo o b n 0 = b (o 0) := fun Lo b hn => fwd_0 Lo o b n hn
  match n, hn with
  | 0, _ => exact ⟨fun r hr => absurd hr (Nat.not_lt_zero _), rfl, rfl⟩
  | 1, _ =>
    have w0 := (h.y0 (by omega)).divW (h.up 0 0 (by omega) (by omega)) (h.nz 0 (by omega)) (l := 2128 - (B + i)) (h' := 2148 - (B + i)) (by simp only [bK] <;> omega) (by simp only [aK] <;> omega) (by omega) (by omega) (by omega)
    refine ⟨fun r hr => ?_, ?_, ?_⟩
    · have : r = 0 := by omega
      subst this
      exact w0.mono (by omega) (by omega)
    · exact w0.finy
    · exact w0.finx
  | 2, _ =>
    have v1 := h.y1 (by omega)
    have m1 := (h.lo 1 0 (by omega) (by omega)).mul (h.y0 (by omega)) (l := 961) (h' := 1187) (by omega) (by omega) (by omega) (by omega) (by omega)
    have w1 := v1.divW (h.up 1 1 (by omega) (by omega)) (h.nz 1 (by omega)) (l := 1942 - (B + i)) (h' := 2334 - (B + i)) (by simp only [bK] <;> omega) (by simp only [aK] <;> omega) (by omega) (by omega) (by omega)
    have p1 := (h.up 0 1 (by omega) (by omega)).mulW w1 (l := 868) (h' := 1280) (by simp only [aK] <;> omega) (by simp only [bK] <;> omega) (by omega) (by omega)
    have s0 := (h.y0 (by omega)).sub p1 (l := 816) (h' := 1281) (by omega) (by omega) (by omega) (by omega) (by omega) (by omega) (by omega)
    have w0 := s0.divW (h.up 0 0 (by omega) (by omega)) (h.nz 0 (by omega)) (l := 1870 - (B + i)) (h' := 2355 - (B + i)) (by simp only [bK] <;> omega) (by simp only [aK] <;> omega) (by omega) (by omega) (by omega)
    refine ⟨fun r hr => ?_, ?_, ?_⟩
    · have : r = 0 ∨ r = 1 := by omega
      rcases this with rfl | rfl
      · exact w0.mono (by omega) (by omega)
      · exact w1.mono (by omega) (by omega)
    · have h4 := and4 v1.finx w1.finy s0.finx w0.finy
      exact h4
    · have h4 := and4 v1.finy w1.finx s0.finy w0.finx
      exact h4
  | 3, _ =>
    have v1 := h.y1 (by omega)
    have v2a := h.y2a (by omega)
    have v2 := h.y2 (by omega)
    have w2 := v2.divW (h.up 2 2 (by omega) (by omega)) (h.nz 2 (by omega)) (l := 1663 - (B + i)) (h' := 2613 - (B + i)) (by simp only [bK] <;> omega) (by simp only [aK] <;> omega) (by omega) (by omega) (by omega)
    have p12 := (h.up 1 2 (by omega) (by omega)).mulW w2 (l := 517) (h' := 1580) (by simp only [aK] <;> omega) (by simp only [bK] <;> omega) (by omega) (by omega)
    have s1 := v1.sub p12 (l := 465) (h' := 1581) (by omega) (by omega) (by omega) (by omega) (by omega) (by omega) (by omega)
    have w1 := s1.divW (h.up 1 1 (by omega) (by omega)) (h.nz 1 (by omega)) (l := 1498 - (B + i)) (h' := 2727 - (B + i)) (by simp only [bK] <;> omega) (by simp only [aK] <;> omega) (by omega) (by omega) (by omega)
    have p01 := (h.up 0 1 (by omega) (by omega)).mulW w1 (l := 424) (h' := 1673) (by simp only [aK] <;> omega) (by simp only [bK] <;> omega) (by omega) (by omega)
    have s0a := (h.y0 (by omega)).sub p01 (l := 372) (h' := 1674) (by omega) (by omega) (by omega) (by omega) (by omega) (by omega) (by omega)
    have p02 := (h.up 0 2 (by omega) (by omega)).mulW w2 (l := 589) (h' := 1559) (by simp only [aK] <;> omega) (by simp only [bK] <;> omega) (by omega) (by omega)
    have s0 := s0a.sub p02 (l := 320) (h' := 1675) (by omega) (by omega) (by omega) (by omega) (by omega) (by omega) (by omega)
    have w0 := s0.divW (h.up 0 0 (by omega) (by omega)) (h.nz 0 (by omega)) (l := 1374 - (B + i)) (h' := 2749 - (B + i)) (by simp only [bK] <;> omega) (by simp only [aK] <;> omega) (by omega) (by omega) (by omega)
    refine ⟨fun r hr => ?_, ?_, ?_⟩
    · have : r = 0 ∨ r = 1 ∨ r = 2 := by omega
      rcases this with rfl | rfl | rfl
      · exact w0
      · exact w1.mono (by omega) (by omega)
      · exact w2.mono (by omega) (by omega)
    · have h9 := and9 v1.finx v2a.finx v2.finx w2.finy s1.finx w1.finy s0a.finx s0.finx w0.finy
      exact h9
    · have h9 := and9 v1.finy v2a.finy v2.finy w2.finx s1.finy w1.finx s0a.finy s0.finy w0.finx
      exact h9
  | n + 4, hn => omega
end Fl
