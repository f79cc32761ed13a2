/- Layer 12, InversePermutes' plain law: a matrix with one unit in each row and column. -/
import Derived.Test.YtajdfbjjgjpicaaReg
import Derived.Test.YtajdfbjjgjpicaaSV0
import Derived.Test.YtajdfbjjgjpicaaIV2
import Derived.Test.YtajdfbjjgjpicaaOFF
namespace Fl
open Ieee Go
/-- One unit in each row (u + i v), in column t. -/
structure Perms (n : Nat) (t : Nat → Nat) (u v : Nat → Int) : Prop where
  lt : ∀ i, i < n → t i < n
  inj : ∀ i j, i < n → j < n → t i = t j → i = j
  onto : ∀ j, j < n → ∃ i, i < n ∧ t i = j
  unit : ∀ i, i < n → Unit4 (u i) (v i)
  n64 : n ≤ 64
/-- An entry of such a matrix: its part. -/
def pmE (t : Nat → Nat) (u : Nat → Int) (r j : Nat) : Int := if t r = j then u r else 0
theorem pmE_at {t : Nat → Nat} {u : Nat → Int} {r j : Nat} (h : t r = j) : pmE t u r j = u r := if_pos h
theorem pmE_no {t : Nat → Nat} {u : Nat → Int} {r j : Nat} (h : t r ≠ j) : pmE t u r j = 0 := if_neg h
theorem unit_lt {c d : Int} (h : Unit4 c d) : c.natAbs < 2 ∧ d.natAbs < 2 := by rcases h with ⟨rfl, rfl⟩ | ⟨rfl, rfl⟩ | ⟨rfl, rfl⟩ | ⟨rfl, rfl⟩ <;> decide
theorem pmE_lt {n : Nat} {t : Nat → Nat} {u v : Nat → Int} (h : Perms n t u v) {r : Nat} (hr : r < n) (j : Nat) : (pmE t u r j).natAbs < 2 ∧ (pmE t v r j).natAbs < 2 := by
  have := unit_lt (h.unit r hr)
  by_cases e : t r = j
  · rw [pmE_at e, pmE_at e]; exact this
  · rw [pmE_no e, pmE_no e]; decide
/-- k columns are eliminated: the rows have been put in their order. -/
structure PmS (n k : Nat) (t : Nat → Nat) (u v : Nat → Int) (S : El) : Prop where
  cx : ∀ i j, i < n → j < n → Cx (S.E i j) (pmE t u (S.o i) j) (pmE t v (S.o i) j)
  perm : Perm n S.o
  onto : ∀ r, r < n → ∃ i, i < n ∧ S.o i = r
  head : ∀ i, i < k → t (S.o i) = i
theorem PmS.fin {n k : Nat} {t : Nat → Nat} {u v : Nat → Int} {S : El} (h : PmS n k t u v S) : finTo S.E n := fun i j hi hj => cx_fin (h.cx i j hi hj)
theorem cx_zero' {z : C} (h : Cx z 0 0) : pZero z = true := (zero_iff (cx_fin h)).2 ⟨ex_word0 h.1, ex_word0 h.2⟩
theorem PmS.step {n k : Nat} {t : Nat → Nat} {u v : Nat → Int} {S : El} (P : Perms n t u v) (h : PmS n k t u v S) (hk : k < n) : elErr n k S = 0 ∧ PmS n (k + 1) t u v (elStep n k S) := by
  have hf := h.fin
  -- the row that has a unit in column k
  obtain ⟨r, hr, er⟩ := P.onto k hk
  obtain ⟨i0, hi0, ei0⟩ := h.onto r hr
  have hz0 : pZero (S.E i0 k) = false := by
    have hc := h.cx i0 k hi0 hk
    rw [ei0, pmE_at er, pmE_at er] at hc
    refine cx_zero hc ?_
    rcases P.unit r hr with h | h | h | h <;> omega
  have hki : k ≤ i0 := by
    rcases Nat.lt_or_ge i0 k with h1 | h1
    · have := h.head i0 h1
      rw [ei0, er] at this; omega
    · exact h1
  have hn : elNil n k S = false := by
    refine Bool.eq_false_iff.2 fun e => ?_
    have := nilUp_at (n - k) e i0 hki (by omega)
    rw [hz0] at this; cases this
  have hp := elPiv_lt S hk
  -- it is chosen
  have hz : pZero (S.E (elPiv n k S) k) = false := piv_nonzero (c := fun i => S.E i k) (fun i _ hi => hf i k (by omega) hk) hn
  have ht : t (S.o (elPiv n k S)) = k := by
    by_cases e : t (S.o (elPiv n k S)) = k
    · exact e
    · have hc := h.cx _ k hp.1 hk
      rw [pmE_no e, pmE_no e] at hc
      rw [cx_zero' hc] at hz; cases hz
  obtain ⟨T, hT⟩ : ∃ T, T = elSwap k (elPiv n k S) S := ⟨_, rfl⟩
  have hTo : ∀ i, T.o i = S.o (xch k (elPiv n k S) i) := fun i => by rw [hT]; rfl
  have hTc : ∀ i j, i < n → j < n → Cx (T.E i j) (pmE t u (T.o i) j) (pmE t v (T.o i) j) := fun i j hi hj => by
    rw [hTo, hT]; exact h.cx _ j (xch_lt hk hp.1 hi) hj
  have hTk : t (T.o k) = k := by rw [hTo, xch_l]; exact ht
  have hperm : Perm n T.o := by rw [hT]; exact h.perm.xch hk hp.1
  have hun := P.unit (T.o k) (hperm.1 k hk)
  have hcx : ∀ i j, i < n → j < n → Cx (elE T.E k i j) (pmE t u (T.o i) j) (pmE t v (T.o i) j) := by
    intro i j hi hj
    rcases Nat.lt_or_ge k i with h1 | h1
    · have hik : t (T.o i) ≠ k := fun e => by
        have := P.inj _ _ (hperm.1 i hi) (hperm.1 k hk) (e.trans hTk.symm)
        have := hperm.2 i k hi hk this
        omega
      have hfac : Cx (elF T.E k i) 0 0 := by
        have h3 := hTc i k hi hk
        have h4 := hTc k k hk hk
        rw [pmE_no hik, pmE_no hik] at h3
        rw [pmE_at hTk, pmE_at hTk] at h4
        have := h3.div h4 hun (by decide) (by decide)
        simpa [elF] using this
      rcases Nat.lt_or_ge k j with h2 | h2
      · rw [elE_new h1 h2]
        have b1 := pmE_lt P (hperm.1 k hk) j
        have b2 := pmE_lt P (hperm.1 i hi) j
        have hm := hfac.mul (hTc k j hk hj) (by decide) (by decide) (by omega) (by omega)
        have := (hTc i j hi hj).sub hm (by simp; omega) (by simp; omega)
        simpa using this
      · by_cases e : j = k
        · subst e
          rw [elE_fac h1, pmE_no hik, pmE_no hik]; exact hfac
        · rw [elE_left (by omega)]; exact hTc i j hi hj
    · rw [elE_old h1]; exact hTc i j hi hj
  have hS : elStep n k S = ⟨elE T.E k, T.o, T.s⟩ := by rw [hT]; rfl
  constructor
  · unfold elErr
    rw [if_neg (by rw [hn]; exact Bool.false_ne_true), ← hT]
    rw [if_pos]
    rw [fineTo_all hk]
    exact fun i j a b c d => cx_fin (hcx i j (by omega) d)
  · rw [hS]
    refine ⟨hcx, hperm, fun r hr => ?_, fun i hi => ?_⟩
    · obtain ⟨i, hi, ei⟩ := h.onto r hr
      exact ⟨xch k (elPiv n k S) i, xch_lt hk hp.1 hi, by show T.o _ = r; rw [hTo, xch_xch]; exact ei⟩
    · by_cases e : i = k
      · subst e; exact hTk
      · show t (T.o i) = i
        rw [hTo, xch_ne (by omega) (by omega)]; exact h.head i (by omega)
theorem PmS.run {n : Nat} {t : Nat → Nat} {u v : Nat → Int} {S : El} (P : Perms n t u v) (h : PmS n 0 t u v S) : ∀ k, k ≤ n → (elRun n S k).1 = (0, 0) ∧ PmS n k t u v (elRun n S k).2
  | 0, _ => ⟨rfl, h⟩
  | k + 1, hk => by
    obtain ⟨h1, h2⟩ := PmS.run P h k (by omega)
    obtain ⟨h3, h4⟩ := h2.step P (by omega)
    rw [elRun_ok (by rw [h1]) h3]
    exact ⟨rfl, h4⟩
theorem Cx.one : Cx (fone, 0) 1 0 := ⟨ex_one, ex_zero (by decide) (by decide)⟩
theorem Cx.nought : Cx (0, 0) 0 0 := ⟨ex_zero (by decide) (by decide), ex_zero (by decide) (by decide)⟩
theorem Cx.small {z : C} {a b : Int} (h : Cx z a b) {c d : Int} (e : a = c) (e' : b = d) : Cx z c d := e ▸ e' ▸ h
/-- Sums of products with noughts. -/
theorem acc_nought {M X : Nat → C} {k0 : Nat} {s : C} {a b : Int} (hs : Cx s a b) (ha : a.natAbs < 2) (hb : b.natAbs < 2) : ∀ m, (∀ k, k0 ≤ k → k < k0 + m → (Cx (M k) 0 0 ∧ ∃ c d : Int, Cx (X k) c d ∧ c.natAbs < 2 ∧ d.natAbs < 2)) →
    Cx (accTo M X k0 s m) a b ∧ accFine M X k0 s m = true
  | 0, _ => ⟨hs, rfl⟩
  | m + 1, h => by
    obtain ⟨h1, h2⟩ := acc_nought hs ha hb m (fun k p q => h k p (by omega))
    obtain ⟨h3, c, d, h4, hc, hd⟩ := h (k0 + m) (by omega) (by omega)
    have hm := h3.mul h4 (by decide) (by decide) (by omega) (by omega)
    have h5 : Cx (accTo M X k0 s (m + 1)) a b := by
      have := h1.sub hm (by simp; omega) (by simp; omega)
      exact this.small (by simp) (by simp)
    exact ⟨h5, by unfold accFine; rw [h2, cx_fin h5]; rfl⟩
theorem fwd_unit {n : Nat} {Lo : Nat → Nat → C} {o : Nat → Nat} {b : Nat → C} {e : Nat → Int} (he : ∀ i, (e i).natAbs < 2) (hL : ∀ i k, i < n → k < i → Cx (Lo i k) 0 0) (hb : ∀ i, i < n → Cx (b (o i)) (e i) 0) :
    ∀ m, m ≤ n → (∀ i, i < m → Cx (fwd Lo o b m i) (e i) 0) ∧ fwdFine Lo o b m = true
  | 0, _ => ⟨fun i hi => absurd hi (Nat.not_lt_zero _), rfl⟩
  | m + 1, hm => by
    obtain ⟨h1, h2⟩ := fwd_unit he hL hb m (by omega)
    obtain ⟨h3, h4⟩ := acc_nought (M := Lo m) (X := fwd Lo o b m) (k0 := 0) (hb m (by omega)) (he m) (by decide) m (fun k _ hk => ⟨hL m k (by omega) (by omega), e k, 0, h1 k (by omega), he k, by decide⟩)
    refine ⟨fun i hi => ?_, by unfold fwdFine; rw [h2, h4]; rfl⟩
    unfold fwd
    by_cases e : i = m
    · subst e; rw [putX_same]; exact h3
    · rw [putX_other e]; exact h1 i (by omega)
theorem bwd_unit {n : Nat} {Up : Nat → Nat → C} {Y : Nat → C} {e p q : Nat → Int} (he : ∀ i, e i = 0 ∨ e i = 1) (hu : ∀ i, i < n → Unit4 (p i) (q i)) (hd : ∀ i, i < n → Cx (Up i i) (p i) (q i)) (hU : ∀ i k, k < n → i < k → Cx (Up i k) 0 0) (hY : ∀ i, i < n → Cx (Y i) (e i) 0) :
    ∀ j, j ≤ n → (∀ i, i < n → Cx (bwd Up n Y j i) (if n - j ≤ i then e i * p i else e i) (if n - j ≤ i then -(e i * q i) else 0)) ∧ bwdFine Up n Y j = true
  | 0, _ => ⟨fun i hi => by rw [if_neg (by omega), if_neg (by omega)]; exact hY i hi, rfl⟩
  | j + 1, hj => by
    obtain ⟨h1, h2⟩ := bwd_unit he hu hd hU hY j (by omega)
    obtain ⟨r, hr⟩ : ∃ r, r = n - 1 - j := ⟨_, rfl⟩
    have hrn : r < n := by omega
    have bnd : ∀ k, k < n → (if n - j ≤ k then e k * p k else e k).natAbs < 2 ∧ (if n - j ≤ k then -(e k * q k) else (0 : Int)).natAbs < 2 := fun k hk => by
      have hb := unit_lt (hu k hk)
      rcases he k with h | h <;> rw [h] <;> split <;> simp <;> omega
    have hy := h1 r hrn
    rw [if_neg (by omega), if_neg (by omega)] at hy
    have he2 : (e r).natAbs < 2 := by rcases he r with h | h <;> omega
    obtain ⟨h3, h4⟩ := acc_nought (M := Up r) (X := bwd Up n Y j) (k0 := n - j) hy he2 (by decide) j (fun k a b => ⟨hU r k (by omega) (by omega), _, _, h1 k (by omega), bnd k (by omega)⟩)
    have h5 : Cx (pDiv (bwdRow Up n (bwd Up n Y j) j) (Up r r)) (e r * p r) (-(e r * q r)) := by
      have h6 : Cx (bwdRow Up n (bwd Up n Y j) j) (e r) 0 := by unfold bwdRow; rw [← hr]; exact h3
      exact (h6.div (hd r hrn) (hu r hrn) (by omega) (by decide)).small (by simp) (by simp)
    refine ⟨fun i hi => ?_, ?_⟩
    · unfold bwd
      rw [← hr]
      by_cases ei : i = r
      · subst ei
        rw [putX_same, if_pos (by omega), if_pos (by omega)]; exact h5
      · rw [putX_other ei]
        have := h1 i hi
        by_cases hc : n - j ≤ i
        · rw [if_pos hc, if_pos hc] at this
          rw [if_pos (by omega), if_pos (by omega)]; exact this
        · rw [if_neg hc, if_neg hc] at this
          rw [if_neg (by omega), if_neg (by omega)]; exact this
    · unfold bwdFine
      rw [← hr, h2, h4, cx_fin h5]; rfl
end Fl
namespace Go.Proofs.Ytajdfbjjgjpicaa
open Go.RowKit Fl Ieee
set_option maxRecDepth 20000
theorem fabs_ex0 {x : Nat} (h : Ex x 0 1074) : fabs x = 0 := by
  have h0 := ex_word0 h
  rw [(fabs_fin (isInf_rung0 h0) (isNaN_of_rung0 h0)).1, h0]
theorem fabs_ex1 {x : Nat} (h : Ex x 1 1074) : fabs x = fone := by
  rw [ex_same h ex_one (by decide)]; decide +kernel
theorem fabs_exm {x : Nat} (h : Ex x (-1) 1074) : fabs x = fone := by
  rw [ex_same h ex_minus (by decide)]; decide +kernel
theorem add_00 : fadd 0 0 = 0 := by decide +kernel
theorem add_01 : fadd 0 fone = fone := by decide +kernel
theorem add_10 : fadd fone 0 = fone := by decide +kernel
theorem size1_cx0 {z : C} (h : Cx z 0 0) : pSize1 z = 0 := by unfold pSize1; rw [fabs_ex0 h.1, fabs_ex0 h.2]; exact add_00
theorem size1_cx1 {z : C} {a b : Int} (h : Cx z a b) (hu : Unit4 a b) : pSize1 z = fone := by
  unfold pSize1
  rcases hu with ⟨rfl, rfl⟩ | ⟨rfl, rfl⟩ | ⟨rfl, rfl⟩ | ⟨rfl, rfl⟩
  · rw [fabs_ex1 h.1, fabs_ex0 h.2]; exact add_10
  · rw [fabs_exm h.1, fabs_ex0 h.2]; exact add_10
  · rw [fabs_ex0 h.1, fabs_ex1 h.2]; exact add_01
  · rw [fabs_ex0 h.1, fabs_exm h.2]; exact add_01
theorem great_same (x : Nat) (hx : isNaN double x = false) (l : List Nat) (hl : ∀ k, k < l.length → l[k]? = some x) : ∀ k, k < l.length → great l (k + 1) = (0, x)
  | 0, h => by
    unfold great
    rw [hl 0 h, show great l 0 = (-1, 0) from rfl]
    simp [hx]
  | k + 1, h => by
    have ih := great_same x hx l hl k (by omega)
    unfold great
    rw [hl (k + 1) h, ih]
    have h2 : flt .f64 x x = false := by rw [flt_def]; simp
    simp [h2]
theorem norm1_all {l : List C} {n x : Nat} (hn : 0 < n) (hx : isNaN double x = false) (h : ∀ j, j < n → colSum l n j n = x) : norm1 l n n = x := by
  unfold norm1
  have hlen : (colSums l n n n).length = n := by simp [colSums]
  obtain ⟨m, rfl⟩ : ∃ m, n = m + 1 := ⟨n - 1, by omega⟩
  rw [great_same x hx (colSums l (m + 1) (m + 1) (m + 1)) (fun k hk => ?_) m (by rw [hlen]; omega)]
  rw [hlen] at hk
  simp [colSums, hk, h k hk]
theorem colSum_one {l : List C} {n j p : Nat} (h : ∀ i, i < n → pSize1 (ent l n i j) = if i = p then fone else 0) : ∀ m, m ≤ n → colSum l n j m = if p < m then fone else 0
  | 0, _ => by rw [if_neg (by omega)]; rfl
  | m + 1, hm => by
    have ih := colSum_one h m (by omega)
    unfold colSum
    rw [ih, h m (by omega)]
    by_cases h1 : p < m
    · rw [if_pos h1, if_neg (by omega), if_pos (by omega)]; exact add_10
    · by_cases h2 : m = p
      · rw [if_neg h1, if_pos h2, if_pos (by omega)]; exact add_01
      · rw [if_neg h1, if_neg h2, if_neg (by omega)]; exact add_00
theorem colSum_zero {l : List C} {n j : Nat} (h : ∀ i, i < n → pSize1 (ent l n i j) = 0) : ∀ m, m ≤ n → colSum l n j m = 0
  | 0, _ => rfl
  | m + 1, hm => by
    have ih := colSum_zero h m (by omega)
    unfold colSum
    rw [ih, h m (by omega)]; exact add_00
/-- A list of n rows that holds such a matrix. -/
structure PmL (n : Nat) (t : Nat → Nat) (u v : Nat → Int) (l : List C) : Prop where
  P : Perms n t u v
  n0 : 0 < n
  len : l.length = n * n
  lt : ltCs l
  cx : ∀ i j, i < n → j < n → Cx (matE l n i j) (pmE t u i j) (pmE t v i j)
theorem fone_num : isNaN double fone = false := by decide +kernel
namespace PmL
variable {n : Nat} {t : Nat → Nat} {u v : Nat → Int} {l : List C}
theorem fin (h : PmL n t u v l) : ∀ z ∈ l, pFinite z = true := fun z hz => by
  obtain ⟨k, hk, rfl⟩ := List.getElem_of_mem hz
  have hn := h.n0
  rw [h.len] at hk
  have h1 := h.cx (k / n) (k % n) (Nat.div_lt_of_lt_mul hk) (Nat.mod_lt _ hn)
  unfold matE at h1
  rw [show k / n * n + k % n = k by rw [Nat.mul_comm]; exact Nat.div_add_mod k n] at h1
  have h2 := cx_fin h1
  rwa [List.getD_eq_getElem?_getD, List.getElem?_eq_getElem (by rw [h.len]; exact hk)] at h2
theorem start (h : PmL n t u v l) : PmS n 0 t u v (S0 l n) where
  cx := h.cx
  perm := ⟨fun _ hi => hi, fun _ _ _ _ e => e⟩
  onto r hr := ⟨r, hr, rfl⟩
  head _ hi := absurd hi (Nat.not_lt_zero _)
theorem run (h : PmL n t u v l) : (elRun n (S0 l n) n).1 = (0, 0) ∧ PmS n n t u v (ofS n l) := PmS.run h.P h.start n (Nat.le_refl _)
theorem ofF_ok (h : PmL n t u v l) : ofF n n l = (0, 0) := by
  unfold ofF
  have h1 : ¬ badAt l < l.length := fun hb => by
    have h2 : (!pFinite (l[badAt l]'hb)) = true := List.findIdx_getElem (xs := l) (p := fun z => !pFinite z) (w := hb)
    have h3 := h.fin _ (List.getElem_mem hb)
    rw [h3] at h2; cases h2
  have h64 := h.P.n64
  have h2 : okM (n : Int) (n : Int) l.length = true := by unfold okM; rw [h.len]; simp; omega
  rw [h2, if_pos (by simp), if_neg h1]
  exact h.run.1
theorem order (h : PmL n t u v l) {i j : Nat} (hi : i < n) (hj : j < n) : (ofS n l).o i = j ↔ t j = i := by
  have hs := h.run.2
  constructor
  · intro e; rw [← e]; exact hs.head i hi
  · intro e
    obtain ⟨i', hi', e'⟩ := hs.onto j hj
    have := hs.head i' hi'
    rw [e', e] at this
    rw [this]; exact e'
theorem col (h : PmL n t u v l) {j : Nat} (hj : j < n) :
    (∀ i, i < n → Cx (invE n (ofS n l) i j) (if t j = i then u j else 0) (if t j = i then -v j else 0)) ∧ colOk n (ofS n l) j = true := by
  have hs := h.run.2
  obtain ⟨S, hS⟩ : ∃ S, S = ofS n l := ⟨_, rfl⟩
  have ho := fun i hi => h.order (i := i) hi hj
  rw [← hS] at hs ho ⊢
  have hL : ∀ i k, i < n → k < i → Cx (lowE S i k) 0 0 := fun i k hi hk => by
    unfold lowE
    rw [if_neg (by omega), if_pos hk]
    have h1 := hs.cx i k hi (by omega)
    have h2 := hs.head i hi
    rwa [pmE_no (by omega), pmE_no (by omega)] at h1
  have hU : ∀ i k, k < n → i < k → Cx (uppE S i k) 0 0 := fun i k hk hi => by
    unfold uppE
    rw [if_neg (by omega)]
    have h1 := hs.cx i k (by omega) hk
    have h2 := hs.head i (by omega)
    rwa [pmE_no (by omega), pmE_no (by omega)] at h1
  have hd : ∀ i, i < n → Cx (uppE S i i) (u (S.o i)) (v (S.o i)) := fun i hi => by
    unfold uppE
    rw [if_neg (by omega)]
    have h1 := hs.cx i i hi hi
    rwa [pmE_at (hs.head i hi), pmE_at (hs.head i hi)] at h1
  obtain ⟨e, he⟩ : ∃ e : Nat → Int, e = fun i => if S.o i = j then 1 else 0 := ⟨_, rfl⟩
  have he1 : ∀ i, e i = 0 ∨ e i = 1 := fun i => by rw [he]; show (if _ then (1 : Int) else 0) = 0 ∨ (if _ then (1 : Int) else 0) = 1; split <;> simp
  have hb : ∀ i, i < n → Cx (bOf (eCol n j) (S.o i)) (e i) 0 := fun i hi => by
    have hlt := hs.perm.1 i hi
    have e1 : bOf (eCol n j) (S.o i) = if S.o i = j then (fone, 0) else (0, 0) := by
      unfold bOf eCol
      rw [List.getD_eq_getElem?_getD, List.getElem?_map, List.getElem?_range hlt]; rfl
    rw [e1, he]
    show Cx _ (if S.o i = j then 1 else 0) 0
    split
    · exact Cx.one
    · exact Cx.nought
  obtain ⟨f1, f2⟩ := fwd_unit (fun i => by rcases he1 i with h | h <;> rw [h] <;> decide) hL hb n (Nat.le_refl _)
  obtain ⟨b1, b2⟩ := bwd_unit he1 (fun i hi => h.P.unit (S.o i) (hs.perm.1 i hi)) hd hU f1 n (Nat.le_refl _)
  refine ⟨fun i hi => ?_, ?_⟩
  · have := b1 i hi
    rw [if_pos (by omega), if_pos (by omega)] at this
    show Cx (bwd (uppE S) n (fwd (lowE S) S.o (bOf (eCol n j)) n) n i) _ _
    refine this.small ?_ ?_
    · rw [he]
      show (if S.o i = j then (1 : Int) else 0) * u (S.o i) = _
      by_cases c : S.o i = j
      · rw [if_pos c, if_pos ((ho i hi).1 c), c]; simp
      · rw [if_neg c, if_neg (fun g => c ((ho i hi).2 g))]; simp
    · rw [he]
      show -((if S.o i = j then (1 : Int) else 0) * v (S.o i)) = _
      by_cases c : S.o i = j
      · rw [if_pos c, if_pos ((ho i hi).1 c), c]; simp
      · rw [if_neg c, if_neg (fun g => c ((ho i hi).2 g))]; simp
  · show solFine (lowE S) (uppE S) S.o (bOf (eCol n j)) n = true
    unfold solFine
    rw [f2, b2]; rfl
theorem invJ_no (h : PmL n t u v l) : ¬ invJ n (ofS n l) < n := invJ_all fun _ hj => (h.col hj).2
theorem ofI_ok' (h : PmL n t u v l) : ofI n n l = (0, 0) := by
  unfold ofI
  rw [h.ofF_ok, if_pos rfl, if_neg]
  exact h.invJ_no
theorem ent_m (h : PmL n t u v l) {i j : Nat} (hi : i < n) (hj : j < n) : Cx (ent l n i j) (pmE t u i j) (pmE t v i j) := by
  have h1 := h.cx i j hi hj
  have : ent l n i j = matE l n i j := fin_cn (cx_fin h1)
  rw [this]; exact h1
theorem ent_w (h : PmL n t u v l) {zs : List C} (hz : zs.map cnC = entries n (invE n (ofS n l)) (n * n)) {i j : Nat} (hi : i < n) (hj : j < n) : Cx (ent zs n i j) (if t j = i then u j else 0) (if t j = i then -v j else 0) := by
  have h1 := (h.col hj).1 i hi
  have e : ent zs n i j = invE n (ofS n l) i j := by
    rw [← ent_cn, hz]; exact ent_entries hi hj (cx_fin h1)
  rw [e]; exact h1
theorem unit_conj {a b : Int} (h : Unit4 a b) : Unit4 a (-b) := by
  rcases h with ⟨rfl, rfl⟩ | ⟨rfl, rfl⟩ | ⟨rfl, rfl⟩ | ⟨rfl, rfl⟩
  · exact .inl ⟨rfl, rfl⟩
  · exact .inr (.inl ⟨rfl, rfl⟩)
  · exact .inr (.inr (.inr ⟨rfl, rfl⟩))
  · exact .inr (.inr (.inl ⟨rfl, rfl⟩))
theorem norm_m (h : PmL n t u v l) : norm1 l n n = fone := norm1_all h.n0 fone_num fun j hj => by
  obtain ⟨p, hp, ep⟩ := h.P.onto j hj
  rw [colSum_one (p := p) (fun i hi => ?_) n (Nat.le_refl _), if_pos hp]
  have h1 := h.ent_m hi hj
  by_cases e : i = p
  · subst e
    rw [pmE_at ep, pmE_at ep] at h1
    rw [if_pos rfl]; exact size1_cx1 h1 (h.P.unit i hi)
  · have : t i ≠ j := fun g => e (h.P.inj i p hi hp (g.trans ep.symm))
    rw [pmE_no this, pmE_no this] at h1
    rw [if_neg e]; exact size1_cx0 h1
theorem norm_w (h : PmL n t u v l) {zs : List C} (hz : zs.map cnC = entries n (invE n (ofS n l)) (n * n)) : norm1 zs n n = fone := norm1_all h.n0 fone_num fun j hj => by
  rw [colSum_one (p := t j) (fun i hi => ?_) n (Nat.le_refl _), if_pos (h.P.lt j hj)]
  have h1 := h.ent_w hz hi hj
  by_cases e : i = t j
  · rw [if_pos e.symm, if_pos e.symm] at h1
    rw [if_pos e]; exact size1_cx1 h1 (unit_conj (h.P.unit j hj))
  · rw [if_neg (fun g => e g.symm), if_neg (fun g => e g.symm)] at h1
    rw [if_neg e]; exact size1_cx0 h1
theorem entries_cn (h : PmL n t u v l) : (entries n (invE n (ofS n l)) (n * n)).map cnC = entries n (invE n (ofS n l)) (n * n) := by
  apply List.ext_getElem?
  intro k
  rw [List.getElem?_map]
  rcases Nat.lt_or_ge k (n * n) with hk | hk
  · have hn := h.n0
    unfold entries
    rw [List.getElem?_map, List.getElem?_range hk]
    show some (cnC (entry n _ k)) = some (entry n _ k)
    congr 1
    refine fin_cn ?_
    exact cx_fin ((h.col (j := k % n) (Nat.mod_lt _ hn)).1 (k / n) (Nat.div_lt_of_lt_mul hk))
  · rw [List.getElem?_eq_none (by unfold entries; simpa using hk)]; rfl
theorem carP_one (h : PmL n t u v l) : carP n l = fone := by
  unfold carP
  rw [h.norm_m, h.norm_w h.entries_cn]; decide +kernel
theorem car (h : PmL n t u v l) : carF n n l = (0, 0) ∧ carV n n l = fone := by
  have hb : carBad n l = false := by unfold carBad; rw [h.carP_one]; decide +kernel
  unfold carF carV
  rw [h.ofI_ok']
  show (if _ then (if carBad n l = true then _ else _) else _) = _ ∧ (if _ then (if carBad n l = true then _ else carP n l) else _) = _
  rw [hb, h.carP_one]
  exact ⟨rfl, rfl⟩
theorem dot_cx (h : PmL n t u v l) {zs : List C} (hz : zs.map cnC = entries n (invE n (ofS n l)) (n * n)) {i j : Nat} (hi : i < n) (hj : j < n) : ∀ m, m ≤ n → Cx (dot l zs n n i j m) (if t i < m ∧ i = j then 1 else 0) 0
  | 0, _ => by rw [if_neg (by omega)]; exact Cx.nought
  | m + 1, hm => by
    have ih := h.dot_cx hz hi hj m (by omega)
    have h1 := h.ent_m hi (j := m) (by omega)
    have h2 := h.ent_w hz (i := m) (by omega) hj
    have b1 := pmE_lt h.P hi m
    have bu := unit_lt (h.P.unit j hj)
    have b2 : (if t j = m then u j else 0).natAbs < 2 ∧ (if t j = m then -v j else 0).natAbs < 2 := by split <;> simp <;> omega
    have h3 := h1.mul h2 (by omega) (by omega) (by omega) (by omega)
    have key : Cx (pMul (ent l n i m) (ent zs n m j)) (if t i = m ∧ i = j then 1 else 0) 0 := by
      refine h3.small ?_ ?_
      · by_cases e1 : t i = m
        · by_cases e2 : t j = m
          · have e3 : i = j := h.P.inj i j hi hj (e1.trans e2.symm)
            subst e3
            rw [pmE_at e1, pmE_at e1, if_pos e1, if_pos e1, if_pos ⟨e1, rfl⟩]
            rcases h.P.unit i hi with ⟨a, b⟩ | ⟨a, b⟩ | ⟨a, b⟩ | ⟨a, b⟩ <;> rw [a, b] <;> decide
          · rw [if_neg e2, if_neg e2, if_neg (fun (g : t i = m ∧ i = j) => e2 (g.2 ▸ g.1))]; simp
        · rw [pmE_no e1, pmE_no e1, if_neg (fun (g : t i = m ∧ i = j) => e1 g.1)]; simp
      · by_cases e1 : t i = m
        · by_cases e2 : t j = m
          · have e3 : i = j := h.P.inj i j hi hj (e1.trans e2.symm)
            subst e3
            rw [pmE_at e1, pmE_at e1, if_pos e1, if_pos e1]
            rcases h.P.unit i hi with ⟨a, b⟩ | ⟨a, b⟩ | ⟨a, b⟩ | ⟨a, b⟩ <;> rw [a, b] <;> decide
          · rw [if_neg e2, if_neg e2]; simp
        · rw [pmE_no e1, pmE_no e1]; simp
    show Cx (pAdd (dot l zs n n i j m) (pMul (ent l n i m) (ent zs n m j))) _ _
    have h4 : Cx (pAdd (dot l zs n n i j m) (pMul (ent l n i m) (ent zs n m j))) ((if t i < m ∧ i = j then 1 else 0) + (if t i = m ∧ i = j then 1 else 0)) (0 + 0) :=
      ⟨ih.1.add key.1 (by split <;> split <;> decide) (by omega), ih.2.add key.2 (by decide) (by omega)⟩
    refine h4.small ?_ rfl
    by_cases e3 : i = j
    · rcases Nat.lt_trichotomy (t i) m with e | e | e
      · rw [if_pos ⟨e, e3⟩, if_neg (by omega), if_pos (by omega)]; rfl
      · rw [if_neg (by omega), if_pos ⟨e, e3⟩, if_pos (by omega)]; rfl
      · rw [if_neg (by omega), if_neg (by omega), if_neg (by omega)]; rfl
    · rw [if_neg (fun g => e3 g.2), if_neg (fun g => e3 g.2), if_neg (fun g => e3 g.2)]; rfl
theorem off (h : PmL n t u v l) {zs : List C} (hz : zs.map cnC = entries n (invE n (ofS n l)) (n * n)) : offN l zs n = 0 := by
  unfold offN
  refine norm1_all h.n0 (by decide +kernel) fun j hj => colSum_zero (fun i hi => ?_) n (Nat.le_refl _)
  have hd := h.dot_cx hz hi hj n (Nat.le_refl _)
  have hl := h.P.lt i hi
  have hi' : Cx (idE i j) (if i = j then 1 else 0) 0 := by
    unfold idE; split
    · exact Cx.one
    · exact Cx.nought
  have hs : Cx (pSub (dot l zs n n i j n) (idE i j)) 0 0 := by
    have e : (if t i < n ∧ i = j then (1 : Int) else 0) = if i = j then 1 else 0 := by
      by_cases c : i = j
      · rw [if_pos ⟨hl, c⟩, if_pos c]
      · rw [if_neg (fun g => c g.2), if_neg c]
    rw [e] at hd
    have := hd.sub hi' (by omega) (by decide)
    exact this.small (by omega) (by omega)
  rw [ent_entries hi hj (cx_fin hs)]
  exact size1_cx0 hs
end PmL
end Go.Proofs.Ytajdfbjjgjpicaa
