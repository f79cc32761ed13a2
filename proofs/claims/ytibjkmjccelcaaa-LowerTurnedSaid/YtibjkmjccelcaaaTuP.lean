/- Rows in another order, no two sizes being one: the same elimination (plain law); an order's sign. -/
import Derived.Test.YtibjkmjccelcaaaReg
namespace Go.Proofs.Ytibjkmjccelcaaa
open Go.RowKit Fl Ieee
set_option maxRecDepth 20000
/-- Two eliminations, the second one's rows being in another order: what is done is the same, what is to do lies otherwise (t). -/
structure TuR (n k : Nat) (p t : Nat → Nat) (S S' : El) : Prop where
  top : ∀ i j, i < k → j < n → S'.E i j = S.E i j
  topo : ∀ i, i < k → p (S'.o i) = S.o i
  lo : ∀ i, k ≤ i → i < n → k ≤ t i ∧ t i < n
  inj : ∀ i j, k ≤ i → i < n → k ≤ j → j < n → t i = t j → i = j
  sur : ∀ i, k ≤ i → i < n → ∃ j, k ≤ j ∧ j < n ∧ t j = i
  row : ∀ i j, k ≤ i → i < n → j < n → S'.E i j = S.E (t i) j
  ord : ∀ i, k ≤ i → i < n → p (S'.o i) = S.o (t i)
theorem feq_same {x y : Nat} (h : x = y) (hx : x ≤ double.infRung) : feq .f64 x y = true := by
  subst h
  rw [feq_self]
  have : isNaN double x = false := by
    unfold isNaN
    refine decide_eq_false ?_
    have h1 : rung double x ≤ x := Nat.mod_le _ _
    omega
  show (!isNaN double x) = true
  rw [this]; rfl
namespace TuR
variable {n k : Nat} {p t : Nat → Nat} {S S' : El}
theorem piv (h : TuR n k p t S S') (hk : k < n) (hf : finTo S.E n) (hnt : ∀ i j, k ≤ i → i < j → j < n → feq .f64 (pSize1 (S.E i k)) (pSize1 (S.E j k)) = false) : t (elPiv n k S') = elPiv n k S := by
  have hp := elPiv_lt S hk
  have hp' := elPiv_lt S' hk
  have hf' : ∀ i, k ≤ i → i < k + (n - k) → pFinite (S'.E i k) = true := fun i a b => by rw [h.row i k a (by omega) hk]; exact hf _ _ (h.lo i a (by omega)).2 hk
  have m := pivUp_max (c := fun i => S.E i k) (k := k) (m := n - k) (fun i a b => hf i k (by omega) hk)
  have m' := pivUp_max (c := fun i => S'.E i k) (k := k) (m := n - k) hf'
  obtain ⟨q, q1, q2, q3⟩ := h.sur (elPiv n k S) hp.2 hp.1
  have hl := h.lo _ hp'.2 hp'.1
  have e1 : pSize1 (S.E (elPiv n k S) k) ≤ pSize1 (S.E (t (elPiv n k S')) k) := by
    have := m' q q1 (by omega)
    rw [h.row q k q1 q2 hk, q3] at this
    have h2 := h.row (elPiv n k S') k hp'.2 hp'.1 hk
    rw [← h2]; exact this
  have e2 : pSize1 (S.E (t (elPiv n k S')) k) ≤ pSize1 (S.E (elPiv n k S) k) := m (t (elPiv n k S')) hl.1 (by omega)
  have e3 := Nat.le_antisymm e1 e2
  have hb := (size1_fin (hf (elPiv n k S) k hp.1 hk)).1
  rcases Nat.lt_trichotomy (t (elPiv n k S')) (elPiv n k S) with h1 | h1 | h1
  · have := hnt _ _ hl.1 h1 hp.1
    rw [feq_same e3.symm (by rw [← e3]; exact hb)] at this; cases this
  · exact h1
  · have := hnt _ _ hp.2 h1 hl.2
    rw [feq_same e3 hb] at this; cases this
theorem step (h : TuR n k p t S S') (hk : k < n) (hf : finTo S.E n) (hnt : ∀ i j, k ≤ i → i < j → j < n → feq .f64 (pSize1 (S.E i k)) (pSize1 (S.E j k)) = false) (he : elErr n k S = 0) :
    elErr n k S' = 0 ∧ ∃ t', TuR n (k + 1) p t' (elStep n k S) (elStep n k S') := by
  have hpv := h.piv hk hf hnt
  obtain ⟨a, ha⟩ : ∃ a, a = elPiv n k S := ⟨_, rfl⟩
  obtain ⟨b, hb⟩ : ∃ b, b = elPiv n k S' := ⟨_, rfl⟩
  have hp := elPiv_lt S hk
  have hp' := elPiv_lt S' hk
  rw [← ha, ← hb] at hpv
  rw [← ha] at hp
  rw [← hb] at hp'
  obtain ⟨u, hu⟩ : ∃ u : Nat → Nat, u = fun i => xch k a (t (xch k b i)) := ⟨_, rfl⟩
  have xlo : ∀ i c, k ≤ i → k ≤ c → k ≤ xch k c i := fun i c h1 h2 => by unfold xch; split <;> (try split) <;> omega
  have uk : u k = k := by rw [hu]; show xch k a (t (xch k b k)) = k; rw [xch_l, hpv, xch_r]
  have ulo : ∀ i, k ≤ i → i < n → k ≤ u i ∧ u i < n := fun i h1 h2 => by
    rw [hu]
    have h3 := h.lo (xch k b i) (xlo i b h1 hp'.2) (xch_lt hk hp'.1 h2)
    exact ⟨xlo _ a h3.1 hp.2, xch_lt hk hp.1 h3.2⟩
  have uinj : ∀ i j, k ≤ i → i < n → k ≤ j → j < n → u i = u j → i = j := fun i j h1 h2 h3 h4 e => by
    rw [hu] at e
    exact xch_inj (h.inj _ _ (xlo i b h1 hp'.2) (xch_lt hk hp'.1 h2) (xlo j b h3 hp'.2) (xch_lt hk hp'.1 h4) (xch_inj e))
  have ugt : ∀ i, k < i → i < n → k < u i := fun i h1 h2 => by
    have h3 := ulo i (by omega) h2
    rcases Nat.lt_or_ge k (u i) with h4 | h4
    · exact h4
    · have h5 : u i = k := by omega
      have := uinj i k (by omega) h2 (Nat.le_refl _) hk (h5.trans uk.symm)
      omega
  have row1 : ∀ i j, k ≤ i → i < n → j < n → (elSwap k b S').E i j = (elSwap k a S).E (u i) j := fun i j h1 h2 h3 => by
    show S'.E (xch k b i) j = S.E (xch k a (u i)) j
    rw [h.row _ j (xlo i b h1 hp'.2) (xch_lt hk hp'.1 h2) h3, hu]
    show S.E (t (xch k b i)) j = S.E (xch k a (xch k a (t (xch k b i)))) j
    rw [xch_xch]
  have row2 : ∀ i j, k < i → i < n → j < n → (elStep n k S').E i j = (elStep n k S).E (u i) j := fun i j h1 h2 h3 => by
    show elE (elSwap k (elPiv n k S') S').E k i j = elE (elSwap k (elPiv n k S) S).E k (u i) j
    rw [← ha, ← hb]
    have r1 := row1 i j (by omega) h2 h3
    have r2 := row1 i k (by omega) h2 hk
    have r3 := row1 k j (Nat.le_refl _) hk h3
    have r4 := row1 k k (Nat.le_refl _) hk hk
    rw [uk] at r3 r4
    have hg := ugt i h1 h2
    unfold elE elF
    rw [if_pos h1, if_pos hg, r1, r2, r3, r4]
  have top2 : ∀ i j, i < k + 1 → j < n → (elStep n k S').E i j = (elStep n k S).E i j := fun i j h1 h3 => by
    show elE (elSwap k (elPiv n k S') S').E k i j = elE (elSwap k (elPiv n k S) S).E k i j
    rw [← ha, ← hb, elE_old (by omega), elE_old (by omega)]
    rcases Nat.lt_or_ge i k with h2 | h2
    · show S'.E (xch k b i) j = S.E (xch k a i) j
      rw [xch_ne (by omega) (by omega), xch_ne (by omega) (by omega)]
      exact h.top i j h2 h3
    · have e : i = k := by omega
      subst e
      have := row1 i j (Nat.le_refl _) hk h3
      rw [uk] at this; exact this
  have hnil : elNil n k S = false := by
    unfold elErr at he
    split at he
    · cases he
    · rename_i h1
      simpa using h1
  have hfine : fineTo (elStep n k S).E n k (n - (k + 1)) = true := by
    unfold elErr at he
    rw [if_neg (by rw [hnil]; decide)] at he
    split at he
    · assumption
    · cases he
  have hnil' : elNil n k S' = false := by
    rw [Bool.eq_false_iff]
    intro h1
    have h2 := nilUp_at _ h1
    have h3 : elNil n k S = true := by
      have key : ∀ m, m ≤ n - k → nilUp (fun i => S.E i k) k m = true := fun m => by
        induction m with
        | zero => intro _; rfl
        | succ m ih =>
          intro hm
          unfold nilUp
          rw [ih (by omega), Bool.true_and]
          obtain ⟨q, q1, q2, q3⟩ := h.sur (k + m) (by omega) (by omega)
          have := h2 q q1 (by omega)
          rw [h.row q k q1 q2 hk, q3] at this
          exact this
      exact key _ (Nat.le_refl _)
    rw [hnil] at h3; cases h3
  have hfine' : fineTo (elStep n k S').E n k (n - (k + 1)) = true := by
    rw [fineTo_all hk] at hfine ⊢
    intro i j h1 h2 h3 h4
    rw [row2 i j h1 (by omega) h4]
    exact hfine (u i) j (ugt i h1 (by omega)) (by have := (ulo i (by omega) (by omega)).2; omega) h3 h4
  refine ⟨?_, u, ?_⟩
  · unfold elErr
    rw [if_neg (by rw [hnil']; decide)]
    exact if_pos hfine'
  · exact
      { top := top2
        topo := fun i h1 => by
          show p (S'.o (xch k (elPiv n k S') i)) = S.o (xch k (elPiv n k S) i)
          rw [← ha, ← hb]
          rcases Nat.lt_or_ge i k with h2 | h2
          · rw [xch_ne (by omega) (by omega), xch_ne (by omega) (by omega)]
            exact h.topo i h2
          · have e : i = k := by omega
            subst e
            rw [xch_l, xch_l, h.ord b hp'.2 hp'.1, hpv]
        lo := fun i h1 h2 => ⟨ugt i h1 h2, (ulo i (by omega) h2).2⟩
        inj := fun i j h1 h2 h3 h4 e => uinj i j (by omega) h2 (by omega) h4 e
        sur := fun i h1 h2 => by
          obtain ⟨q, q1, q2, q3⟩ := h.sur (xch k a i) (xlo i a (by omega) hp.2) (xch_lt hk hp.1 h2)
          refine ⟨xch k b q, ?_, xch_lt hk hp'.1 q2, ?_⟩
          · have h3 := xlo q b q1 hp'.2
            rcases Nat.lt_or_ge k (xch k b q) with h4 | h4
            · exact h4
            · have h5 : xch k b q = k := by omega
              have h6 : q = b := by rw [← xch_xch k b q, h5, xch_l]
              rw [h6, hpv] at q3
              have h7 : i = k := by rw [← xch_xch k a i, ← q3, xch_r]
              omega
          · rw [hu]
            show xch k a (t (xch k b (xch k b q))) = i
            rw [xch_xch, q3, xch_xch]
        row := fun i j h1 h2 h3 => row2 i j h1 h2 h3
        ord := fun i h1 h2 => by
          show p (S'.o (xch k (elPiv n k S') i)) = S.o (xch k (elPiv n k S) (u i))
          rw [← ha, ← hb, h.ord _ (xlo i b (by omega) hp'.2) (xch_lt hk hp'.1 h2), hu]
          show S.o (t (xch k b i)) = S.o (xch k a (xch k a (t (xch k b i))))
          rw [xch_xch] }
end TuR
theorem tu_run {n : Nat} {p t : Nat → Nat} {S S' : El} (h : TuR n 0 p t S S') (hf : finTo S.E n) (h0 : (elRun n S n).1.1 = 0) (hnt : ∀ a, a < n → ∀ i j, a ≤ i → i < j → j < n → feq .f64 (pSize1 ((elRun n S a).2.E i a)) (pSize1 ((elRun n S a).2.E j a)) = false) :
    ∀ k, k ≤ n → (elRun n S' k).1.1 = 0 ∧ ∃ t', TuR n k p t' (elRun n S k).2 (elRun n S' k).2 := by
  have hz : ∀ k, k ≤ n → (elRun n S k).1.1 = 0 := fun k hk => by
    by_cases e : (elRun n S k).1.1 = 0
    · exact e
    · have := elRun_stays e (n - k)
      rw [show k + (n - k) = n by omega] at this
      rw [this] at h0; exact absurd h0 e
  intro k
  induction k with
  | zero => intro _; exact ⟨rfl, t, h⟩
  | succ k ih =>
    intro hk
    obtain ⟨e1, t', ht⟩ := ih (by omega)
    have he : elErr n k (elRun n S k).2 = 0 := by
      by_cases e : elErr n k (elRun n S k).2 = 0
      · exact e
      · have := hz (k + 1) hk
        rw [elRun_bad (hz k (by omega)) e] at this; exact absurd this e
    obtain ⟨e2, t2, ht2⟩ := ht.step (by omega) (elRun_fin hf k (by omega)) (hnt k (by omega)) he
    rw [elRun_ok e1 e2, elRun_ok (hz k (by omega)) he]
    exact ⟨rfl, t2, ht2⟩
/-! ### The sign of an order -/
/-- Is an odd number of these below x? -/
def cnt (x : Nat) : List Nat → Bool
  | [] => false
  | y :: l => xor (decide (y < x)) (cnt x l)
def par : List Nat → Bool
  | [] => false
  | x :: l => xor (cnt x l) (par l)
/-- Is an odd number of pairs turned, the first of a, the second of b? -/
def crs : List Nat → List Nat → Bool
  | [], _ => false
  | x :: a, b => xor (cnt x b) (crs a b)
theorem cnt_append (x : Nat) (a b : List Nat) : cnt x (a ++ b) = xor (cnt x a) (cnt x b) := by
  induction a with
  | nil => simp [cnt]
  | cons y a ih => simp [cnt, ih]
theorem par_append (a b : List Nat) : par (a ++ b) = xor (xor (par a) (crs a b)) (par b) := by
  induction a with
  | nil => simp [par, crs]
  | cons x a ih =>
    simp only [List.cons_append, par, crs, ih, cnt_append]
    cases cnt x a <;> cases cnt x b <;> cases par a <;> cases crs a b <;> cases par b <;> rfl
theorem crs_right (a b c : List Nat) : crs a (b ++ c) = xor (crs a b) (crs a c) := by
  induction a with
  | nil => rfl
  | cons x a ih =>
    simp only [crs, cnt_append, ih]
    cases cnt x b <;> cases cnt x c <;> cases crs a b <;> cases crs a c <;> rfl
theorem crs_congr {b c : List Nat} (h : ∀ x, cnt x b = cnt x c) (a : List Nat) : crs a b = crs a c := by
  induction a with
  | nil => rfl
  | cons x a ih => simp only [crs, ih, h]
theorem up_same {x y : Nat} : ∀ m : List Nat, x ∉ m → y ∉ m → xor (cnt x m) (crs m [x]) = xor (cnt y m) (crs m [y])
  | [], _, _ => rfl
  | z :: m, hx, hy => by
    have ih := up_same m (fun h => hx (List.mem_cons_of_mem _ h)) (fun h => hy (List.mem_cons_of_mem _ h))
    have h1 : x ≠ z := fun e => hx (by rw [e]; exact List.mem_cons_self)
    have h2 : y ≠ z := fun e => hy (by rw [e]; exact List.mem_cons_self)
    have e1 : xor (decide (z < x)) (decide (x < z)) = true := by
      rcases Nat.lt_or_ge z x with h | h
      · rw [decide_eq_true h, decide_eq_false (by omega)]; rfl
      · rw [decide_eq_false (by omega), decide_eq_true (by omega)]; rfl
    have e2 : xor (decide (z < y)) (decide (y < z)) = true := by
      rcases Nat.lt_or_ge z y with h | h
      · rw [decide_eq_true h, decide_eq_false (by omega)]; rfl
      · rw [decide_eq_false (by omega), decide_eq_true (by omega)]; rfl
    simp only [cnt, crs, Bool.xor_false]
    revert ih e1 e2
    cases cnt x m <;> cases cnt y m <;> cases crs m [x] <;> cases crs m [y] <;> cases decide (z < x) <;> cases decide (x < z) <;> cases decide (z < y) <;> cases decide (y < z) <;> decide
/-- Two places are changed: the sign turns. -/
theorem par_swap {pre mid suf : List Nat} {x y : Nat} (hxy : x ≠ y) (hx : x ∉ mid) (hy : y ∉ mid) :
    par (pre ++ x :: (mid ++ y :: suf)) = !par (pre ++ y :: (mid ++ x :: suf)) := by
  have hc : ∀ z, cnt z (x :: (mid ++ y :: suf)) = cnt z (y :: (mid ++ x :: suf)) := fun z => by
    simp only [cnt, cnt_append]
    cases decide (x < z) <;> cases decide (y < z) <;> cases cnt z mid <;> cases cnt z suf <;> rfl
  rw [par_append, par_append, crs_congr hc pre]
  have hm : ∀ z, crs mid (z :: suf) = xor (crs mid [z]) (crs mid suf) := fun z => crs_right mid [z] suf
  have hu := up_same mid hx hy
  have e1 : xor (decide (y < x)) (decide (x < y)) = true := by
    rcases Nat.lt_or_ge y x with h | h
    · rw [decide_eq_true h, decide_eq_false (by omega)]; rfl
    · rw [decide_eq_false (by omega), decide_eq_true (by omega)]; rfl
  simp only [par, cnt_append, cnt, par_append, hm]
  revert hu e1
  generalize crs mid [x] = a1
  generalize crs mid [y] = a2
  generalize cnt x mid = a3
  generalize cnt y mid = a4
  generalize cnt x suf = a5
  generalize cnt y suf = a6
  generalize decide (y < x) = a7
  generalize decide (x < y) = a8
  generalize crs mid suf = a9
  generalize par suf = b1
  generalize par mid = b2
  generalize par pre = b3
  generalize crs pre _ = b4
  cases a1 <;> cases a2 <;> cases a3 <;> cases a4 <;> cases a7 <;> cases a8 <;> simp <;> (cases a5 <;> cases a6 <;> cases a9 <;> cases b1 <;> cases b2 <;> rfl)
/-- The order as a list. -/
def ordL (o : Nat → Nat) (n : Nat) : List Nat := (List.range n).map o
theorem range_split {a b n : Nat} (h : a < b) (hb : b < n) : List.range n = List.range a ++ a :: ((List.range (b - (a + 1))).map (fun t => a + 1 + t) ++ b :: (List.range (n - (b + 1))).map fun t => b + 1 + t) := by
  apply List.ext_getElem?
  intro i
  by_cases h1 : i < a
  · rw [List.getElem?_append_left (by simpa using h1), List.getElem?_range (by omega), List.getElem?_range h1]
  · rw [List.getElem?_append_right (by simpa using h1), List.length_range]
    by_cases h2 : i = a
    · subst h2
      rw [Nat.sub_self, List.getElem?_range (by omega)]; rfl
    · rw [show i - a = (i - (a + 1)) + 1 by omega, List.getElem?_cons_succ]
      by_cases h3 : i < b
      · rw [List.getElem?_append_left (by simp; omega), List.getElem?_range (by omega), List.getElem?_map, List.getElem?_range (by omega)]
        show some i = some (a + 1 + (i - (a + 1)))
        congr 1; omega
      · rw [List.getElem?_append_right (by simp; omega)]
        simp only [List.length_map, List.length_range]
        by_cases h4 : i = b
        · subst h4
          rw [Nat.sub_self, List.getElem?_range (by omega)]; rfl
        · rw [show i - (a + 1) - (b - (a + 1)) = (i - (b + 1)) + 1 by omega, List.getElem?_cons_succ]
          by_cases h5 : i < n
          · rw [List.getElem?_range h5, List.getElem?_map, List.getElem?_range (by omega)]
            show some i = some (b + 1 + (i - (b + 1)))
            congr 1; omega
          · rw [List.getElem?_eq_none (by simp; omega), List.getElem?_eq_none (by simp; omega)]
theorem par_xch {n a b : Nat} {o : Nat → Nat} (ho : Perm n o) (h : a < b) (hb : b < n) : par (ordL (fun i => o (xch a b i)) n) = !par (ordL o n) := by
  unfold ordL
  rw [range_split h hb]
  have key : ∀ (l : List Nat), (∀ i ∈ l, i ≠ a ∧ i ≠ b) → l.map (fun i => o (xch a b i)) = l.map o := fun l hl =>
    List.map_congr_left fun i hi => by show o (xch a b i) = o i; rw [xch_ne (hl i hi).1 (hl i hi).2]
  simp only [List.map_append, List.map_cons]
  rw [key (List.range a) (fun i hi => by have := List.mem_range.1 hi; omega), key ((List.range (b - (a + 1))).map fun t => a + 1 + t) (fun i hi => by
      obtain ⟨t, ht, rfl⟩ := List.mem_map.1 hi
      have := List.mem_range.1 ht; omega), key ((List.range (n - (b + 1))).map fun t => b + 1 + t) (fun i hi => by
      obtain ⟨t, ht, rfl⟩ := List.mem_map.1 hi
      have := List.mem_range.1 ht; omega), xch_l, xch_r]
  have hne : ∀ i, i < n → ∀ j ∈ (List.range (b - (a + 1))).map (fun t => a + 1 + t), i ≤ a ∨ i = b → o i ≠ o j := fun i hi j hj hab e => by
    obtain ⟨t, ht, rfl⟩ := List.mem_map.1 hj
    have ht := List.mem_range.1 ht
    have := ho.2 _ _ hi (by omega) e
    omega
  refine par_swap (fun e => ?_) (fun hm => ?_) (fun hm => ?_)
  · have := ho.2 _ _ hb (by omega) e; omega
  · obtain ⟨j, hj, e⟩ := List.mem_map.1 hm
    exact hne b hb j hj (.inr rfl) e.symm
  · obtain ⟨j, hj, e⟩ := List.mem_map.1 hm
    exact hne a (by omega) j hj (.inl (Nat.le_refl _)) e.symm
theorem par_id (n : Nat) : par (ordL id n) = false := by
  have hc : ∀ m x s, x < s → cnt x ((List.range m).map fun t => s + t) = false := fun m => by
    induction m with
    | zero => intro x s _; rfl
    | succ m ih =>
      intro x s h
      rw [List.range_succ_eq_map, List.map_cons, List.map_map]
      show xor (decide (s + 0 < x)) (cnt x ((List.range m).map ((fun t => s + t) ∘ Nat.succ))) = false
      rw [decide_eq_false (by omega), show ((fun t => s + t) ∘ Nat.succ) = fun t => s + 1 + t from funext fun t => by show s + (t + 1) = s + 1 + t; omega, ih x (s + 1) (by omega)]
      rfl
  have hp : ∀ m s, par ((List.range m).map fun t => s + t) = false := fun m => by
    induction m with
    | zero => intro s; rfl
    | succ m ih =>
      intro s
      rw [List.range_succ_eq_map, List.map_cons, List.map_map, show ((fun t => s + t) ∘ Nat.succ) = fun t => s + 1 + t from funext fun t => by show s + (t + 1) = s + 1 + t; omega]
      show xor (cnt (s + 0) _) (par _) = false
      rw [hc m (s + 0) (s + 1) (by omega), ih (s + 1)]
      rfl
  have := hp n 0
  unfold ordL
  rw [show (List.range n).map id = (List.range n).map fun t => 0 + t from List.map_congr_left fun i _ => by show i = 0 + i; omega]
  exact this
/-- The sign that an elimination tells is its order's. -/
theorem run_sign {n : Nat} {S : El} (hp : Perm n S.o) (h : S.s = par (ordL S.o n)) : ∀ k, k ≤ n → (elRun n S k).2.s = par (ordL (elRun n S k).2.o n)
  | 0, _ => h
  | k + 1, hk => by
    have ih := run_sign hp h k (by omega)
    have hpk := run_perm hp k (by omega)
    unfold elRun
    split
    · split
      · have hl := elPiv_lt (elRun n S k).2 (show k < n by omega)
        show (if elPiv n k (elRun n S k).2 = k then (elRun n S k).2.s else !(elRun n S k).2.s) = par (ordL (fun i => (elRun n S k).2.o (xch k (elPiv n k (elRun n S k).2) i)) n)
        by_cases e : elPiv n k (elRun n S k).2 = k
        · rw [if_pos e, e, ih]
          congr 1
          unfold ordL
          exact List.map_congr_left fun i _ => by show _ = (elRun n S k).2.o (xch k k i); rw [xch_self]
        · rw [if_neg e, par_xch hpk (by omega) hl.1, ih]
      · exact ih
    · exact ih
end Go.Proofs.Ytibjkmjccelcaaa
