/- Layer 7, the document's answer: sums and differences. -/
import Derived.Test.YtandllekeimpgaaRM1
import Derived.Test.YtandllekeimpgaaMX1
import Derived.Test.YtandllekeimpgaaFlA
namespace Go.Proofs.Ytandllekeimpgaa
open Go.RowKit Fl Ieee
set_option maxRecDepth 20000
attribute [local go_sem] run_store_float run_store_complex
/-- Behind the frame: two boxes, the result's row. -/
theorem frame2r {w W1 : World} {r c r' c' : Int} {s s' x y z : Value} {t t' t'' : TypeId}
    (hb : Below (((w.alloc (.cells #[.int .i64 r, .int .i64 c, s] t)).alloc (.cells #[.int .i64 r', .int .i64 c', s'] t')).alloc (.cells #[x, y, z] t'')).heap.size
      (((w.alloc (.cells #[.int .i64 r, .int .i64 c, s] t)).alloc (.cells #[.int .i64 r', .int .i64 c', s'] t')).alloc (.cells #[x, y, z] t'')) W1) :
    Box W1 w.heap.size r c s ∧ Box W1 (w.heap.size + 1) r' c' s' ∧ W1.heap[w.heap.size + 2]? = some (.cells #[x, y, z] t'') ∧ Below w.heap.size w W1 ∧ w.heap.size + 3 ≤ W1.heap.size := by
  obtain ⟨w1, hw1⟩ : ∃ w1, w1 = w.alloc (.cells #[.int .i64 r, .int .i64 c, s] t) := ⟨_, rfl⟩
  obtain ⟨w2, hw2⟩ : ∃ w2, w2 = w1.alloc (.cells #[.int .i64 r', .int .i64 c', s'] t') := ⟨_, rfl⟩
  have e1 : w1.heap.size = w.heap.size + 1 := by rw [hw1]; simp
  have e2 : w2.heap.size = w.heap.size + 2 := by rw [hw2]; simp [e1]
  rw [← hw1, ← hw2] at hb
  obtain ⟨h1, h2, h3⟩ := frameR hb
  rw [e2] at h1 h3
  rw [hw2] at h2
  obtain ⟨h7, h8, h9⟩ := frame0 h2
  rw [e1] at h7
  rw [hw1] at h8
  obtain ⟨h10, h11, h12⟩ := frame0 h8
  exact ⟨h10, h7, h1, h11, h3⟩
theorem upto_step {E : Nat → C} {k q : Nat} {v : C} (h : v = E k) : upto E (k + 1) q = if q = k then v else upto E k q := by
  unfold upto
  by_cases h1 : q = k
  · rw [if_pos (by omega), if_pos h1, h, h1]
  · rw [if_neg h1]
    by_cases h2 : q < k
    · rw [if_pos (by omega), if_pos h2]
    · rw [if_neg (by omega), if_neg h2]
theorem upto_end (E : Nat → C) (n : Nat) : (List.range n).map (upto E n) = (List.range n).map E :=
  List.map_congr_left fun q hq => by unfold upto; rw [if_pos (List.mem_range.1 hq)]
theorem ent_self (l : List C) (c q : Nat) : ent l c (q / c) (q % c) = cnC (l.getD q (0, 0)) := by
  unfold ent; rw [Nat.mul_comm, Nat.div_add_mod]
end Go.Proofs.Ytandllekeimpgaa
namespace Go.Proofs.Ytandllekeimpgaa
open Go.RowKit Fl Ieee
set_option maxRecDepth 20000
attribute [local go_sem] run_store_float run_store_complex
end Go.Proofs.Ytandllekeimpgaa
namespace Go.Proofs.Ytandllekeimpgaa
open Go.RowKit Fl Ieee
theorem zqC_rfl (a : C) : zqC a a := ⟨zq.rfl' _, zq.rfl' _⟩
theorem zqC_add {a a' b b' : C} (h : zqC a a') (h' : zqC b b') : zqC (pAdd a b) (pAdd a' b') := ⟨h.1.add h'.1, h.2.add h'.2⟩
theorem ltC_add (a b : C) : ltC (pAdd a b) := ⟨fadd_lt _ _, fadd_lt _ _⟩
theorem ltC_mul (a b : C) : ltC (pMul a b) := ⟨fsub_lt _ _, fadd_lt _ _⟩
theorem ltC_cn {z : C} (h : ltC z) : ltC (cnC z) := ⟨cn_lt (k := .f64) h.1, cn_lt (k := .f64) h.2⟩
theorem ltC_conj {a : C} (h : ltC a) : ltC (pConj a) := ⟨h.1, fneg_lt h.2⟩
theorem add_conj {a b : C} (ha : ltC a) (hb : ltC b) : zqC (pAdd (pConj a) (pConj b)) (pConj (pAdd a b)) := ⟨zq.rfl' _, fadd_neg ha.2 hb.2⟩
theorem zqC_conj {a b : C} (h : zqC a b) (ha : ltC a) (hb : ltC b) : zqC (pConj a) (pConj b) := ⟨h.1, h.2.fneg ha.2 hb.2⟩
theorem ltC_dot {la lb : List C} {ca cb i j : Nat} (n : Nat) : ltC (dot la lb ca cb i j n) := by
  cases n with
  | zero => exact ⟨show 0 < 18446744073709551616 by omega, show 0 < 18446744073709551616 by omega⟩
  | succ n => exact ltC_add _ _
theorem ltC_ent {l : List C} (h : ltCs l) (c i j : Nat) : ltC (ent l c i j) := by
  unfold ent
  rw [List.getD_eq_getElem?_getD]
  cases hz : l[i * c + j]? with
  | none => exact ltC_cn ⟨by decide, by decide⟩
  | some z => exact ltC_cn (h z (List.mem_of_getElem? hz))
/-- The conjugate of a product's entry. -/
theorem dot_conj {l0 l1 z0 z1 : List C} {k q i j : Nat} (h0 : ltCs l0) (h1 : ltCs l1) (e0 : ∀ n, n < k → ent z0 k i n = pConj (ent l0 k i n)) (e1 : ∀ n, n < k → ent z1 q n j = pConj (ent l1 q n j)) :
    ∀ n, n ≤ k → zqC (dot z0 z1 k q i j n) (pConj (dot l0 l1 k q i j n)) := by
  intro n
  induction n with
  | zero => intro _; exact ⟨zq.rfl' _, .inr ⟨show rung double 0 = 0 by decide, show rung double (fneg 0) = 0 by decide⟩⟩
  | succ n ih =>
    intro hn
    show zqC (pAdd (dot z0 z1 k q i j n) (pMul (ent z0 k i n) (ent z1 q n j))) (pConj (pAdd (dot l0 l1 k q i j n) (pMul (ent l0 k i n) (ent l1 q n j))))
    rw [e0 n hn, e1 n hn]
    exact (zqC_add (ih (by omega)) (mul_conj (ltC_ent h0 _ _ _) (ltC_ent h1 _ _ _))).trans (add_conj (ltC_dot n) (ltC_mul _ _))
theorem conj_twice {a : C} (h : ltC a) : pConj (pConj (cnC a)) = cnC a := conj_conj (ltC_cn h) (cn_cn .f64 a.2)
def zeroC (a : C) : Prop := rung double a.1 = 0 ∧ rung double a.2 = 0
theorem fin_zero {z : Nat} (h : rung double z = 0) : fin double z := by unfold fin; rw [h]; decide +kernel
theorem fadd_zz {x y : Nat} (hx : x < 18446744073709551616) (h : rung double x = 0) (h' : rung double y = 0) : rung double (fadd x y) = 0 := by
  rcases fadd_zero hx (fin_zero h) h' with e | ⟨e, _⟩
  · rw [e]; exact h
  · exact e
theorem zeroC_add {a b : C} (ha : ltC a) (h : zeroC a) (h' : zeroC b) : zeroC (pAdd a b) := ⟨fadd_zz ha.1 h.1 h'.1, fadd_zz ha.2 h.2 h'.2⟩
theorem fmul_zero' {y : Nat} (hf : fin double y) : rung double (fmul 0 y) = 0 := by rw [fmul_comm]; exact fmul_zero hf
theorem zeroC_mul {e : C} (hf : pFinite e = true) : zeroC (pMul (0, 0) e) := by
  unfold pFinite at hf
  rw [Bool.and_eq_true] at hf
  have f1 := fin_of_isFin hf.1
  have f2 := fin_of_isFin hf.2
  refine ⟨?_, fadd_zz (fmul_lt _ _) (fmul_zero' f2) (fmul_zero' f1)⟩
  show rung double (fsub (fmul 0 e.1) (fmul 0 e.2)) = 0
  rw [fsub_eq _ (fmul_lt _ _)]
  have h2 : rung double (fneg (fmul 0 e.2)) = 0 := by rw [rung_fneg (fmul_lt _ _) (isNaN_of_rung0 (fmul_zero' f2))]; exact fmul_zero' f2
  exact fadd_zz (fmul_lt _ _) (fmul_zero' f1) h2
theorem zq_fin {x y : Nat} (h : zq x y) (hf : fin double y) : fin double x := by
  rcases h with e | ⟨e, _⟩
  · rw [e]; exact hf
  · exact fin_zero e
theorem zeroC_addl {a b e : C} (hb : ltC b) (hz : zeroC a) (h : zqC b e) (hf : pFinite e = true) : zqC (pAdd a b) e := by
  unfold pFinite at hf
  rw [Bool.and_eq_true] at hf
  have g1 := zq_fin h.1 (fin_of_isFin hf.1)
  have g2 := zq_fin h.2 (fin_of_isFin hf.2)
  rw [pAdd_comm]
  exact ⟨(fadd_zero hb.1 g1 hz.1).trans h.1, (fadd_zero hb.2 g2 hz.2).trans h.2⟩
/-- One at a single place, noughts else: the sum is what stands there. -/
theorem pick_sum {T S : Nat → C} {e : C} {p r : Nat} (hS0 : S 0 = (0, 0)) (hS : ∀ n, S (n + 1) = pAdd (S n) (T n)) (hT : ∀ n, n < r → n ≠ p → zeroC (T n)) (hp : zqC (T p) e) (hl : ∀ n, ltC (T n)) (hf : pFinite e = true) (n : Nat) (hn : n ≤ r) :
    ltC (S n) ∧ (n ≤ p → zeroC (S n)) ∧ (p < n → zqC (S n) e) := by
  induction n with
  | zero => exact ⟨by rw [hS0]; exact ⟨by decide, by decide⟩, fun _ => by rw [hS0]; exact ⟨by decide, by decide⟩, fun h => absurd h (Nat.not_lt_zero _)⟩
  | succ n ih =>
    obtain ⟨i0, i1, i2⟩ := ih (by omega)
    refine ⟨by rw [hS]; exact ltC_add _ _, fun h => ?_, fun h => ?_⟩
    · rw [hS]; exact zeroC_add i0 (i1 (by omega)) (hT n (by omega) (by omega))
    · rw [hS]
      rcases Nat.lt_or_ge p n with h1 | h1
      · rw [pAdd_comm]; exact zeroC_addl i0 (hT n (by omega) (by omega)) (i2 h1) hf
      · have e1 : n = p := by omega
        subst e1
        exact zeroC_addl (hl n) (i1 (Nat.le_refl _)) hp hf
theorem dot_idl {zi l : List C} {r c i j : Nat} (hi : i < r) (h0 : ltCs l) (ei : ∀ n, n < r → ent zi r i n = idE i n) (hf : ∀ n, n < r → pFinite (ent l c n j) = true) : zqC (dot zi l r c i j r) (ent l c i j) := by
  refine ((pick_sum (T := fun n => pMul (ent zi r i n) (ent l c n j)) (S := fun n => dot zi l r c i j n) (e := ent l c i j) (p := i) (r := r) rfl (fun n => rfl) ?_ ?_ (fun n => ltC_mul _ _) (hf i hi)) r (Nat.le_refl _)).2.2 hi
  · intro n hn hne
    show zeroC (pMul (ent zi r i n) (ent l c n j))
    rw [ei n hn]
    unfold idE
    rw [if_neg (by omega)]
    exact zeroC_mul (hf n hn)
  · show zqC (pMul (ent zi r i i) (ent l c i j)) (ent l c i j)
    rw [ei i hi]
    unfold idE
    rw [if_pos rfl, pMul_comm]
    exact mul_one (ltC_ent h0 _ _ _) (hf i hi)
theorem dot_idr {zi l : List C} {c i j : Nat} (hj : j < c) (h0 : ltCs l) (ei : ∀ n, n < c → ent zi c n j = idE n j) (hf : ∀ n, n < c → pFinite (ent l c i n) = true) : zqC (dot l zi c c i j c) (ent l c i j) := by
  refine ((pick_sum (T := fun n => pMul (ent l c i n) (ent zi c n j)) (S := fun n => dot l zi c c i j n) (e := ent l c i j) (p := j) (r := c) rfl (fun n => rfl) ?_ ?_ (fun n => ltC_mul _ _) (hf j hj)) c (Nat.le_refl _)).2.2 hj
  · intro n hn hne
    show zeroC (pMul (ent l c i n) (ent zi c n j))
    rw [ei n hn]
    unfold idE
    rw [if_neg hne, pMul_comm]
    exact zeroC_mul (hf n hn)
  · show zqC (pMul (ent l c i j) (ent zi c j j)) (ent l c i j)
    rw [ei j hj]
    unfold idE
    rw [if_pos rfl]
    exact mul_one (ltC_ent h0 _ _ _) (hf j hj)
/-- A finite number less itself. -/
theorem sub_self_zero {a : C} (ha : ltC a) (hf : pFinite a = true) : feq .f64 (pSub a a).1 0 = true ∧ feq .f64 (pSub a a).2 0 = true := by
  unfold pFinite at hf
  rw [Bool.and_eq_true] at hf
  exact ⟨(sub_self_eq a.1 ha.1).trans hf.1, (sub_self_eq a.2 ha.2).trans hf.2⟩
end Go.Proofs.Ytandllekeimpgaa
namespace Go.Proofs.Ytandllekeimpgaa
open Go.RowKit Fl Ieee
set_option maxRecDepth 20000
attribute [local go_sem] run_store_float run_store_complex Fl.order_self Fl.order_self' Fl.order_eq Fl.order_ne Fl.order_lt Fl.order_gt
/-- What a caller hands in: a matrix that lies in memory. -/
structure Lies (w : World) (A : Option Addr) (l : List C) (cap : Nat) : Prop where
  reads : Reads w w.heap.size A (nums l)
  none : A = none → cap = 0
  fits : l.length ≤ cap
  lt : ltCs l
theorem Lies.has {w W : World} {A : Option Addr} {l : List C} {cap b : Nat} {r c : Int} (h : Lies w A l cap) (hb : Below w.heap.size w W) (hx : Box W b r c (.slice A l.length cap)) (hl : b < W.heap.size) : Has W b r c A l cap :=
  ⟨hx, hl, (h.reads.below hb).more hb.size, h.none, h.fits⟩
theorem ent_cn (l : List C) (c i j : Nat) : ent (l.map cnC) c i j = ent l c i j := by
  unfold ent
  rw [List.getD_eq_getElem?_getD, List.getD_eq_getElem?_getD, List.getElem?_map]
  cases l[i * c + j]? with
  | none => rfl
  | some z => exact cnC_cnC z
theorem dot_cn (la lb : List C) (ca cb i j k : Nat) : dot (la.map cnC) (lb.map cnC) ca cb i j k = dot la lb ca cb i j k := by
  induction k with
  | zero => rfl
  | succ k ih => rw [dot, dot, ih, ent_cn, ent_cn]
theorem colSum_cn (l : List C) (c j i : Nat) : colSum (l.map cnC) c j i = colSum l c j i := by
  induction i with
  | zero => rfl
  | succ i ih => rw [colSum, colSum, ih, ent_cn]
theorem norm1_cn (l : List C) (r c : Nat) : norm1 (l.map cnC) r c = norm1 l r c := by
  unfold norm1 colSums
  rw [show (fun j => colSum (l.map cnC) c j r) = (fun j => colSum l c j r) from funext fun j => colSum_cn l c j r]
/-- How far it is off. -/
def offN (la lb : List C) (n : Nat) : Nat := norm1 (entries n (fun i j => pSub (dot la lb n n i j n) (idE i j)) (n * n)) n n
theorem offN_congr {la lb la' lb' : List C} (h : la.map cnC = la'.map cnC) (h' : lb.map cnC = lb'.map cnC) (n : Nat) : offN la lb n = offN la' lb' n := by
  unfold offN
  rw [show (fun i j => pSub (dot la lb n n i j n) (idE i j)) = (fun i j => pSub (dot la' lb' n n i j n) (idE i j)) from
    funext fun i => funext fun j => by rw [← dot_cn la, ← dot_cn la', h, h']]
theorem offN_of {la lb zp zq zd : List C} {n : Nat} (hp : zp.map cnC = entries n (fun i j => dot la lb n n i j n) (n * n)) (hq : zq.map cnC = entries n idE (n * n))
    (hd : zd.map cnC = entries n (fun i j => pSub (ent zp n i j) (ent zq n i j)) (n * n)) : norm1 zd n n = offN la lb n := by
  rw [← norm1_cn, hd]
  unfold offN
  refine congrArg (fun l => norm1 l n n) (entries_congr fun k hk => ?_)
  have h0 : 0 < n := by
    rcases Nat.eq_zero_or_pos n with h | h
    · subst h; simp at hk
    · exact h
  have h1 : k / n < n := Nat.div_lt_of_lt_mul hk
  have h2 : k % n < n := Nat.mod_lt _ h0
  unfold entry
  show pSub (ent zp n (k / n) (k % n)) (ent zq n (k / n) (k % n)) = _
  rw [at_made hp h1 h2, at_made hq h1 h2]
/-- Both are square and of one size. -/
def okOff (ra ca rb cb : Int) (na nb : Nat) : Bool := okM ra ca na && okM rb cb nb && (ra == ca) && (rb == cb) && (ra == rb)
def offV (ra ca rb cb : Int) (la lb : List C) : Nat := if okOff ra ca rb cb la.length lb.length then offN la lb ra.toNat else 0
def offE (ra ca rb cb : Int) (na nb : Nat) : Int := if okOff ra ca rb cb na nb then 0 else 4
theorem okOff_iff {ra ca rb cb : Int} {na nb : Nat} (h : okOff ra ca rb cb na nb = true) : ∃ n : Nat, n ≤ 64 ∧ ra = n ∧ ca = n ∧ rb = n ∧ cb = n ∧ na = n * n ∧ nb = n * n := by
  unfold okOff at h
  simp only [Bool.and_eq_true, beq_iff_eq] at h
  obtain ⟨⟨⟨⟨h1, h2⟩, h3⟩, h4⟩, h5⟩ := h
  obtain ⟨p1, p2, p3, p4, p5⟩ := okM_iff.1 h1
  obtain ⟨q1, q2, q3, q4, q5⟩ := okM_iff.1 h2
  obtain ⟨n, rfl⟩ : ∃ n : Nat, ra = n := ⟨ra.toNat, by omega⟩
  subst h3 h5 h4
  refine ⟨n, by omega, rfl, rfl, rfl, rfl, ?_, ?_⟩
  · rw [← Int.natCast_mul] at p5; exact Int.ofNat_inj.1 p5
  · rw [← Int.natCast_mul] at q5; exact Int.ofNat_inj.1 q5

end Go.Proofs.Ytandllekeimpgaa
