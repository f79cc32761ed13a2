/- Layer 7: sums, products, conjugates of matrices as plain laws (no program in sight). -/
import Derived.Test.YtajdfbjjgjpicaaMX9
import Derived.Test.YtajdfbjjgjpicaaMX12
import Derived.Test.YtajdfbjjgjpicaaMX14
import Derived.Test.YtajdfbjjgjpicaaFlMc
namespace Go.Proofs.Ytajdfbjjgjpicaa
open Go.RowKit Fl Ieee
theorem zqC_rfl (a : C) : zqC a a := ⟨zq.rfl' _, zq.rfl' _⟩
theorem zqC_add {a a' b b' : C} (h : zqC a a') (h' : zqC b b') : zqC (pAdd a b) (pAdd a' b') := ⟨h.1.add h'.1, h.2.add h'.2⟩
theorem ltC_add (a b : C) : ltC (pAdd a b) := ⟨fadd_lt _ _, fadd_lt _ _⟩
theorem ltC_mul (a b : C) : ltC (pMul a b) := ⟨fsub_lt _ _, fadd_lt _ _⟩
theorem ltC_cn {z : C} (h : ltC z) : ltC (cnC z) := ⟨cn_lt (k := .f64) h.1, cn_lt (k := .f64) h.2⟩
theorem ltC_conj {a : C} (h : ltC a) : ltC (pConj a) := ⟨h.1, fneg_lt h.2⟩
theorem add_conj {a b : C} (ha : ltC a) (hb : ltC b) : zqC (pAdd (pConj a) (pConj b)) (pConj (pAdd a b)) := ⟨zq.rfl' _, fadd_neg ha.2 hb.2⟩
theorem zqC_conj {a b : C} (h : zqC a b) (ha : ltC a) (hb : ltC b) : zqC (pConj a) (pConj b) := ⟨h.1, h.2.fneg ha.2 hb.2⟩
theorem ltC_dot {la lb : List C} {ca cb i j : Nat} (n : Nat) : ltC (dot la lb ca cb i j n) := by
  cases n with
  | zero => exact ⟨show 0 < 18446744073709551616 by omega, show 0 < 18446744073709551616 by omega⟩
  | succ n => exact ltC_add _ _
theorem ltC_ent {l : List C} (h : ltCs l) (c i j : Nat) : ltC (ent l c i j) := by
  unfold ent
  rw [List.getD_eq_getElem?_getD]
  cases hz : l[i * c + j]? with
  | none => exact ltC_cn ⟨by decide, by decide⟩
  | some z => exact ltC_cn (h z (List.mem_of_getElem? hz))
/-- The conjugate of a product's entry. -/
theorem dot_conj {l0 l1 z0 z1 : List C} {k q i j : Nat} (h0 : ltCs l0) (h1 : ltCs l1) (e0 : ∀ n, n < k → ent z0 k i n = pConj (ent l0 k i n)) (e1 : ∀ n, n < k → ent z1 q n j = pConj (ent l1 q n j)) :
    ∀ n, n ≤ k → zqC (dot z0 z1 k q i j n) (pConj (dot l0 l1 k q i j n)) := by
  intro n
  induction n with
  | zero => intro _; exact ⟨zq.rfl' _, .inr ⟨show rung double 0 = 0 by decide, show rung double (fneg 0) = 0 by decide⟩⟩
  | succ n ih =>
    intro hn
    show zqC (pAdd (dot z0 z1 k q i j n) (pMul (ent z0 k i n) (ent z1 q n j))) (pConj (pAdd (dot l0 l1 k q i j n) (pMul (ent l0 k i n) (ent l1 q n j))))
    rw [e0 n hn, e1 n hn]
    exact (zqC_add (ih (by omega)) (mul_conj (ltC_ent h0 _ _ _) (ltC_ent h1 _ _ _))).trans (add_conj (ltC_dot n) (ltC_mul _ _))
theorem conj_twice {a : C} (h : ltC a) : pConj (pConj (cnC a)) = cnC a := conj_conj (ltC_cn h) (cn_cn .f64 a.2)
def zeroC (a : C) : Prop := rung double a.1 = 0 ∧ rung double a.2 = 0
theorem fin_zero {z : Nat} (h : rung double z = 0) : fin double z := by unfold fin; rw [h]; decide +kernel
theorem fadd_zz {x y : Nat} (hx : x < 18446744073709551616) (h : rung double x = 0) (h' : rung double y = 0) : rung double (fadd x y) = 0 := by
  rcases fadd_zero hx (fin_zero h) h' with e | ⟨e, _⟩
  · rw [e]; exact h
  · exact e
theorem zeroC_add {a b : C} (ha : ltC a) (h : zeroC a) (h' : zeroC b) : zeroC (pAdd a b) := ⟨fadd_zz ha.1 h.1 h'.1, fadd_zz ha.2 h.2 h'.2⟩
theorem fmul_zero' {y : Nat} (hf : fin double y) : rung double (fmul 0 y) = 0 := by rw [fmul_comm]; exact fmul_zero hf
theorem zeroC_mul {e : C} (hf : pFinite e = true) : zeroC (pMul (0, 0) e) := by
  unfold pFinite at hf
  rw [Bool.and_eq_true] at hf
  have f1 := fin_of_isFin hf.1
  have f2 := fin_of_isFin hf.2
  refine ⟨?_, fadd_zz (fmul_lt _ _) (fmul_zero' f2) (fmul_zero' f1)⟩
  show rung double (fsub (fmul 0 e.1) (fmul 0 e.2)) = 0
  rw [fsub_eq _ (fmul_lt _ _)]
  have h2 : rung double (fneg (fmul 0 e.2)) = 0 := by rw [rung_fneg (fmul_lt _ _) (isNaN_of_rung0 (fmul_zero' f2))]; exact fmul_zero' f2
  exact fadd_zz (fmul_lt _ _) (fmul_zero' f1) h2
theorem zq_fin {x y : Nat} (h : zq x y) (hf : fin double y) : fin double x := by
  rcases h with e | ⟨e, _⟩
  · rw [e]; exact hf
  · exact fin_zero e
theorem zeroC_addl {a b e : C} (hb : ltC b) (hz : zeroC a) (h : zqC b e) (hf : pFinite e = true) : zqC (pAdd a b) e := by
  unfold pFinite at hf
  rw [Bool.and_eq_true] at hf
  have g1 := zq_fin h.1 (fin_of_isFin hf.1)
  have g2 := zq_fin h.2 (fin_of_isFin hf.2)
  rw [pAdd_comm]
  exact ⟨(fadd_zero hb.1 g1 hz.1).trans h.1, (fadd_zero hb.2 g2 hz.2).trans h.2⟩
/-- One at a single place, noughts else: the sum is what stands there. -/
theorem pick_sum {T S : Nat → C} {e : C} {p r : Nat} (hS0 : S 0 = (0, 0)) (hS : ∀ n, S (n + 1) = pAdd (S n) (T n)) (hT : ∀ n, n < r → n ≠ p → zeroC (T n)) (hp : zqC (T p) e) (hl : ∀ n, ltC (T n)) (hf : pFinite e = true) (n : Nat) (hn : n ≤ r) :
    ltC (S n) ∧ (n ≤ p → zeroC (S n)) ∧ (p < n → zqC (S n) e) := by
  induction n with
  | zero => exact ⟨by rw [hS0]; exact ⟨by decide, by decide⟩, fun _ => by rw [hS0]; exact ⟨by decide, by decide⟩, fun h => absurd h (Nat.not_lt_zero _)⟩
  | succ n ih =>
    obtain ⟨i0, i1, i2⟩ := ih (by omega)
    refine ⟨by rw [hS]; exact ltC_add _ _, fun h => ?_, fun h => ?_⟩
    · rw [hS]; exact zeroC_add i0 (i1 (by omega)) (hT n (by omega) (by omega))
    · rw [hS]
      rcases Nat.lt_or_ge p n with h1 | h1
      · rw [pAdd_comm]; exact zeroC_addl i0 (hT n (by omega) (by omega)) (i2 h1) hf
      · have e1 : n = p := by omega
        subst e1
        exact zeroC_addl (hl n) (i1 (Nat.le_refl _)) hp hf
theorem dot_idl {zi l : List C} {r c i j : Nat} (hi : i < r) (h0 : ltCs l) (ei : ∀ n, n < r → ent zi r i n = idE i n) (hf : ∀ n, n < r → pFinite (ent l c n j) = true) : zqC (dot zi l r c i j r) (ent l c i j) := by
  refine ((pick_sum (T := fun n => pMul (ent zi r i n) (ent l c n j)) (S := fun n => dot zi l r c i j n) (e := ent l c i j) (p := i) (r := r) rfl (fun n => rfl) ?_ ?_ (fun n => ltC_mul _ _) (hf i hi)) r (Nat.le_refl _)).2.2 hi
  · intro n hn hne
    show zeroC (pMul (ent zi r i n) (ent l c n j))
    rw [ei n hn]
    unfold idE
    rw [if_neg (by omega)]
    exact zeroC_mul (hf n hn)
  · show zqC (pMul (ent zi r i i) (ent l c i j)) (ent l c i j)
    rw [ei i hi]
    unfold idE
    rw [if_pos rfl, pMul_comm]
    exact mul_one (ltC_ent h0 _ _ _) (hf i hi)
theorem dot_idr {zi l : List C} {c i j : Nat} (hj : j < c) (h0 : ltCs l) (ei : ∀ n, n < c → ent zi c n j = idE n j) (hf : ∀ n, n < c → pFinite (ent l c i n) = true) : zqC (dot l zi c c i j c) (ent l c i j) := by
  refine ((pick_sum (T := fun n => pMul (ent l c i n) (ent zi c n j)) (S := fun n => dot l zi c c i j n) (e := ent l c i j) (p := j) (r := c) rfl (fun n => rfl) ?_ ?_ (fun n => ltC_mul _ _) (hf j hj)) c (Nat.le_refl _)).2.2 hj
  · intro n hn hne
    show zeroC (pMul (ent l c i n) (ent zi c n j))
    rw [ei n hn]
    unfold idE
    rw [if_neg hne, pMul_comm]
    exact zeroC_mul (hf n hn)
  · show zqC (pMul (ent l c i j) (ent zi c j j)) (ent l c i j)
    rw [ei j hj]
    unfold idE
    rw [if_pos rfl]
    exact mul_one (ltC_ent h0 _ _ _) (hf j hj)
/-- A finite number less itself. -/
theorem sub_self_zero {a : C} (ha : ltC a) (hf : pFinite a = true) : feq .f64 (pSub a a).1 0 = true ∧ feq .f64 (pSub a a).2 0 = true := by
  unfold pFinite at hf
  rw [Bool.and_eq_true] at hf
  exact ⟨(sub_self_eq a.1 ha.1).trans hf.1, (sub_self_eq a.2 ha.2).trans hf.2⟩
end Go.Proofs.Ytajdfbjjgjpicaa
