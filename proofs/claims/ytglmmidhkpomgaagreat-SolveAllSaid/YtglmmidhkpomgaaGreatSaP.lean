/- Layer 10: both sides of an elimination: what each call tells of any right side (SolveAll). -/
import Derived.Test.YtglmmidhkpomgaaGreatRQ5
import Derived.Test.YtglmmidhkpomgaaGreatT13
import Derived.Test.YtglmmidhkpomgaaGreatApB
import Derived.Test.YtglmmidhkpomgaaGreatOvB
namespace Go.Proofs.YtglmmidhkpomgaaGreat
open Go.RowKit Fl Ieee
set_option maxRecDepth 20000
attribute [local go_sem] run_store_float run_store_complex Fl.order_self Fl.order_self' Fl.order_eq Fl.order_ne Fl.order_lt Fl.order_gt
/-- Both eliminated, or both refused. -/
structure PairK (W : World) (va vb : Value) (k : Bool) (n : Nat) (S : El) : Prop where
  yes : k = true → ∃ B1 b1 B2 b2 ti, va = .pointer (some ⟨b1, 0, none⟩) ∧ vb = .pointer (some ⟨b2, 0, none⟩) ∧ Has9 W B1 b1 n S ∧ rHas W B2 b2 n S ti
  no : k = false → va = .pointer none ∧ vb = .pointer none
  fin : k = true → finTo S.E n ∧ Perm n S.o ∧ n ≤ 64 ∧ ∀ i, i < n → HomeIn (uppE S i i)
theorem PairK.below {W V : World} {va vb : Value} {k : Bool} {n : Nat} {S : El} (h : PairK W va vb k n S) (hb : Below W.heap.size W V) : PairK V va vb k n S where
  yes hk := by
    obtain ⟨B1, b1, B2, b2, ti, h1, h2, h3, h4⟩ := h.yes hk
    exact ⟨B1, b1, B2, b2, ti, h1, h2, h3.below hb, h4.below hb⟩
  no := h.no
  fin := h.fin
def pkE (k ok : Bool) (n : Nat) (l : List C) : Int := if k then mErr ok n l else 1
def pkL (k ok : Bool) (n : Nat) (l L : List C) : List C := if k then mLst ok n l L else []
theorem badAt_cn {l m : List C} (h : m.map cnC = l.map cnC) : badAt m = badAt l ∧ m.length = l.length ∧ (¬ badAt l < l.length → m = l) := by
  have hlen : m.length = l.length := by have := congrArg List.length h; simpa using this
  have hbad : ∀ k : List C, badAt k = (k.map cnC).findIdx fun z => !pFinite z := fun k => by
    unfold badAt
    rw [List.findIdx_map]
    congr 1
    funext z
    show (!pFinite z) = (!pFinite (cnC z))
    rw [show pFinite (cnC z) = pFinite z from pFin_cn z]
  have hb : badAt m = badAt l := by rw [hbad m, hbad l, h]
  have hself : ∀ k : List C, ¬ badAt k < k.length → k.map cnC = k := fun k hk =>
    (List.map_congr_left fun z hz => fin_cn (badAt_all hk z hz)).trans (List.map_id k)
  exact ⟨hb, hlen, fun hk => by rw [← hself m (by rw [hb, hlen]; exact hk), h, hself l hk]⟩
/-- What a call tells hangs on the numbers up to NaN alone. -/
theorem pk_cn {k : Bool} {n : Nat} {l m : List C} (h : m.map cnC = l.map cnC) (ok : List C → Bool) (L : List C → List C) :
    pkE k (ok m) n m = pkE k (ok l) n l ∧ pkL k (ok m) n m (L m) = pkL k (ok l) n l (L l) := by
  obtain ⟨h1, h2, h3⟩ := badAt_cn h
  by_cases hb : badAt l < l.length
  · have e : bErr n m = bErr n l := by unfold bErr; rw [h1, h2]
    have hne : bErr n l ≠ 0 := by
      unfold bErr
      rw [if_pos hb]
      split <;> decide
    unfold pkE pkL mErr mLst
    rw [e, if_neg hne, if_neg hne, if_neg hne, if_neg hne]
    exact ⟨rfl, rfl⟩
  · rw [h3 hb]
    exact ⟨rfl, rfl⟩
theorem man_cn {n : Nat} {S : El} {r c : Int} {l m : List C} (h : m.map cnC = l.map cnC) : manE n S r c m = manE n S r c l ∧ manL n S r c m = manL n S r c l := by
  obtain ⟨h1, h2, h3⟩ := badAt_cn h
  by_cases hb : badAt l < l.length
  · have e : manE n S r c m = manE n S r c l := by
      unfold manE
      rw [h1, h2, if_pos hb, if_pos hb]
    have hne : manE n S r c l ≠ 0 := by
      unfold manE
      rw [if_pos hb]
      split <;> decide
    unfold manL
    rw [e, if_neg hne, if_neg hne]
    exact ⟨rfl, rfl⟩
  · rw [h3 hb]
    exact ⟨rfl, rfl⟩
theorem RetSol.lst {er : Int} {l : List C} {w w' : World} {e : Ending} (h : RetSol er l w e w') : ∃ A c, e = .returned (.tuple #[.slice A l.length c, .int .i64 er]) ∧ Lst w' w.heap.size w'.heap.size A l c ∧ Below w.heap.size w w' := by
  obtain ⟨s, rfl, ho, hb⟩ := h
  obtain ⟨A, m, c, rfl, rfl⟩ := slice_of_own ho
  exact ⟨A, c, rfl, ⟨ho, fun b hb => (ho.lt b hb).2⟩, hb⟩
theorem ret_nil {er : Int} {P : Program} {f : FuncId} {args : Array Value} {w : World} (h : Calls P f args w fun e w' => e = .returned (.tuple #[.slice none 0 0, .int .i64 er]) ∧ Below w.heap.size w w') : Calls P f args w (RetSol er [] w) :=
  h.mono fun _ _ ⟨he, hb⟩ => ⟨_, he, World.ownsRow_nil _ _ _ _, hb⟩
section
variable {W : World} {va vb : Value} {k : Bool} {n : Nat} {S : El}
theorem PairK.solve (h : PairK W va vb k n S) (A : Option Addr) (bl : List C) (cap : Nat) (hl : bl.length ≤ 4611686018427387904) (hlt : ltCs bl) (hrd : Reads W W.heap.size A (nums bl)) :
    Calls Tryz.prog 24 #[va, .slice A bl.length cap] W (RetSol (pkE k (solOk n S bl) n bl) (pkL k (solOk n S bl) n bl (solL n S bl)) W) := by
  cases k
  · obtain ⟨rfl, -⟩ := h.no rfl
    exact ret_nil (Solve_no W (.inl rfl))
  · obtain ⟨B1, b1, B2, b2, ti, rfl, rfl, h1, h2⟩ := h.yes rfl
    obtain ⟨f1, f2, f3, -⟩ := h.fin rfl
    exact Solve_all A bl cap W h1 f1 f2 f3 hl hlt hrd
theorem PairK.trans (h : PairK W va vb k n S) (A : Option Addr) (bl : List C) (cap : Nat) (hl : bl.length ≤ 4611686018427387904) (hlt : ltCs bl) (hrd : Reads W W.heap.size A (nums bl)) :
    Calls Tryz.prog 25 #[va, .slice A bl.length cap] W (RetSol (pkE k (traOk n S bl) n bl) (pkL k (traOk n S bl) n bl (traL n S bl)) W) := by
  cases k
  · obtain ⟨rfl, -⟩ := h.no rfl
    exact ret_nil (Trans_no W (.inl rfl))
  · obtain ⟨B1, b1, B2, b2, ti, rfl, rfl, h1, h2⟩ := h.yes rfl
    obtain ⟨f1, f2, f3, -⟩ := h.fin rfl
    exact Trans_all A bl cap W h1 f1 f2 f3 hl hlt hrd
theorem PairK.rsolve (h : PairK W va vb k n S) (A : Option Addr) (bl : List C) (cap : Nat) (hl : bl.length ≤ 4611686018427387904) (hlt : ltCs bl) (hrd : Reads W W.heap.size A (nums bl)) :
    Calls Tryz.prog 26 #[vb, .slice A bl.length cap] W (RetSol (pkE k (solOk n S bl) n bl) (pkL k (solOk n S bl) n bl (solL n S bl)) W) := by
  cases k
  · obtain ⟨-, rfl⟩ := h.no rfl
    exact ret_nil (rSolve_nil _ W)
  · obtain ⟨B1, b1, B2, b2, ti, rfl, rfl, h1, h2⟩ := h.yes rfl
    obtain ⟨f1, f2, f3, -⟩ := h.fin rfl
    exact rSolve_all A bl cap W h2 f1 f2 f3 hl hlt hrd
theorem PairK.rtrans (h : PairK W va vb k n S) (A : Option Addr) (bl : List C) (cap : Nat) (hl : bl.length ≤ 4611686018427387904) (hlt : ltCs bl) (hrd : Reads W W.heap.size A (nums bl)) :
    Calls Tryz.prog 27 #[vb, .slice A bl.length cap] W (RetSol (pkE k (traOk n S bl) n bl) (pkL k (traOk n S bl) n bl (traL n S bl)) W) := by
  cases k
  · obtain ⟨-, rfl⟩ := h.no rfl
    exact ret_nil (rTrans_nil _ W)
  · obtain ⟨B1, b1, B2, b2, ti, rfl, rfl, h1, h2⟩ := h.yes rfl
    obtain ⟨f1, f2, f3, -⟩ := h.fin rfl
    exact rTrans_all A bl cap W h2 f1 f2 f3 hl hlt hrd
def pmE (k : Bool) (n : Nat) (S : El) (r c : Int) (l : List C) : Int := if k then manE n S r c l else 1
def pmL (k : Bool) (n : Nat) (S : El) (r c : Int) (l : List C) : List C := if k then manL n S r c l else []
def pmR (k : Bool) (n : Nat) (S : El) (r c : Int) (l : List C) (x : Int) : Int := if k then manR n S r c l x else 0
theorem pm_cn {r c x : Int} {l m : List C} (h : m.map cnC = l.map cnC) : pmE k n S r c m = pmE k n S r c l ∧ pmL k n S r c m = pmL k n S r c l ∧ pmR k n S r c m x = pmR k n S r c l x := by
  obtain ⟨h1, h2⟩ := man_cn (n := n) (S := S) (r := r) (c := c) h
  unfold pmE pmL pmR manR
  rw [h1, h2]
  exact ⟨rfl, rfl, rfl⟩
theorem PairK.many (h : PairK W va vb k n S) (r c : Int) (A : Option Addr) (l : List C) (cap : Nat) (hlt : ltCs l) (hrd : Reads W W.heap.size A (nums l)) :
    Calls Tryz.prog 8 #[va, mval r c (.slice A l.length cap)] W (RetMy (pmE k n S r c l) (pmR k n S r c l r) (pmR k n S r c l c) (pmL k n S r c l) W) := by
  cases k
  · obtain ⟨rfl, -⟩ := h.no rfl
    exact (Many_no W (.inl rfl)).mono fun e w' ⟨he, hb⟩ => ⟨none, 0, he, lst_nil _ _ _, hb⟩
  · obtain ⟨B1, b1, B2, b2, ti, rfl, rfl, h1, h2⟩ := h.yes rfl
    obtain ⟨f1, f2, f3, -⟩ := h.fin rfl
    exact Many_all r c A l cap W h1 f1 f2 f3 hlt hrd
theorem PairK.rmany (h : PairK W va vb k n S) (r c : Int) (A : Option Addr) (l : List C) (cap : Nat) (hlt : ltCs l) (hrd : Reads W W.heap.size A (nums l)) :
    Calls Tryz.prog 9 #[vb, mval r c (.slice A l.length cap)] W (RetMy (pmE k n S r c l) (pmR k n S r c l r) (pmR k n S r c l c) (pmL k n S r c l) W) := by
  cases k
  · obtain ⟨-, rfl⟩ := h.no rfl
    exact rMany_nil r c A l.length cap W
  · obtain ⟨B1, b1, B2, b2, ti, rfl, rfl, h1, h2⟩ := h.yes rfl
    obtain ⟨f1, f2, f3, -⟩ := h.fin rfl
    exact rMany_all r c A l cap W h2 f1 f2 f3 hlt hrd
def pdV (k : Bool) (n : Nat) (S : El) : C := if k then detD S (dmF (fun i => uppE S i i) n) else (0, 0)
def pdK (k : Bool) (n : Nat) (S : El) : Int := if k then deF (fun i => uppE S i i) n else 0
def pdE (k : Bool) : Int := if k then 0 else 1
def RetDt (v : C) (p er : Int) (w : World) (e : Ending) (w' : World) : Prop := e = .returned (.tuple #[.complex .f64 v.1 v.2, .int .i64 p, .int .i64 er]) ∧ Below w.heap.size w w'
theorem PairK.det (h : PairK W va vb k n S) : Calls Tryz.prog 12 #[va] W (RetDt (pdV k n S) (pdK k n S) (pdE k) W) := by
  cases k
  · obtain ⟨rfl, -⟩ := h.no rfl
    exact Det_no W (.inl rfl)
  · obtain ⟨B1, b1, B2, b2, ti, rfl, rfl, h1, h2⟩ := h.yes rfl
    obtain ⟨f1, f2, f3, f4⟩ := h.fin rfl
    exact Det_c W h1 f1 f3 (det_any f4) (fun i hi => (dm_in f4 i hi).lt)
theorem PairK.rdet (h : PairK W va vb k n S) : Calls Tryz.prog 13 #[vb] W (RetDt (pdV k n S) (pdK k n S) (pdE k) W) := by
  cases k
  · obtain ⟨-, rfl⟩ := h.no rfl
    exact rDet_nil W
  · obtain ⟨B1, b1, B2, b2, ti, rfl, rfl, h1, h2⟩ := h.yes rfl
    obtain ⟨f1, f2, f3, f4⟩ := h.fin rfl
    exact rDet_c W h2 f1 f3 (fun i hi V => rhome_any _ (f4 i hi) V) (fun i hi V => rhome_any _ (hm_prod (dm_in f4 i (by omega)) (hval_in (f4 i hi))) V) (det_any f4) (fun i hi => (dm_in f4 i hi).lt)
end
end Go.Proofs.YtglmmidhkpomgaaGreat
