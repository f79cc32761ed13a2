/- Layer 10, SolveMirrors: whatever the right side; both sides of the mirror. -/
import Derived.Test.YtglmmidhkpomgaaT18
namespace Go.Proofs.Ytglmmidhkpomgaa
open Go.RowKit Fl Ieee
set_option maxRecDepth 20000
attribute [local go_sem] run_store_float run_store_complex Fl.order_self Fl.order_self' Fl.order_eq Fl.order_ne Fl.order_lt Fl.order_gt
/-- What is told of any right side. -/
def mErr (ok : Bool) (n : Nat) (bl : List C) : Int := if bErr n bl = 0 then (if ok then 0 else 6) else bErr n bl
def mLst (ok : Bool) (n : Nat) (bl L : List C) : List C := if bErr n bl = 0 then (if ok then L else []) else []
theorem bErr_ok {n : Nat} {bl : List C} (hE : bErr n bl = 0) : bl.length = n ∧ ∀ z ∈ bl, pFinite z = true := by
  by_cases h : bl.length = n
  · refine ⟨h, ?_⟩
    unfold bErr at hE
    rw [if_pos h] at hE
    by_cases hb : badAt bl < bl.length
    · rw [if_pos hb] at hE; cases hE
    · exact badAt_all hb
  · unfold bErr at hE; rw [if_neg h] at hE; cases hE
theorem Solve_all {B b n : Nat} {S : El} (Ab : Option Addr) (bl : List C) (cap : Nat) (w : World) (h : Has9 w B b n S) (hf : finTo S.E n) (hp : Perm n S.o) (hn : n ≤ 64) (hl : bl.length ≤ 4611686018427387904) (hlt : ltCs bl) (hrd : Reads w w.heap.size Ab (nums bl)) :
    Calls Try.prog 13 #[.pointer (some ⟨b, 0, none⟩), .slice Ab bl.length cap] w (RetSol (mErr (solOk n S bl) n bl) (mLst (solOk n S bl) n bl (solL n S bl)) w) := by
  unfold mErr mLst
  by_cases hE : bErr n bl = 0
  · rw [if_pos hE, if_pos hE]
    obtain ⟨h1, h2⟩ := bErr_ok hE
    exact Solve_run Ab bl cap w h hf hp hn h1 h2 hlt hrd
  · rw [if_neg hE, if_neg hE]
    refine (Solve_bad Ab bl cap w h hf hn hl hlt hrd hE).mono ?_
    rintro e w' ⟨rfl, hb⟩
    exact ⟨_, rfl, World.ownsRow_nil _ _ _ _, hb⟩
theorem Trans_all {B b n : Nat} {S : El} (Ab : Option Addr) (bl : List C) (cap : Nat) (w : World) (h : Has9 w B b n S) (hf : finTo S.E n) (hp : Perm n S.o) (hn : n ≤ 64) (hl : bl.length ≤ 4611686018427387904) (hlt : ltCs bl) (hrd : Reads w w.heap.size Ab (nums bl)) :
    Calls Try.prog 30 #[.pointer (some ⟨b, 0, none⟩), .slice Ab bl.length cap] w (RetSol (mErr (traOk n S bl) n bl) (mLst (traOk n S bl) n bl (traL n S bl)) w) := by
  unfold mErr mLst
  by_cases hE : bErr n bl = 0
  · rw [if_pos hE, if_pos hE]
    obtain ⟨h1, h2⟩ := bErr_ok hE
    exact Trans_run Ab bl cap w h hf hp hn h1 h2 hlt hrd
  · rw [if_neg hE, if_neg hE]
    refine (Trans_bad Ab bl cap w h hf hn hl hlt hrd hE).mono ?_
    rintro e w' ⟨rfl, hb⟩
    exact ⟨_, rfl, World.ownsRow_nil _ _ _ _, hb⟩
theorem mr_real' {x : Nat} (h : x < 18446744073709551616) : Mr (x, 0) (x, 0) := ⟨⟨.inl rfl, .inr ⟨show rung double 0 = 0 by decide, show rung double (fneg 0) = 0 by decide +kernel⟩⟩, ⟨h, show 0 < 18446744073709551616 by decide⟩, ⟨h, show 0 < 18446744073709551616 by decide⟩⟩
theorem lowMr' {n : Nat} {S S' : El} (h : Mirr n S S') (i j : Nat) (hi : i < n) (hj : j < n) : Mr (lowE S i j) (lowE S' i j) := by
  unfold lowE
  by_cases e : i = j
  · rw [if_pos e, if_pos e]; exact mr_real' (by decide)
  · rw [if_neg e, if_neg e]
    by_cases e2 : j < i
    · rw [if_pos e2, if_pos e2]; exact h.mir i j hi hj
    · rw [if_neg e2, if_neg e2]; exact mr_real' (by decide)
theorem uppMr' {n : Nat} {S S' : El} (h : Mirr n S S') (i j : Nat) (hi : i < n) (hj : j < n) : Mr (uppE S i j) (uppE S' i j) := by
  unfold uppE
  by_cases e2 : j < i
  · rw [if_pos e2, if_pos e2]; exact mr_real' (by decide)
  · rw [if_neg e2, if_neg e2]; exact h.mir i j hi hj
theorem bErr_conj {n : Nat} {x : List C} (h : ltCs x) : bErr n (conjB x) = bErr n x := by
  unfold bErr; rw [conjB_len, badAt_conj h]
theorem bOf_conj {n : Nat} {x : List C} (h : ltCs x) (hx : x.length = n) (hf : ∀ z ∈ x, pFinite z = true) (i : Nat) (hi : i < n) : Mr (bOf x i) (bOf (conjB x) i) := by
  obtain ⟨z, hz⟩ := some_of_lt (l := x) (k := i) (by omega)
  have e1 : bOf x i = z := by unfold bOf; rw [List.getD_eq_getElem?_getD, hz]; rfl
  have e2 : bOf (conjB x) i = (z.1, flip double z.2) := by
    unfold bOf conjB
    rw [List.getD_eq_getElem?_getD, List.getElem?_map, hz]; rfl
  have hm := List.mem_of_getElem? hz
  obtain ⟨-, -, -, n2, -, -⟩ := fin_parts (hf z hm)
  have hl := h z hm
  rw [e1, e2]
  exact ⟨⟨.inl rfl, .inl (by show flip double z.2 = fneg z.2; rw [fneg_of_not n2])⟩, hl, ⟨hl.1, flip_lt64 hl.2⟩⟩
theorem lists_mir {n : Nat} {f g : Nat → C} (hm : ∀ k, k < n → Mr (f k) (g k)) (hf : ∀ k, k < n → pFinite (f k) = true) :
    ∀ (k : Nat) (x y : C), ((List.range n).map g)[k]? = some x → (conjB ((List.range n).map f))[k]? = some y → pEqual (cnC x) (cnC y) = true := fun k x y hx hy => by
  have hk : k < n := by have := lt_of_some hx; simpa using this
  have e1 : x = g k := by
    rw [List.getElem?_map, List.getElem?_range hk] at hx
    exact (Option.some.inj hx).symm
  have e2 : y = ((f k).1, flip double (f k).2) := by
    unfold conjB at hy
    rw [List.getElem?_map, List.getElem?_map, List.getElem?_range hk] at hy
    exact (Option.some.inj hy).symm
  subst e1 e2
  have h := hm k hk
  have h1 := hf k hk
  have h2 : pFinite (g k) = true := h.finite.trans h1
  obtain ⟨-, -, m1, m2, -, -⟩ := fin_parts h2
  obtain ⟨-, -, n1, n2, -, -⟩ := fin_parts h1
  have e3 : cnC ((f k).1, flip double (f k).2) = pConj (f k) := by
    show (cn .f64 (f k).1, cn .f64 (flip double (f k).2)) = ((f k).1, fneg (f k).2)
    have hh := cn_flip h.2.1.2
    rw [cn_of_not (k := .f64) n1, hh, cn_of_not (k := .f64) n2]
  rw [fin_cn h2, e3]
  exact zqC.equal h.1 m1 m2
/-- What both sides tell of a right side and its conjugate. -/
structure MirB (n : Nat) (S S' : El) (x : List C) : Prop where
  se : mErr (solOk n S' (conjB x)) n (conjB x) = mErr (solOk n S x) n x
  te : mErr (traOk n S' (conjB x)) n (conjB x) = mErr (traOk n S x) n x
  sl : (mLst (solOk n S' (conjB x)) n (conjB x) (solL n S' (conjB x))).length = (mLst (solOk n S x) n x (solL n S x)).length
  tl : (mLst (traOk n S' (conjB x)) n (conjB x) (traL n S' (conjB x))).length = (mLst (traOk n S x) n x (traL n S x)).length
  sv : ∀ (k : Nat) (p q : C), (mLst (solOk n S' (conjB x)) n (conjB x) (solL n S' (conjB x)))[k]? = some p → (conjB (mLst (solOk n S x) n x (solL n S x)))[k]? = some q → pEqual (cnC p) (cnC q) = true
  tv : ∀ (k : Nat) (p q : C), (mLst (traOk n S' (conjB x)) n (conjB x) (traL n S' (conjB x)))[k]? = some p → (conjB (mLst (traOk n S x) n x (traL n S x)))[k]? = some q → pEqual (cnC p) (cnC q) = true
  sn : (mLst (solOk n S x) n x (solL n S x)).length ≤ n
  tn : (mLst (traOk n S x) n x (traL n S x)).length ≤ n
theorem mirB {n : Nat} {S S' : El} {x : List C} (hM : Mirr n S S') (hd : ∀ i, i < n → pZero (S.E i i) = false) (hp : Perm n S.o) (hx : ltCs x) : MirB n S S' x := by
  have hud : ∀ i, i < n → pFinite (uppE S i i) = true ∧ pZero (uppE S i i) = false := fun i hi => by
    have e : uppE S i i = S.E i i := by unfold uppE; rw [if_neg (Nat.lt_irrefl _)]
    rw [e]; exact ⟨hM.fin i i hi hi, hd i hi⟩
  by_cases hE : bErr n x = 0
  · obtain ⟨h1, h2⟩ := bErr_ok hE
    have hE' : bErr n (conjB x) = 0 := (bErr_conj hx).trans hE
    have hb := bOf_conj hx h1 h2
    obtain ⟨s1, s2⟩ := sol_mir (n := n) (lowMr' hM) (uppMr' hM) hud (o := S.o) (b := bOf x) (b' := bOf (conjB x)) (fun i hi => hb _ (hp.1 i hi))
    obtain ⟨t1, t2⟩ := tra_mir (n := n) (lowMr' hM) (uppMr' hM) hud (o := S.o) (b := bOf x) (b' := bOf (conjB x)) hb
    have eo : solOk n S' (conjB x) = solOk n S x := by unfold solOk; rw [hM.o]; exact s2
    have et : traOk n S' (conjB x) = traOk n S x := t2
    have ls : solL n S' (conjB x) = (List.range n).map (solX (lowE S') (uppE S') S.o (bOf (conjB x)) n) := by unfold solL; rw [hM.o]
    have lt : traL n S' (conjB x) = (List.range n).map (traX (lowE S') (uppE S') S.o (bOf (conjB x)) n) := by unfold traL; rw [hM.o]
    constructor
    · unfold mErr; rw [if_pos hE', if_pos hE, eo]
    · unfold mErr; rw [if_pos hE', if_pos hE, et]
    · unfold mLst; rw [if_pos hE', if_pos hE, eo]; cases solOk n S x <;> simp [solL]
    · unfold mLst; rw [if_pos hE', if_pos hE, et]; cases traOk n S x <;> simp [traL]
    · unfold mLst; rw [if_pos hE', if_pos hE, eo]
      cases hso : solOk n S x with
      | false => intro k p q h; cases h
      | true => rw [if_pos rfl, if_pos rfl, ls]; exact lists_mir s1 (sol_fin hso)
    · unfold mLst; rw [if_pos hE', if_pos hE, et]
      cases hso : traOk n S x with
      | false => intro k p q h; cases h
      | true => rw [if_pos rfl, if_pos rfl, lt]; exact lists_mir t1 (fun k _ => tra_fin hso k)
    · unfold mLst; rw [if_pos hE]; cases solOk n S x <;> simp [solL]
    · unfold mLst; rw [if_pos hE]; cases traOk n S x <;> simp [traL]
  · have hE' : ¬ bErr n (conjB x) = 0 := fun e => hE ((bErr_conj hx).symm.trans e)
    constructor
    · unfold mErr; rw [if_neg hE', if_neg hE, bErr_conj hx]
    · unfold mErr; rw [if_neg hE', if_neg hE, bErr_conj hx]
    · unfold mLst; rw [if_neg hE', if_neg hE]
    · unfold mLst; rw [if_neg hE', if_neg hE]
    · unfold mLst; rw [if_neg hE', if_neg hE]; intro k p q h; cases h
    · unfold mLst; rw [if_neg hE', if_neg hE]; intro k p q h; cases h
    · unfold mLst; rw [if_neg hE]; exact Nat.zero_le _
    · unfold mLst; rw [if_neg hE]; exact Nat.zero_le _
/-- The determinant, and its mirror. -/
structure MirD (n : Nat) (S S' : El) (d d' : C) (k : Int) : Prop where
  one : 4607182418800017408 ≤ max (rung double d.1) (rung double d.2)
  f1 : rung double d.1 < 4611686018427387904
  f2 : rung double d.2 < 4611686018427387904
  e1 : feq .f64 d'.1 d.1 = true
  e2 : feq .f64 d'.2 (flip double d.2) = true
  lt : ltC d
theorem rung_flip64 {x : Nat} (h : x < 18446744073709551616) : rung double (flip double x) = rung double x := rung_flip (f := double) h
theorem mirD {n : Nat} {S S' : El} (hM : Mirr n S S') (hd : ∀ i, i < n → pZero (S.E i i) = false) (hl : ∀ i, i < n → ltC (S.E i i)) :
    (∀ i, i < n → HomeIn (uppE S i i)) ∧ (∀ i, i < n → HomeIn (uppE S' i i)) ∧ deF (fun i => uppE S' i i) n = deF (fun i => uppE S i i) n ∧
    MirD n S S' (detD S (dmF (fun i => uppE S i i) n)) (detD S' (dmF (fun i => uppE S' i i) n)) (deF (fun i => uppE S i i) n) := by
  have hU : ∀ i, i < n → HomeIn (uppE S i i) := fun i hi => by
    have e : uppE S i i = S.E i i := by unfold uppE; rw [if_neg (Nat.lt_irrefl _)]
    rw [e]; exact ⟨hl i hi, hM.fin i i hi hi, hd i hi⟩
  have hm : ∀ i, i < n → Mr (uppE S i i) (uppE S' i i) := fun i hi => uppMr' hM i i hi hi
  have hU' : ∀ i, i < n → HomeIn (uppE S' i i) := fun i hi => (hU i hi).mir (hm i hi)
  obtain ⟨h1, h2⟩ := dm_mir (n := n) (U := fun i => uppE S i i) (U' := fun i => uppE S' i i) hU hm n (Nat.le_refl _)
  have hH := dm_in (n := n) (U := fun i => uppE S i i) hU n (Nat.le_refl _)
  have hH' := dm_in (n := n) (U := fun i => uppE S' i i) hU' n (Nat.le_refl _)
  refine ⟨hU, hU', h2, ?_⟩
  obtain ⟨z, hz⟩ : ∃ z, z = dmF (fun i => uppE S i i) n := ⟨_, rfl⟩
  obtain ⟨z', hz'⟩ : ∃ z', z' = dmF (fun i => uppE S' i i) n := ⟨_, rfl⟩
  rw [← hz, ← hz'] at h1
  rw [← hz] at hH ⊢
  rw [← hz'] at hH' ⊢
  have hi : double.infRung = 9218868437227405312 := by decide
  have nn : ∀ {x : Nat}, rung double x < 4611686018427387904 → isNaN double x = false := fun h => decide_eq_false (by rw [hi]; omega)
  have zf : ∀ {x y : Nat}, zq x y → rung double x < 4611686018427387904 → feq .f64 x y = true := fun h hx => h.feq (nn hx)
  have fl : ∀ {x : Nat}, x < 18446744073709551616 → rung double x < 4611686018427387904 → fneg x = flip double x := fun _ h => fneg_of_not (nn h)
  have r1 := rung_flip64 hH.lt.1
  have r2 := rung_flip64 hH.lt.2
  have r1' := rung_flip64 hH'.lt.1
  have r2' := rung_flip64 hH'.lt.2
  have q1 : zq z'.1 z.1 := h1.1.1
  have q2 : zq z'.2 (fneg z.2) := h1.1.2
  unfold detD
  rw [hM.s]
  cases S.s with
  | false =>
    refine ⟨?_, hH.f1, hH.f2, zf q1 hH'.f1, ?_, hH.lt⟩
    · rcases hH.one with h | h <;> (show _ ≤ max (rung double z.1) (rung double z.2)) <;> omega
    · show feq .f64 z'.2 (flip double z.2) = true
      rw [← fl hH.lt.2 hH.f2]; exact zf q2 hH'.f2
  | true =>
    refine ⟨?_, ?_, ?_, ?_, ?_, ⟨flip_lt64 hH.lt.1, flip_lt64 hH.lt.2⟩⟩
    · show _ ≤ max (rung double (flip double z.1)) (rung double (flip double z.2))
      rw [r1, r2]
      rcases hH.one with h | h <;> omega
    · show rung double (flip double z.1) < _
      rw [r1]; exact hH.f1
    · show rung double (flip double z.2) < _
      rw [r2]; exact hH.f2
    · show feq .f64 (flip double z'.1) (flip double z.1) = true
      rw [← fl hH.lt.1 hH.f1, ← fl hH'.lt.1 hH'.f1]
      exact zf (q1.fneg hH'.lt.1 hH.lt.1) (by rw [fl hH'.lt.1 hH'.f1, r1']; exact hH'.f1)
    · show feq .f64 (flip double z'.2) (flip double (flip double z.2)) = true
      have e := q2.fneg hH'.lt.2 (fneg_lt hH.lt.2)
      rw [fl hH.lt.2 hH.f2, fl hH'.lt.2 hH'.f2, fl (flip_lt64 hH.lt.2) (by rw [r2]; exact hH.f2)] at e
      exact zf e (by rw [r2']; exact hH'.f2)
end Go.Proofs.Ytglmmidhkpomgaa
