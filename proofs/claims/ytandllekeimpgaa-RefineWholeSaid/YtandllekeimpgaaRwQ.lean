/- Layer 11: what is left of whole parts: the lists. -/
import Derived.Test.YtandllekeimpgaaRwA
import Derived.Test.YtandllekeimpgaaMX1
namespace Go.Proofs.Ytandllekeimpgaa
open Fl Ieee Go
def smC (p : Int × Int) : C := (FloatKind.f64.nearest (p.1.tmod 1048576), FloatKind.f64.nearest (p.2.tmod 1048576))
def rgC (p : Int × Int) : C := (FloatKind.f64.nearest p.1, FloatKind.f64.nearest p.2)
def smL (l : List (Int × Int)) (n : Nat) : List C := (List.range n).map fun i => smC (pAt l i)
def rgL (l : List (Int × Int)) (n : Nat) : List C := (List.range n).map fun i => rgC (pAt l i)
theorem smL_len (l : List (Int × Int)) (n : Nat) : (smL l n).length = n := by unfold smL; simp
theorem rgL_len (l : List (Int × Int)) (n : Nat) : (rgL l n).length = n := by unfold rgL; simp
theorem tmod_small (x : Int) : (x.tmod 1048576).natAbs ≤ 1048576 := by
  rw [Int.natAbs_tmod]
  exact Nat.le_of_lt (Nat.mod_lt _ (by decide))
theorem wh_sm (p : Int × Int) : Wh (smC p) (p.1.tmod 1048576) (p.2.tmod 1048576) ∧ (p.1.tmod 1048576).natAbs ≤ 1048576 ∧ (p.2.tmod 1048576).natAbs ≤ 1048576 :=
  ⟨⟨ex_nearest (by have := tmod_small p.1; omega), ex_nearest (by have := tmod_small p.2; omega)⟩, tmod_small _, tmod_small _⟩
theorem wf_small {x : Int} (h : (Lit.int .i32 x).wf = true) : x.natAbs ≤ 2147483648 := by
  have h1 : IntKind.i32.min = -2147483648 := by decide
  have h2 : IntKind.i32.max = 2147483647 := by decide
  simp [Lit.wf] at h
  omega
theorem wh_rg {p : Int × Int} (h : (Lit.int .i32 p.1).wf = true ∧ (Lit.int .i32 p.2).wf = true) : Wh (rgC p) p.1 p.2 ∧ p.1.natAbs ≤ 2147483648 ∧ p.2.natAbs ≤ 2147483648 :=
  ⟨⟨ex_nearest (by have := wf_small h.1; omega), ex_nearest (by have := wf_small h.2; omega)⟩, wf_small h.1, wf_small h.2⟩
theorem pAt_wf {l : List (Int × Int)} (h : wfs l) (i : Nat) : (Lit.int .i32 (pAt l i).1).wf = true ∧ (Lit.int .i32 (pAt l i).2).wf = true := by
  rcases Nat.lt_or_ge i l.length with hi | hi
  · obtain ⟨p, hp⟩ := some_of_lt (l := l) (k := i) hi
    have e : pAt l i = p := by unfold pAt; rw [List.getD_eq_getElem?_getD, hp]; rfl
    rw [e]; exact h p (List.mem_of_getElem? hp)
  · have e : pAt l i = (0, 0) := by unfold pAt; rw [List.getD_eq_getElem?_getD, List.getElem?_eq_none hi]; rfl
    rw [e]; exact ⟨by decide, by decide⟩
theorem smL_lt (l : List (Int × Int)) (n : Nat) : ltCs (smL l n) := fun z hz => by
  unfold smL at hz
  obtain ⟨i, -, rfl⟩ := List.mem_map.1 hz
  exact ⟨(wh_sm _).1.re.1, (wh_sm _).1.im.1⟩
theorem rgL_lt {l : List (Int × Int)} (h : wfs l) (n : Nat) : ltCs (rgL l n) := fun z hz => by
  unfold rgL at hz
  obtain ⟨i, -, rfl⟩ := List.mem_map.1 hz
  exact ⟨(wh_rg (pAt_wf h i)).1.re.1, (wh_rg (pAt_wf h i)).1.im.1⟩
theorem smL_at {l : List (Int × Int)} {n i : Nat} (h : i < n) : (smL l n)[i]? = some (smC (pAt l i)) := by unfold smL; rw [List.getElem?_map, List.getElem?_range h]; rfl
theorem rgL_at {l : List (Int × Int)} {n i : Nat} (h : i < n) : (rgL l n)[i]? = some (rgC (pAt l i)) := by unfold rgL; rw [List.getElem?_map, List.getElem?_range h]; rfl
theorem atL_some {l : List C} {i : Nat} {z : C} (h : l[i]? = some z) : atL l i = z := by unfold atL; rw [List.getD_eq_getElem?_getD, h]; rfl
theorem Wh.fin {z : C} {p q : Int} (h : Wh z p q) : pFinite z = true := by
  have h1 := h.re.2.1
  have h2 := h.im.2.1
  unfold pFinite
  rw [Bool.and_eq_true]
  exact ⟨decide_eq_true h1, decide_eq_true h2⟩
theorem pFin_neg {z : C} {p q : Int} (h : Wh z p q) : pFinite (pNeg z) = true := by
  have h1 : Wh (pNeg z) (-p) (-q) := ⟨h.re.neg, h.im.neg⟩
  exact h1.fin
/-- The whole parts of the matrix, of the answer. -/
def qP (l : List (Int × Int)) (s : Nat) (k : Nat) : Int := (pAt l (s + k)).1.tmod 1048576
def qQ (l : List (Int × Int)) (s : Nat) (k : Nat) : Int := (pAt l (s + k)).2.tmod 1048576
theorem idx_lt {i k R C N : Nat} (hN : N = R * C) (hi : i < R) (hk : k < C) : i * C + k < N := by
  have h1 : (i + 1) * C ≤ R * C := Nat.mul_le_mul_right _ hi
  rw [Nat.add_mul, Nat.one_mul] at h1
  omega
/-- What stands where the lists are those of the statement, or both turned about. -/
structure Lists (R C N : Nat) (l0 l1 l2 : List (Int × Int)) (m x : List Fl.C) (t : Fl.C → Fl.C) : Prop where
  hN : N = R * C
  hR : R < 6
  hC : C < 33
  wf : wfs l2
  ml : m.length = N
  xl : x.length = C
  ma : ∀ i, i < N → m[i]? = some (t (smC (pAt l0 i)))
  xa : ∀ i, i < C → x[i]? = some (t (smC (pAt l1 i)))
  tf : ∀ p, pFinite (t (smC p)) = true
theorem lists_all {l : List C} {t : C → C} {lp : List (Int × Int)} {n : Nat} (hl : l.length = n) (ha : ∀ i, i < n → l[i]? = some (t (smC (pAt lp i)))) (tf : ∀ p, pFinite (t (smC p)) = true) : l.all pFinite = true :=
  List.all_eq_true.2 fun z hz => by
    obtain ⟨i, hi⟩ := List.getElem?_of_mem hz
    have hlt := lt_of_some hi
    rw [ha i (by omega)] at hi
    rw [← Option.some.inj hi]; exact tf _
theorem rgL_all {l : List (Int × Int)} (h : wfs l) (n : Nat) : (rgL l n).all pFinite = true := List.all_eq_true.2 fun z hz => by
  unfold rgL at hz
  obtain ⟨i, -, rfl⟩ := List.mem_map.1 hz
  exact (wh_rg (pAt_wf h i)).1.fin
theorem whole_row {R C N : Nat} {l0 l1 l2 : List (Int × Int)} {m x : List Fl.C} {t : Fl.C → Fl.C} (h : Lists R C N l0 l1 l2 m x t) (ht : t = id ∨ t = pNeg) {i : Nat} (hi : i < R) :
    Wh (leftAt (fun k => atL m (i * C + k)) (atL x) (atL (rgL l2 R) i) C) (wre (qP l0 (i * C)) (qQ l0 (i * C)) (qP l1 0) (qQ l1 0) (pAt l2 i).1 C) (wim (qP l0 (i * C)) (qQ l0 (i * C)) (qP l1 0) (qQ l1 0) (pAt l2 i).2 C) ∧
    leftAt (fun k => atL m (i * C + k)) (atL x) (atL (rgL l2 R) i) C = leftAt (fun k => smC (pAt l0 (i * C + k))) (fun k => smC (pAt l1 k)) (rgC (pAt l2 i)) C := by
  have hr := wh_rg (pAt_wf h.wf i)
  have er : atL (rgL l2 R) i = rgC (pAt l2 i) := atL_some (rgL_at hi)
  have hRw : ∀ k, k < C → Wh ((fun k => smC (pAt l0 (i * C + k))) k) (qP l0 (i * C) k) (qQ l0 (i * C) k) ∧ (qP l0 (i * C) k).natAbs ≤ 1048576 ∧ (qQ l0 (i * C) k).natAbs ≤ 1048576 := fun k _ => wh_sm _
  have hXw : ∀ k, k < C → Wh ((fun k => smC (pAt l1 k)) k) (qP l1 0 k) (qQ l1 0 k) ∧ (qP l1 0 k).natAbs ≤ 1048576 ∧ (qQ l1 0 k).natAbs ≤ 1048576 := fun k _ => by
    have := wh_sm (pAt l1 k)
    unfold qP qQ
    rw [Nat.zero_add]; exact this
  have eM : ∀ k, k < C → atL m (i * C + k) = t (smC (pAt l0 (i * C + k))) := fun k hk => atL_some (h.ma _ (idx_lt h.hN hi hk))
  have eX : ∀ k, k < C → atL x k = t (smC (pAt l1 k)) := fun k hk => atL_some (h.xa k hk)
  have e : leftAt (fun k => atL m (i * C + k)) (atL x) (rgC (pAt l2 i)) C = leftAt (fun k => smC (pAt l0 (i * C + k))) (fun k => smC (pAt l1 k)) (rgC (pAt l2 i)) C := by
    rcases ht with rfl | rfl
    · exact left_congr eM eX
    · exact left_turned hRw hXw eM eX
  rw [er, e]
  exact ⟨left_whole hRw hXw hr.1 hr.2.1 hr.2.2 (by have := h.hC; omega), rfl⟩
theorem whole_left {R C N : Nat} {l0 l1 l2 : List (Int × Int)} {m x : List Fl.C} {t : Fl.C → Fl.C} (h : Lists R C N l0 l1 l2 m x t) (ht : t = id ∨ t = pNeg) :
    leftE R C m x (rgL l2 R) = 0 ∧ leftR R C m x (rgL l2 R) = (List.range R).map fun i => leftAt (fun k => smC (pAt l0 (i * C + k))) (fun k => smC (pAt l1 k)) (rgC (pAt l2 i)) C := by
  have hL : leftL R C m x (rgL l2 R) = (List.range R).map fun i => leftAt (fun k => smC (pAt l0 (i * C + k))) (fun k => smC (pAt l1 k)) (rgC (pAt l2 i)) C := by
    unfold leftL
    exact List.map_congr_left fun i hi => (whole_row h ht (List.mem_range.1 hi)).2
  have hs : shape11 R C m x (rgL l2 R) = true := by
    unfold shape11
    simp only [Bool.and_eq_true, decide_eq_true_eq]
    refine ⟨⟨okM_iff.2 ⟨by omega, by have := h.hR; omega, by omega, by have := h.hC; omega, by rw [h.ml, h.hN, Int.natCast_mul]⟩, by rw [h.xl]⟩, by rw [rgL_len]⟩
  have hn : num11 m x (rgL l2 R) = true := by
    unfold num11
    rw [lists_all h.ml h.ma h.tf, lists_all h.xl h.xa h.tf, rgL_all h.wf]; rfl
  have hf : (leftL R C m x (rgL l2 R)).all pFinite = true := List.all_eq_true.2 fun z hz => by
    unfold leftL at hz
    obtain ⟨i, hi, rfl⟩ := List.mem_map.1 hz
    exact (whole_row h ht (List.mem_range.1 hi)).1.fin
  have he : leftE R C m x (rgL l2 R) = 0 := by
    unfold leftE
    rw [if_pos hs, if_pos hn]
    simp only [Int.toNat_natCast]
    rw [if_pos hf]
  refine ⟨he, ?_⟩
  unfold leftR
  rw [if_pos he]
  simp only [Int.toNat_natCast]
  exact hL
theorem whole_at {C : Nat} {l0 l1 l2 : List (Int × Int)} (hC : C < 33) (wf2 : wfs l2) (i : Nat) :
    Wh (leftAt (fun k => smC (pAt l0 (i * C + k))) (fun k => smC (pAt l1 k)) (rgC (pAt l2 i)) C) (wre (qP l0 (i * C)) (qQ l0 (i * C)) (qP l1 0) (qQ l1 0) (pAt l2 i).1 C) (wim (qP l0 (i * C)) (qQ l0 (i * C)) (qP l1 0) (qQ l1 0) (pAt l2 i).2 C) := by
  have hr := wh_rg (pAt_wf wf2 i)
  refine left_whole (fun k _ => wh_sm _) (fun k _ => ?_) hr.1 hr.2.1 hr.2.2 (by omega)
  have := wh_sm (pAt l1 k)
  unfold qP qQ
  rw [Nat.zero_add]; exact this
theorem row_bd (l0 l1 : List (Int × Int)) (s : Nat) {ri rj : Int} (hi : ri.natAbs ≤ 2147483648) (hj : rj.natAbs ≤ 2147483648) :
    ∀ k, (wre (qP l0 s) (qQ l0 s) (qP l1 0) (qQ l1 0) ri k).natAbs ≤ 2147483648 + k * 2199023255552 ∧ (wim (qP l0 s) (qQ l0 s) (qP l1 0) (qQ l1 0) rj k).natAbs ≤ 2147483648 + k * 2199023255552
  | 0 => ⟨by show ri.natAbs ≤ _; omega, by show rj.natAbs ≤ _; omega⟩
  | k + 1 => by
    obtain ⟨h1, h2⟩ := row_bd l0 l1 s hi hj k
    have b1 := prod_le (tmod_small (pAt l0 (s + k)).1) (tmod_small (pAt l1 (0 + k)).1)
    have b2 := prod_le (tmod_small (pAt l0 (s + k)).2) (tmod_small (pAt l1 (0 + k)).2)
    have b3 := prod_le (tmod_small (pAt l0 (s + k)).1) (tmod_small (pAt l1 (0 + k)).2)
    have b4 := prod_le (tmod_small (pAt l0 (s + k)).2) (tmod_small (pAt l1 (0 + k)).1)
    constructor
    · show (_ - qP l0 s k * qP l1 0 k + qQ l0 s k * qQ l1 0 k).natAbs ≤ _
      have b1' : (qP l0 s k * qP l1 0 k).natAbs ≤ 1048576 * 1048576 := b1
      have b2' : (qQ l0 s k * qQ l1 0 k).natAbs ≤ 1048576 * 1048576 := b2
      omega
    · show (_ - qP l0 s k * qQ l1 0 k - qQ l0 s k * qP l1 0 k).natAbs ≤ _
      have b3' : (qP l0 s k * qQ l1 0 k).natAbs ≤ 1048576 * 1048576 := b3
      have b4' : (qQ l0 s k * qP l1 0 k).natAbs ≤ 1048576 * 1048576 := b4
      omega
end Go.Proofs.Ytandllekeimpgaa
