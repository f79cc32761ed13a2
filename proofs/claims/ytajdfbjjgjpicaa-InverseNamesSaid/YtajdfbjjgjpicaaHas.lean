/- Matrices that lie in boxes: what stays where a world grows. -/
import Derived.Test.YtajdfbjjgjpicaaMX15
import Derived.Test.YtajdfbjjgjpicaaMX14
import Derived.Deep.DeepCutAuto
import Derived.Deep.RegionHeld3
namespace Go.Proofs.Ytajdfbjjgjpicaa
open Go.RowKit Fl Ieee
set_option maxRecDepth 20000
/-- A matrix lies in a box, its numbers behind it. -/
def Has (W : World) (b : Nat) (r c : Int) (A : Option Addr) (l : List C) (cap : Nat) : Prop :=
  Box W b r c (.slice A l.length cap) ∧ b < W.heap.size ∧ Reads W W.heap.size A (nums l) ∧ (A = none → cap = 0) ∧ l.length ≤ cap
theorem Has.below {W W' : World} {b : Nat} {r c : Int} {A : Option Addr} {l : List C} {cap : Nat} (h : Has W b r c A l cap) (hb : Below W.heap.size W W') : Has W' b r c A l cap :=
  ⟨h.1.below hb h.2.1, Nat.lt_of_lt_of_le h.2.1 hb.size, (h.2.2.1.below hb).more hb.size, h.2.2.2⟩
theorem Has.alloc {W : World} {b : Nat} {r c : Int} {A : Option Addr} {l : List C} {cap : Nat} (h : Has W b r c A l cap) (o : Obj) : Has (W.alloc o) b r c A l cap := h.below (below_new W o)
theorem Has.new {W W' : World} {r c : Int} {A : Option Addr} {zs : List C} {n cap lo : Nat} {t : TypeId} (hown : W.ownsRow lo 53 1 (.slice A n cap) zs.length (nums zs))
    (hb : Below (W.alloc (.cells #[.int .i64 r, .int .i64 c, .slice A n cap] t)).heap.size (W.alloc (.cells #[.int .i64 r, .int .i64 c, .slice A n cap] t)) W') :
    n = zs.length ∧ Has W' W.heap.size r c A zs cap ∧ Below W.heap.size W W' := by
  obtain ⟨e, hcap, hA⟩ := own_slice hown
  subst e
  obtain ⟨h1, h2, h3⟩ := frame0 hb
  exact ⟨rfl, ⟨h1, h3, ((Reads.of_own hown).below h2).more h2.size, hA, hcap⟩, h2⟩
/-- A row of its own, in a block between two bounds. -/
def OwnIn (W : World) (lo hi : Nat) (v : Value) (n : Nat) (xs : List Value) : Prop := W.ownsRow lo 53 1 v n xs ∧ ∀ g, v.ownBlock = some g → g < hi
section
variable {W W' : World} {lo hi n : Nat} {v : Value} {xs : List Value}
theorem OwnIn.of (h : W.ownsRow lo 53 1 v n xs) : OwnIn W lo W.heap.size v n xs := ⟨h, fun g hg => (h.lt g hg).2⟩
theorem OwnIn.below (h : OwnIn W lo hi v n xs) (hb : Below W.heap.size W W') : OwnIn W' lo hi v n xs := ⟨own_below h.1 hb, h.2⟩
theorem OwnIn.alloc (h : OwnIn W lo hi v n xs) (o : Obj) : OwnIn (W.alloc o) lo hi v n xs := h.below (below_new W o)
theorem OwnIn.drew (h : OwnIn W lo hi v n xs) : OwnIn W.drew lo hi v n xs := h
theorem OwnIn.set (h : OwnIn W lo hi v n xs) {p : Addr} (hp : p.block < lo ∨ hi ≤ p.block) (u : Value) : OwnIn (W.setCell p u) lo hi v n xs := by
  refine ⟨⟨h.1.1, ?_⟩, h.2⟩
  rcases h.1.2 with h1 | ⟨g, cap, cur, hv, hbg, hg, hr⟩
  · exact .inl h1
  · have hlt := h.2 g (by rw [hv]; rfl)
    refine .inr ⟨g, cap, cur, hv, hbg, ?_, hr⟩
    rw [Below.heap_setCell _ _ _ _ (by omega)]; exact hg
theorem OwnIn.reads {A : Option Addr} {m cap : Nat} (h : OwnIn W lo hi (.slice A m cap) n xs) : Reads W W.heap.size A xs ∧ m = n ∧ n ≤ cap ∧ (A = none → cap = 0) := by
  obtain ⟨e, h1, h2⟩ := own_slice h.1
  subst e
  exact ⟨Reads.of_own h.1, rfl, h1, h2⟩
end
/-- The row of a variable that was just made. -/
abbrev zrow : Obj := .cells #[.int .i64 0, .int .i64 0, .slice none 0 0] 28
theorem row_keep {Z V : World} {b : Nat} {o : Obj} (h : Below Z.heap.size Z V) (hr : Z.heap[b]? = some o) : V.heap[b]? = some o := by
  have hlt : b < Z.heap.size := by
    rcases Nat.lt_or_ge b Z.heap.size with h1 | h1
    · exact h1
    · rw [Array.getElem?_eq_none h1] at hr; cases hr
  rw [h.block b hlt]; exact hr
theorem row_alloc {Z : World} {b : Nat} {o o' : Obj} (hr : Z.heap[b]? = some o) : (Z.alloc o').heap[b]? = some o := row_keep (below_new Z o') hr
theorem row_new2 (Z : World) (o o' : Obj) : ((Z.alloc o).alloc o').heap[Z.heap.size + 1]? = some o' := by
  have e : Z.heap.size + 1 = (Z.alloc o).heap.size := by simp
  rw [e]; exact heap_alloc_new _ _
theorem row_lt {Z : World} {b : Nat} {o : Obj} (hr : Z.heap[b]? = some o) : b < Z.heap.size := by
  rcases Nat.lt_or_ge b Z.heap.size with h1 | h1
  · exact h1
  · rw [Array.getElem?_eq_none h1] at hr; cases hr
/-- Three cells of a row are written. -/
abbrev put3 (X : World) (b : Nat) (u v s : Value) : World := ((X.setCell ⟨b, 0, none⟩ u).setCell ⟨b, 1, none⟩ v).setCell ⟨b, 2, none⟩ s
theorem put3_row {X : World} {b : Nat} {x y z u v s : Value} {t : TypeId} (h : X.heap[b]? = some (.cells #[x, y, z] t)) :
    (put3 X b u v s).heap[b]? = some (.cells #[u, v, s] t) ∧ (∀ j, j ≠ b → (put3 X b u v s).heap[j]? = X.heap[j]?) ∧ (put3 X b u v s).heap.size = X.heap.size := by
  refine ⟨?_, fun j hj => ?_, by simp [World.setCell]⟩
  · have h1 := heap_setCell_same X b 0 _ t u h
    have h2 := heap_setCell_same _ b 1 _ t v h1
    have h3 := heap_setCell_same _ b 2 _ t s h2
    rw [h3]; rfl
  · rw [heap_setCell_other _ _ j _ hj, heap_setCell_other _ _ j _ hj, heap_setCell_other _ _ j _ hj]
/-- Two matrices in two boxes: the relation behind 'x, y := ..'. -/
def TwoR (R0 C0 R1 C1 : Int) (l0 l1 : List C) (w : World) (s10 s11 : Value) (wx : World) : Prop :=
  ∃ b0 b1 A B c d, s10 = .pointer (some ⟨b0, 0, none⟩) ∧ s11 = .pointer (some ⟨b1, 0, none⟩) ∧ Has wx b0 R0 C0 A l0 c ∧ Has wx b1 R1 C1 B l1 d ∧ Below w.heap.size w wx
section
variable {R0 C0 R1 C1 : Int} {l0 l1 : List C} {w X Wf : World} {b0 b1 lo0 hi0 lo1 hi1 sn sc tn tc : Nat} {sA tA : Option Addr} {t : TypeId}
theorem two_fin (hO0 : OwnIn X lo0 hi0 (.slice sA sn sc) l0.length (nums l0)) (hO1 : OwnIn X lo1 hi1 (.slice tA tn tc) l1.length (nums l1))
    (hold : ∀ j, j < X.heap.size → j ≠ b0 → j ≠ b1 → Wf.heap[j]? = X.heap[j]?)
    (r0 : Wf.heap[b0]? = some (.cells #[.int .i64 R0, .int .i64 C0, .slice sA sn sc] t)) (r1 : Wf.heap[b1]? = some (.cells #[.int .i64 R1, .int .i64 C1, .slice tA tn tc] t))
    (k0 : hi0 ≤ X.heap.size) (k1 : hi1 ≤ X.heap.size) (a0 : b0 < lo0 ∨ hi0 ≤ b0) (a1 : b1 < lo0 ∨ hi0 ≤ b1) (d0 : b0 < lo1 ∨ hi1 ≤ b0) (d1 : b1 < lo1 ∨ hi1 ≤ b1) (hB : Below w.heap.size w Wf) :
    TwoR R0 C0 R1 C1 l0 l1 w (.pointer (some ⟨b0, 0, none⟩)) (.pointer (some ⟨b1, 0, none⟩)) Wf := by
  have move : ∀ {lo hi n : Nat} {v : Value} {xs : List Value}, OwnIn X lo hi v n xs → hi ≤ X.heap.size → (b0 < lo ∨ hi ≤ b0) → (b1 < lo ∨ hi ≤ b1) → OwnIn Wf lo hi v n xs := by
    intro lo hi n v xs h hk e0 e1
    refine ⟨⟨h.1.1, ?_⟩, h.2⟩
    rcases h.1.2 with h1 | ⟨g, cap, cur, hv, hbg, hg, hr⟩
    · exact .inl h1
    · have hlt := h.2 g (by rw [hv]; rfl)
      refine .inr ⟨g, cap, cur, hv, hbg, ?_, hr⟩
      rw [hold g (by omega) (by omega) (by omega)]; exact hg
  obtain ⟨p1, p2, p3, p4⟩ := (move hO0 k0 a0 a1).reads
  obtain ⟨q1, q2, q3, q4⟩ := (move hO1 k1 d0 d1).reads
  subst p2 q2
  obtain ⟨x0, x1, x2, -⟩ := box3 r0
  obtain ⟨y0, y1, y2, -⟩ := box3 r1
  exact ⟨b0, b1, sA, tA, sc, tc, rfl, rfl, ⟨⟨x0, x1, x2⟩, row_lt r0, p1, p4, p3⟩, ⟨⟨y0, y1, y2⟩, row_lt r1, q1, q4, q3⟩, hB⟩
theorem two_set (hO0 : OwnIn X lo0 hi0 (.slice sA sn sc) l0.length (nums l0)) (hO1 : OwnIn X lo1 hi1 (.slice tA tn tc) l1.length (nums l1))
    (r0 : X.heap[b0]? = some zrow) (r1 : X.heap[b1]? = some zrow) (ne : b0 ≠ b1)
    (k0 : hi0 ≤ X.heap.size) (k1 : hi1 ≤ X.heap.size) (a0 : b0 < lo0 ∨ hi0 ≤ b0) (a1 : b1 < lo0 ∨ hi0 ≤ b1) (d0 : b0 < lo1 ∨ hi1 ≤ b0) (d1 : b1 < lo1 ∨ hi1 ≤ b1)
    (hB : Below w.heap.size w (put3 (put3 X b0 (.int .i64 R0) (.int .i64 C0) (.slice sA sn sc)) b1 (.int .i64 R1) (.int .i64 C1) (.slice tA tn tc))) :
    TwoR R0 C0 R1 C1 l0 l1 w (.pointer (some ⟨b0, 0, none⟩)) (.pointer (some ⟨b1, 0, none⟩)) (put3 (put3 X b0 (.int .i64 R0) (.int .i64 C0) (.slice sA sn sc)) b1 (.int .i64 R1) (.int .i64 C1) (.slice tA tn tc)) := by
  obtain ⟨f1, f2, f3⟩ := put3_row (u := .int .i64 R0) (v := .int .i64 C0) (s := .slice sA sn sc) r0
  have r1' := (f2 b1 (Ne.symm ne)).trans r1
  obtain ⟨g1, g2, g3⟩ := put3_row (u := .int .i64 R1) (v := .int .i64 C1) (s := .slice tA tn tc) r1'
  exact two_fin hO0 hO1 (fun j _ h0 h1 => (g2 j h1).trans (f2 j h0)) ((g2 b0 ne).trans f1) g1 k0 k1 a0 a1 d0 d1 hB
theorem two_new_set (hO0 : OwnIn X lo0 hi0 (.slice sA sn sc) l0.length (nums l0)) (hO1 : OwnIn X lo1 hi1 (.slice tA tn tc) l1.length (nums l1))
    (e0 : b0 = X.heap.size) (r1 : X.heap[b1]? = some zrow)
    (k0 : hi0 ≤ X.heap.size) (k1 : hi1 ≤ X.heap.size) (a1 : b1 < lo0 ∨ hi0 ≤ b1) (d1 : b1 < lo1 ∨ hi1 ≤ b1)
    (hB : Below w.heap.size w (put3 (X.alloc (.cells #[.int .i64 R0, .int .i64 C0, .slice sA sn sc] 28)) b1 (.int .i64 R1) (.int .i64 C1) (.slice tA tn tc))) :
    TwoR R0 C0 R1 C1 l0 l1 w (.pointer (some ⟨b0, 0, none⟩)) (.pointer (some ⟨b1, 0, none⟩)) (put3 (X.alloc (.cells #[.int .i64 R0, .int .i64 C0, .slice sA sn sc] 28)) b1 (.int .i64 R1) (.int .i64 C1) (.slice tA tn tc)) := by
  subst e0
  have hlt := row_lt r1
  obtain ⟨g1, g2, g3⟩ := put3_row (u := .int .i64 R1) (v := .int .i64 C1) (s := .slice tA tn tc) (row_alloc (o' := .cells #[.int .i64 R0, .int .i64 C0, .slice sA sn sc] 28) r1)
  have hb := below_new X (.cells #[.int .i64 R0, .int .i64 C0, .slice sA sn sc] 28)
  exact two_fin hO0 hO1 (fun j hj h0 h1 => (g2 j h1).trans (hb.block j hj)) ((g2 _ (by omega)).trans (heap_alloc_new X _)) g1 k0 k1 (Or.inr k0) a1 (Or.inr k1) d1 hB
theorem two_new (hO0 : OwnIn X lo0 hi0 (.slice sA sn sc) l0.length (nums l0)) (hO1 : OwnIn X lo1 hi1 (.slice tA tn tc) l1.length (nums l1))
    (e0 : b0 = X.heap.size) (e1 : b1 = X.heap.size + 1) (k0 : hi0 ≤ X.heap.size) (k1 : hi1 ≤ X.heap.size)
    (hB : Below w.heap.size w ((X.alloc (.cells #[.int .i64 R0, .int .i64 C0, .slice sA sn sc] t)).alloc (.cells #[.int .i64 R1, .int .i64 C1, .slice tA tn tc] t))) :
    TwoR R0 C0 R1 C1 l0 l1 w (.pointer (some ⟨b0, 0, none⟩)) (.pointer (some ⟨b1, 0, none⟩)) ((X.alloc (.cells #[.int .i64 R0, .int .i64 C0, .slice sA sn sc] t)).alloc (.cells #[.int .i64 R1, .int .i64 C1, .slice tA tn tc] t)) := by
  subst e0 e1
  have hb := (below_new X (.cells #[.int .i64 R0, .int .i64 C0, .slice sA sn sc] t)).new (Nat.le_refl _) (.cells #[.int .i64 R1, .int .i64 C1, .slice tA tn tc] t)
  exact two_fin hO0 hO1 (fun j hj _ _ => hb.block j hj) (row_alloc (heap_alloc_new X _)) (row_new2 _ _ _) k0 k1 (Or.inr k0) (Or.inr (by omega)) (Or.inr k1) (Or.inr (by omega)) hB
theorem two_new' (hO0 : OwnIn X lo0 hi0 (.slice sA sn sc) l0.length (nums l0)) (hO1 : OwnIn X lo1 hi1 (.slice tA tn tc) l1.length (nums l1))
    (e0 : b1 = X.heap.size) (e1 : b0 = X.heap.size + 1) (k0 : hi0 ≤ X.heap.size) (k1 : hi1 ≤ X.heap.size)
    (hB : Below w.heap.size w ((X.alloc (.cells #[.int .i64 R1, .int .i64 C1, .slice tA tn tc] t)).alloc (.cells #[.int .i64 R0, .int .i64 C0, .slice sA sn sc] t))) :
    TwoR R0 C0 R1 C1 l0 l1 w (.pointer (some ⟨b0, 0, none⟩)) (.pointer (some ⟨b1, 0, none⟩)) ((X.alloc (.cells #[.int .i64 R1, .int .i64 C1, .slice tA tn tc] t)).alloc (.cells #[.int .i64 R0, .int .i64 C0, .slice sA sn sc] t)) := by
  subst e0 e1
  have hb := (below_new X (.cells #[.int .i64 R1, .int .i64 C1, .slice tA tn tc] t)).new (Nat.le_refl _) (.cells #[.int .i64 R0, .int .i64 C0, .slice sA sn sc] t)
  exact two_fin hO0 hO1 (fun j hj _ _ => hb.block j hj) (row_new2 _ _ _) (row_alloc (heap_alloc_new X _)) k0 k1 (Or.inr (by omega)) (Or.inr k0) (Or.inr (by omega)) (Or.inr k1) hB
end
end Go.Proofs.Ytajdfbjjgjpicaa
