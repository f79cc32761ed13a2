/- Two matrices in boxes that grow number by number. -/
import Derived.Test.YtibjkmjccelcaaaMX1
namespace Go.Proofs.Ytibjkmjccelcaaa
open Go.RowKit Fl Ieee
set_option maxRecDepth 20000
structure Gr (w0 W : World) (B b1 b2 N : Nat) (zs us : List C) (s1 s2 : Value) : Prop where
  bel : Below w0.heap.size w0 W
  l1 : w0.heap.size ≤ b1
  l2 : w0.heap.size ≤ b2
  u1 : b1 < B
  u2 : b2 < B
  ne : b1 ≠ b2
  sz : B ≤ W.heap.size
  x1 : W.heap[b1]? = some (.cells #[.int .i64 (N : Nat), .int .i64 (N : Nat), s1] 26)
  x2 : W.heap[b2]? = some (.cells #[.int .i64 (N : Nat), .int .i64 (N : Nat), s2] 26)
  o1 : W.ownsRow B 51 1 s1 zs.length (nums zs)
  o2 : W.ownsRow B 51 1 s2 us.length (nums us)
  ap : ∀ c, s1.ownBlock = some c → s2.ownBlock ≠ some c
namespace Gr
variable {w0 W V : World} {B b1 b2 N : Nat} {zs us : List C} {s1 s2 : Value}
theorem symm (h : Gr w0 W B b1 b2 N zs us s1 s2) : Gr w0 W B b2 b1 N us zs s2 s1 :=
  ⟨h.bel, h.l2, h.l1, h.u2, h.u1, fun e => h.ne e.symm, h.sz, h.x2, h.x1, h.o2, h.o1, fun c a b => h.ap c b a⟩
theorem below (h : Gr w0 W B b1 b2 N zs us s1 s2) (hb : Below W.heap.size W V) : Gr w0 V B b1 b2 N zs us s1 s2 :=
  { h with
    bel := h.bel.trans (hb.mono h.bel.size)
    sz := Nat.le_trans h.sz hb.size
    x1 := row_keep hb h.x1
    x2 := row_keep hb h.x2
    o1 := own_below h.o1 hb
    o2 := own_below h.o2 hb }
theorem cells (h : Gr w0 W B b1 b2 N zs us s1 s2) : W.cell? ⟨b1, 2, none⟩ = some s1 ∧ W.cell? ⟨b2, 2, none⟩ = some s2 := by
  obtain ⟨-, -, a, -⟩ := box3 h.x1
  obtain ⟨-, -, b, -⟩ := box3 h.x2
  exact ⟨a, b⟩
/-- A number more in the first. -/
theorem app {z : C} {n : Nat} {o : Obj} {v' : Value} {w1 : World} (h : Gr w0 W B b1 b2 N zs us s1 s2) (hn : zs.length = n)
    (hown : w1.ownsRow B 51 1 v' (n + 1) (nums zs ++ [.complex .f64 z.1 z.2]))
    (hgr : (W.alloc o).grownBy w1 s1.ownBlock) (hv : v'.ownBlock = s1.ownBlock ∨ (v'.ownBlock = some (W.alloc o).heap.size ∧ (W.alloc o).grownBy w1 none)) :
    w1.cell? ⟨b1, 2, none⟩ = some s1 ∧ w1.cell? ⟨b2, 2, none⟩ = some s2 ∧ w1.frozen? ⟨b1, 2, none⟩ = false ∧ Gr w0 (w1.setCell ⟨b1, 2, none⟩ v') B b1 b2 N (zs ++ [z]) us v' s2 := by
  have hs : (W.alloc o).heap.size = W.heap.size + 1 := by simp
  have FB : ∀ p, p < W.heap.size → s1.ownBlock ≠ some p → w1.heap[p]? = W.heap[p]? := fun p hp hne =>
    (hgr.block p (by omega) (fun e => hne e.symm)).trans (Below.heap_alloc W o p hp)
  have hz := h.sz
  have k1 := h.u1
  have k2 := h.u2
  have n1 : s1.ownBlock ≠ some b1 := fun e => by have := (h.o1.lt _ e).1; omega
  have n2 : s1.ownBlock ≠ some b2 := fun e => by have := (h.o1.lt _ e).1; omega
  have hx1 := (FB b1 (by omega) n1).trans h.x1
  have hx2 := (FB b2 (by omega) n2).trans h.x2
  obtain ⟨-, -, c1, f1⟩ := box3 hx1
  obtain ⟨-, -, c2, -⟩ := box3 hx2
  refine ⟨c1, c2, f1 2, ?_⟩
  have hsz1 : (w1.setCell ⟨b1, 2, none⟩ v').heap.size = w1.heap.size := by simp [World.setCell]
  refine { bel := ?_, l1 := h.l1, l2 := h.l2, u1 := h.u1, u2 := h.u2, ne := h.ne, sz := ?_, x1 := ?_, x2 := ?_, o1 := ?_, o2 := ?_, ap := ?_ }
  · exact ((h.bel.new (Nat.le_refl _) o).grown hgr (by have := h.bel.size; omega) (fun j hj => by have := (h.o1.lt j hj).1; have := h.l1; omega)).setCell h.l1 _
  · rw [hsz1]; have := hgr.size; omega
  · rw [heap_setCell_same _ b1 2 _ _ _ hx1]; rfl
  · rw [Below.heap_setCell _ _ _ _ (fun e => h.ne e.symm)]; exact hx2
  · rw [List.length_append, hn]
    have e : nums (zs ++ [z]) = nums zs ++ [.complex .f64 z.1 z.2] := by simp [nums]
    rw [e]
    exact ownsRow_setCell_below hown (by show b1 < B; omega) _
  · refine ownsRow_setCell_below ((h.o2.alloc o).kept hgr ?_) (by show b1 < B; omega) _
    by_cases e : s2.ownBlock = none
    · exact .inl e
    · refine .inr fun e2 => ?_
      cases hc : s1.ownBlock with
      | none => rw [hc] at e2; exact e e2
      | some c => rw [hc] at e2; exact h.ap c hc e2
  · intro c hc e
    rcases hv with g1 | ⟨g1, -⟩
    · exact h.ap c (g1.symm.trans hc) e
    · rw [g1] at hc
      injection hc with hc
      have := (h.o2.lt _ e).2; omega
theorem szo (h : Gr w0 W B b1 b2 N zs us s1 s2) (o : Obj) : B ≤ (W.alloc o).heap.size := Nat.le_trans h.sz (by simp)
end Gr
end Go.Proofs.Ytibjkmjccelcaaa
