/- Layer 7: transpose, conjugate, identity. -/
import Derived.Test.YtajdfbjjgjpicaaMX2
namespace Go.Proofs.Ytajdfbjjgjpicaa
open Go.RowKit Fl Ieee
set_option maxRecDepth 20000
attribute [local go_sem] run_store_float run_store_complex
/-- What stands at a place, up to NaN. -/
def ent (l : List C) (cols i j : Nat) : C := cnC (l.getD (i * cols + j) (0, 0))
/-- A matrix in a block of its own. -/
def Box (W : World) (b : Nat) (r c : Int) (s : Value) : Prop := W.cell? ⟨b, 0, none⟩ = some (.int .i64 r) ∧ W.cell? ⟨b, 1, none⟩ = some (.int .i64 c) ∧ W.cell? ⟨b, 2, none⟩ = some s
theorem Box.below {W W' : World} {b B : Nat} {r c : Int} {s : Value} (h : Box W b r c s) (hb : Below B W W') (hlt : b < B) : Box W' b r c s :=
  ⟨(hb.cell (p := ⟨b, 0, none⟩) hlt).trans h.1, (hb.cell (p := ⟨b, 1, none⟩) hlt).trans h.2.1, (hb.cell (p := ⟨b, 2, none⟩) hlt).trans h.2.2⟩
theorem Box.new (w : World) (r c : Int) (s : Value) (t : TypeId) : Box (w.alloc (.cells #[.int .i64 r, .int .i64 c, s] t)) w.heap.size r c s := by
  refine ⟨?_, ?_, ?_⟩ <;> (rw [World.cell?_alloc_new]; rfl)
theorem at_ok {l : List C} {rows cols i j : Nat} (hl : l.length = rows * cols) (hi : i < rows) (hj : j < cols) : l[i * cols + j]? = some (l.getD (i * cols + j) (0, 0)) := by
  have h : i * cols + j < l.length := by
    rw [hl]
    have h1 : (i + 1) * cols ≤ rows * cols := Nat.mul_le_mul_right _ hi
    rw [Nat.add_mul, Nat.one_mul] at h1; omega
  rw [List.getElem?_eq_getElem h, List.getD_eq_getElem?_getD, List.getElem?_eq_getElem h]; rfl
theorem ltCs_at {l : List C} {rows cols i j : Nat} (h : ltCs l) (hl : l.length = rows * cols) (hi : i < rows) (hj : j < cols) : ltC (l.getD (i * cols + j) (0, 0)) :=
  h _ (List.mem_of_getElem? (at_ok hl hi hj))
theorem prod_small {rows cols : Nat} (hr : rows ≤ 64) (hc : cols ≤ 64) : rows * cols ≤ 4096 := Nat.mul_le_mul hr hc
/-- An entry is read. -/
theorem at_e (rows cols : Nat) (A : Option Addr) (l : List C) (cap i j : Nat) (W : World) (hl : l.length = rows * cols) (hr : rows ≤ 64) (hc : cols ≤ 64) (hi : i < rows) (hj : j < cols) (hrd : Reads W W.heap.size A (nums l)) :
    Calls Try.prog 63 #[mval rows cols (.slice A l.length cap), .int .i64 (i : Nat), .int .i64 (j : Nat)] W (RetV (.complex .f64 (l.getD (i * cols + j) (0, 0)).1 (l.getD (i * cols + j) (0, 0)).2) W) :=
  at_c rows cols A l cap i j (i * cols + j) _ (by simp) (by omega) (by omega) (by omega) (at_ok hl hi hj) W.heap.size W (Nat.le_refl _) (by have := prod_small hr hc; omega) hrd
theorem enters_of {P : Program} {f : FuncId} {fn : Func} {c : Code} (hf : P.funcs[f]? = some fn) (hn : (fn.name == "runtime.NumGoroutine") = false) (hb : fn.body = some c) (args : Array Value) (W : World) :
    (callFunc f args).run P W = .ok (.enter f args) W := by
  have h1 : fn.name ≠ "runtime.NumGoroutine" := by simpa using hn
  simp [callFunc, hf, h1, hb]
/-- A matrix and what is told of it. -/
def RetMxE (rows cols : Int) (l : List C) (er : Int) (w : World) (e : Ending) (w' : World) : Prop :=
  ∃ s zs, e = .returned (.tuple #[mval rows cols s, .int .i64 er]) ∧ zs.map cnC = l ∧ ltCs zs ∧ w'.ownsRow w.heap.size 53 1 s l.length (nums zs) ∧ Below w.heap.size w w'
theorem box3 {w : World} {b : Nat} {x y z : Value} {t : TypeId} (hx : w.heap[b]? = some (.cells #[x, y, z] t)) :
    w.cell? ⟨b, 0, none⟩ = some x ∧ w.cell? ⟨b, 1, none⟩ = some y ∧ w.cell? ⟨b, 2, none⟩ = some z ∧ (∀ j, w.frozen? ⟨b, j, none⟩ = false) := by
  refine ⟨?_, ?_, ?_, fun j => frozen_of_row w b j _ _ hx⟩
  · rw [cell_of_row w b 0 _ _ _ hx]; rfl
  · rw [cell_of_row w b 1 _ _ _ hx]; rfl
  · rw [cell_of_row w b 2 _ _ _ hx]; rfl
theorem slice_of_own {w : World} {B e n : Nat} {v : Value} {xs : List Value} (h : w.ownsRow B e 1 v n xs) : ∃ A m c, v = .slice A m c ∧ m = n := by
  rcases h.2 with ⟨h, h'⟩ | ⟨g, cap, cur, h, _⟩
  · exact ⟨_, _, _, h, h'.symm⟩
  · exact ⟨_, _, _, h, rfl⟩
theorem close_mx {w W1 : World} {b : Nat} {rows cols er : Int} {s x y z : Value} {zs l : List C} (hz : zs.map cnC = l) (hl : ltCs zs) (hown : W1.ownsRow (b + 1) 53 1 s l.length (nums zs)) (hB : Below w.heap.size w W1) (hb : w.heap.size ≤ b) :
    RetMxE rows cols l er w (.returned (.tuple #[mval rows cols s, .int .i64 er])) (((W1.setCell ⟨b, 0, none⟩ x).setCell ⟨b, 1, none⟩ y).setCell ⟨b, 2, none⟩ z) :=
  ⟨s, zs, rfl, hz, hl, own_base (ownsRow_setCell_below (ownsRow_setCell_below (ownsRow_setCell_below hown (by show b < b + 1; omega) _) (by show b < b + 1; omega) _) (by show b < b + 1; omega) _) (by omega),
    ((hB.setCell hb _).setCell hb _).setCell hb _⟩
/-- What stands behind the frame of a function of one matrix: its box, the result's cell, in any world that has grown since. -/
theorem frame1 {w W1 : World} {r c : Int} {s x y z : Value} {t t' : TypeId} (hb : Below ((w.alloc (.cells #[.int .i64 r, .int .i64 c, s] t)).alloc (.cells #[x, y, z] t')).heap.size ((w.alloc (.cells #[.int .i64 r, .int .i64 c, s] t)).alloc (.cells #[x, y, z] t')) W1) :
    Box W1 w.heap.size r c s ∧ W1.heap[w.heap.size + 1]? = some (.cells #[x, y, z] t') ∧ Below w.heap.size w W1 ∧ w.heap.size + 2 ≤ W1.heap.size := by
  obtain ⟨w1, hw1⟩ : ∃ w1, w1 = w.alloc (.cells #[.int .i64 r, .int .i64 c, s] t) := ⟨_, rfl⟩
  have e1 : w1.heap.size = w.heap.size + 1 := by rw [hw1]; simp
  have hbx : Box w1 w.heap.size r c s := by rw [hw1]; exact Box.new _ _ _ _ _
  have hb1 : Below w.heap.size w w1 := by rw [hw1]; exact below_new _ _
  rw [← hw1] at hb
  have e2 : (w1.alloc (.cells #[x, y, z] t')).heap.size = w.heap.size + 2 := by simp [e1]
  have hb2 : Below w1.heap.size w1 (w1.alloc (.cells #[x, y, z] t')) := below_new _ _
  have hn := heap_alloc_new w1 (.cells #[x, y, z] t')
  generalize w1.alloc (.cells #[x, y, z] t') = w2 at *
  refine ⟨(hbx.below hb2 (by omega)).below hb (by omega), ?_, (hb1.trans (hb2.mono (by omega))).trans (hb.mono (by omega)), by have := hb.size; omega⟩
  rw [hb.block _ (by omega), ← e1]; exact hn
end Go.Proofs.Ytajdfbjjgjpicaa
