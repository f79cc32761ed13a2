/- Layer 7: sums and differences, entry by entry. -/
import Derived.Test.YtibjkmjccelcaaaMX9
namespace Go.Proofs.Ytibjkmjccelcaaa
open Go.RowKit Fl Ieee
set_option maxRecDepth 20000
attribute [local go_sem] run_store_float run_store_complex
end Go.Proofs.Ytibjkmjccelcaaa
namespace Go.Proofs.Ytibjkmjccelcaaa
open Go.RowKit Fl Ieee
set_option maxRecDepth 20000
attribute [local go_sem] run_store_float run_store_complex
theorem frameC {w W1 : World} {v : Value} {t : TypeId} (hb : Below (w.alloc (.cells #[v] t)).heap.size (w.alloc (.cells #[v] t)) W1) :
    W1.cell? ⟨w.heap.size, 0, none⟩ = some v ∧ Below w.heap.size w W1 ∧ w.heap.size < W1.heap.size := by
  obtain ⟨w1, hw1⟩ : ∃ w1, w1 = w.alloc (.cells #[v] t) := ⟨_, rfl⟩
  have e1 : w1.heap.size = w.heap.size + 1 := by rw [hw1]; simp
  have hc : w1.cell? ⟨w.heap.size, 0, none⟩ = some v := by rw [hw1, World.cell?_alloc_new]; rfl
  have hb1 : Below w.heap.size w w1 := by rw [hw1]; exact below_new _ _
  rw [← hw1] at hb
  exact ⟨(hb.cell (p := ⟨w.heap.size, 0, none⟩) (by show w.heap.size < _; omega)).trans hc, hb1.trans (hb.mono (by omega)), by have := hb.size; omega⟩
theorem frameR {w W1 : World} {x y z : Value} {t : TypeId} (hb : Below (w.alloc (.cells #[x, y, z] t)).heap.size (w.alloc (.cells #[x, y, z] t)) W1) :
    W1.heap[w.heap.size]? = some (.cells #[x, y, z] t) ∧ Below w.heap.size w W1 ∧ w.heap.size < W1.heap.size := by
  obtain ⟨w1, hw1⟩ : ∃ w1, w1 = w.alloc (.cells #[x, y, z] t) := ⟨_, rfl⟩
  have e1 : w1.heap.size = w.heap.size + 1 := by rw [hw1]; simp
  have hc : w1.heap[w.heap.size]? = some (.cells #[x, y, z] t) := by rw [hw1]; exact heap_alloc_new w _
  have hb1 : Below w.heap.size w w1 := by rw [hw1]; exact below_new _ _
  rw [← hw1] at hb
  exact ⟨(hb.block _ (by omega)).trans hc, hb1.trans (hb.mono (by omega)), by have := hb.size; omega⟩
/-- Behind the frame: two boxes, a cell, the result's row. -/
theorem frame2f {w W1 : World} {r c r' c' : Int} {s s' x y z f : Value} {t t' tf t'' : TypeId}
    (hb : Below ((((w.alloc (.cells #[.int .i64 r, .int .i64 c, s] t)).alloc (.cells #[.int .i64 r', .int .i64 c', s'] t')).alloc (.cells #[f] tf)).alloc (.cells #[x, y, z] t'')).heap.size
      ((((w.alloc (.cells #[.int .i64 r, .int .i64 c, s] t)).alloc (.cells #[.int .i64 r', .int .i64 c', s'] t')).alloc (.cells #[f] tf)).alloc (.cells #[x, y, z] t'')) W1) :
    Box W1 w.heap.size r c s ∧ Box W1 (w.heap.size + 1) r' c' s' ∧ W1.cell? ⟨w.heap.size + 2, 0, none⟩ = some f ∧ W1.heap[w.heap.size + 3]? = some (.cells #[x, y, z] t'') ∧ Below w.heap.size w W1 ∧ w.heap.size + 4 ≤ W1.heap.size := by
  obtain ⟨w1, hw1⟩ : ∃ w1, w1 = w.alloc (.cells #[.int .i64 r, .int .i64 c, s] t) := ⟨_, rfl⟩
  obtain ⟨w2, hw2⟩ : ∃ w2, w2 = w1.alloc (.cells #[.int .i64 r', .int .i64 c', s'] t') := ⟨_, rfl⟩
  obtain ⟨w3, hw3⟩ : ∃ w3, w3 = w2.alloc (.cells #[f] tf) := ⟨_, rfl⟩
  have e1 : w1.heap.size = w.heap.size + 1 := by rw [hw1]; simp
  have e2 : w2.heap.size = w.heap.size + 2 := by rw [hw2]; simp [e1]
  have e3 : w3.heap.size = w.heap.size + 3 := by rw [hw3]; simp [e2]
  rw [← hw1, ← hw2, ← hw3] at hb
  obtain ⟨h1, h2, h3⟩ := frameR hb
  rw [e3] at h1 h3
  rw [hw3] at h2
  obtain ⟨h4, h5, h6⟩ := frameC h2
  rw [e2] at h4
  rw [hw2] at h5
  obtain ⟨h7, h8, h9⟩ := frame0 h5
  rw [e1] at h7
  rw [hw1] at h8
  obtain ⟨h10, h11, h12⟩ := frame0 h8
  exact ⟨h10, h7, h4, h1, h11, h3⟩
end Go.Proofs.Ytibjkmjccelcaaa
