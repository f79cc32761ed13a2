/- Layer 7: the product. -/
import Derived.Test.YtibjkmjccelcaaaMX1
namespace Go.Proofs.Ytibjkmjccelcaaa
open Go.RowKit Fl Ieee
set_option maxRecDepth 20000
attribute [local go_sem] run_store_float run_store_complex
/-- A row times a column, its first k terms, up to NaN. -/
def dot (la lb : List C) (ca cb i j : Nat) : Nat → C
  | 0 => (0, 0)
  | k + 1 => pAdd (dot la lb ca cb i j k) (pMul (ent la ca i k) (ent lb cb k j))
/-- A value is handed back, told from a world on. -/
def FromV (v : Value) (B : Nat) (w : World) (e : Ending) (w' : World) : Prop := e = .returned v ∧ Below B w w'
def FromZ (v : C) (B : Nat) (w : World) (e : Ending) (w' : World) : Prop := ∃ z : C, e = .returned (.complex .f64 z.1 z.2) ∧ cnC z = v ∧ ltC z ∧ Below B w w'
theorem from_v {P : Program} {f : FuncId} {args : Array Value} {B : Nat} {w V : World} {v : Value} (h : Calls P f args V (RetV v V)) (hb : Below B w V) (hB : B ≤ w.heap.size) : Calls P f args V (FromV v B w) :=
  h.mono fun _ _ ⟨he, h1⟩ => ⟨he, hb.trans (h1.mono (Nat.le_trans hB hb.size))⟩
theorem from_c {P : Program} {f : FuncId} {args : Array Value} {B : Nat} {w V : World} {v : C} (h : Calls P f args V (RetC v V)) (hb : Below B w V) : Calls P f args V (FromZ v B w) :=
  h.mono fun _ _ ⟨x, y, n, he, hv, hx, hy, hw⟩ => ⟨(x, y), he, hv, ⟨hx, hy⟩, by rw [hw]; exact below_drewN hb n⟩
end Go.Proofs.Ytibjkmjccelcaaa
namespace Go.Proofs.Ytibjkmjccelcaaa
open Go.RowKit Fl Ieee
set_option maxRecDepth 20000
attribute [local go_sem] run_store_float run_store_complex
/-- What stands behind the frame of a function of two matrices: both boxes, the result's cell. -/
theorem frame2 {w W1 : World} {r c r' c' : Int} {s s' x y z : Value} {t t' t'' : TypeId}
    (hb : Below (((w.alloc (.cells #[.int .i64 r, .int .i64 c, s] t)).alloc (.cells #[.int .i64 r', .int .i64 c', s'] t')).alloc (.cells #[x, y, z] t'')).heap.size
      (((w.alloc (.cells #[.int .i64 r, .int .i64 c, s] t)).alloc (.cells #[.int .i64 r', .int .i64 c', s'] t')).alloc (.cells #[x, y, z] t'')) W1) :
    Box W1 w.heap.size r c s ∧ Box W1 (w.heap.size + 1) r' c' s' ∧ W1.heap[w.heap.size + 2]? = some (.cells #[x, y, z] t'') ∧ Below w.heap.size w W1 ∧ w.heap.size + 3 ≤ W1.heap.size := by
  obtain ⟨w1, hw1⟩ : ∃ w1, w1 = w.alloc (.cells #[.int .i64 r, .int .i64 c, s] t) := ⟨_, rfl⟩
  have e1 : w1.heap.size = w.heap.size + 1 := by rw [hw1]; simp
  have hbx : Box w1 w.heap.size r c s := by rw [hw1]; exact Box.new _ _ _ _ _
  have hb1 : Below w.heap.size w w1 := by rw [hw1]; exact below_new _ _
  rw [← hw1] at hb
  obtain ⟨h1, h2, h3, h4⟩ := frame1 hb
  rw [e1] at h1 h2 h3 h4
  exact ⟨hbx.below h3 (by omega), h1, h2, hb1.trans (h3.mono (by omega)), h4⟩
end Go.Proofs.Ytibjkmjccelcaaa
