/- Layer 7: two matrices held against each other. -/
import Derived.Test.YtajdfbjjgjpicaaMX10
import Derived.Test.YtajdfbjjgjpicaaT04
namespace Go.Proofs.Ytajdfbjjgjpicaa
open Go.RowKit Fl Ieee
set_option maxRecDepth 20000
attribute [local go_sem] run_store_float run_store_complex
theorem frame2b {w W1 : World} {r c r' c' : Int} {s s' : Value} {t t' : TypeId}
    (hb : Below ((w.alloc (.cells #[.int .i64 r, .int .i64 c, s] t)).alloc (.cells #[.int .i64 r', .int .i64 c', s'] t')).heap.size
      ((w.alloc (.cells #[.int .i64 r, .int .i64 c, s] t)).alloc (.cells #[.int .i64 r', .int .i64 c', s'] t')) W1) :
    Box W1 w.heap.size r c s ∧ Box W1 (w.heap.size + 1) r' c' s' ∧ Below w.heap.size w W1 ∧ w.heap.size + 2 ≤ W1.heap.size := by
  obtain ⟨w1, hw1⟩ : ∃ w1, w1 = w.alloc (.cells #[.int .i64 r, .int .i64 c, s] t) := ⟨_, rfl⟩
  have e1 : w1.heap.size = w.heap.size + 1 := by rw [hw1]; simp
  rw [← hw1] at hb
  obtain ⟨h1, h2, h3⟩ := frame0 hb
  rw [e1] at h1 h3
  rw [hw1] at h2
  obtain ⟨h4, h5, h6⟩ := frame0 h2
  exact ⟨h4, h1, h5, h3⟩
/-- Told true or false; only new blocks and draws. -/
def RetBB (b : Bool) (w : World) (e : Ending) (w' : World) : Prop := e = .returned (.bool b) ∧ Below w.heap.size w w'
theorem SameMatrix_t (r c : Int) (A B : Option Addr) (l m : List C) (n ca cb : Nat) (w : World) (hn : l.length = n) (hm : m.length = n) (h : l.map cnC = m.map cnC) (hmax : n ≤ 4611686018427387904)
    (hA : Reads w w.heap.size A (nums l)) (hB : Reads w w.heap.size B (nums m)) :
    Calls Try.prog 45 #[mval r c (.slice A n ca), mval r c (.slice B n cb)] w (RetBB true w) := by
  have hb0 : Below w.heap.size w ((w.alloc (.cells #[.int .i64 r, .int .i64 c, .slice A n ca] 28)).alloc (.cells #[.int .i64 r, .int .i64 c, .slice B n cb] 28)) :=
    ((Below.refl _ w).new (Nat.le_refl _) _).new (Nat.le_refl _) _
  have HS := Lib.hid (SameNumbers_t A B l m n ca cb _ hn hm h hmax ((hA.below hb0).more hb0.size) ((hB.below hb0).more hb0.size))
  have HB := Lib.hid hb0
  clear hn hm h hmax hA hB hb0
  go_enter Try.func45, Try.ntmps45
  go_wp2_with fail
  refine HS.out.mono ?_
  rintro e W1 ⟨k, rfl, rfl⟩
  go_wp2
  go_ret
  exact ⟨rfl, below_drewN HB.out k⟩
end Go.Proofs.Ytajdfbjjgjpicaa
