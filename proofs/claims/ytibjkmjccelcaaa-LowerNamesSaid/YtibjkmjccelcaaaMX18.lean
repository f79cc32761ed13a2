/- Layer 7: matrices that are the same, equal; lists that are equal, finite. -/
import Derived.Test.YtibjkmjccelcaaaMX15
import Derived.Test.YtibjkmjccelcaaaMX14
import Derived.Test.YtibjkmjccelcaaaMX10
import Derived.Test.YtibjkmjccelcaaaHas
namespace Go.Proofs.Ytibjkmjccelcaaa
open Go.RowKit Fl Ieee
set_option maxRecDepth 20000
attribute [local go_sem] run_store_float run_store_complex Fl.order_self Fl.order_self' Fl.order_eq Fl.order_ne Fl.order_lt Fl.order_gt
set_option maxHeartbeats 1000000 in
theorem EqualNumbers_t (A B : Option Addr) (l m : List C) (n c c' : Nat) (w : World) (hn : l.length = n) (hm : m.length = n) (h : ∀ (k : Nat) (x y : C), l[k]? = some x → m[k]? = some y → pEqual (cnC x) (cnC y) = true) (hmax : n ≤ 4611686018427387904)
    (hA : Reads w w.heap.size A (nums l)) (hB : Reads w w.heap.size B (nums m)) :
    Calls Try.prog 30 #[.slice A n c, .slice B n c'] w (RetB true w) := by
  have HA := Lib.hid hA
  have HB := Lib.hid hB
  have HH := Lib.hid h
  have HN := Lib.hid hn
  have HM := Lib.hid hm
  clear hA hB h hn hm
  go_enter Try.func30, Try.ntmps30
  go_wp2
  go_loopw [5] (fun i wr => SameN l w i wr) (fun i _ => n - (intOf i).toNat)
  case atStart => exact ⟨0, 0, Nat.zero_le _, rfl, rfl⟩
  case round =>
    obtain ⟨k, d, hk, rfl, rfl⟩ := hrel
    have hkn : k ≤ n := by rw [← HN.out]; exact hk
    clear hk
    by_cases hlt : k < n
    · obtain ⟨x, hx⟩ := some_of_lt (l := l) (k := k) (by rw [HN.out]; exact hlt)
      obtain ⟨y, hy⟩ := some_of_lt (l := m) (k := k) (by rw [HM.out]; exact hlt)
      have e := HH.out k x y hx hy
      unfold pEqual at e
      rw [Bool.and_eq_true, feq_cn, feq_cn] at e
      have e1 := e.1
      have e2 := e.2
      have hxv : (nums l)[k]? = some (.complex .f64 x.1 x.2) := by simp [nums, hx]
      have hyv : (nums m)[k]? = some (.complex .f64 y.1 y.2) := by simp [nums, hy]
      obtain ⟨ad, rfl, _, hc1⟩ := HA.out.at_ hxv
      obtain ⟨bd, rfl, _, hc2⟩ := HB.out.at_ hyv
      clear hx hy hxv hyv e
      go_wp2
      go_quiet (fail)
      go_wp2
      go_roundw
      case rel => exact ⟨k + 1, _, by rw [HN.out]; omega, by go_num, rfl⟩
      case measure => simp [intOf]; omega
    · go_wp2
      go_ret
      exact closeB rfl
end Go.Proofs.Ytibjkmjccelcaaa
namespace Go.Proofs.Ytibjkmjccelcaaa
open Go.RowKit Fl Ieee
set_option maxRecDepth 20000
attribute [local go_sem] run_store_float run_store_complex
end Go.Proofs.Ytibjkmjccelcaaa
namespace Go.Proofs.Ytibjkmjccelcaaa
open Go.RowKit Fl Ieee
set_option maxRecDepth 20000
theorem bb_of_b {P : Program} {f : FuncId} {args : Array Value} {W : World} {b : Bool} (h : Calls P f args W (RetB b W)) : Calls P f args W (RetBB b W) :=
  h.mono fun _ _ ⟨n, he, hw⟩ => ⟨he, by rw [hw]; exact below_drewN (Below.refl _ W) n⟩
theorem frame3b {w W1 : World} {r c r' c' r'' c'' : Int} {s s' s'' : Value} {t t' t'' : TypeId}
    (hb : Below (((w.alloc (.cells #[.int .i64 r, .int .i64 c, s] t)).alloc (.cells #[.int .i64 r', .int .i64 c', s'] t')).alloc (.cells #[.int .i64 r'', .int .i64 c'', s''] t'')).heap.size
      (((w.alloc (.cells #[.int .i64 r, .int .i64 c, s] t)).alloc (.cells #[.int .i64 r', .int .i64 c', s'] t')).alloc (.cells #[.int .i64 r'', .int .i64 c'', s''] t'')) W1) :
    Box W1 w.heap.size r c s ∧ Box W1 (w.heap.size + 1) r' c' s' ∧ Box W1 (w.heap.size + 2) r'' c'' s'' ∧ Below w.heap.size w W1 ∧ w.heap.size + 3 ≤ W1.heap.size := by
  obtain ⟨w1, hw1⟩ : ∃ w1, w1 = w.alloc (.cells #[.int .i64 r, .int .i64 c, s] t) := ⟨_, rfl⟩
  have e1 : w1.heap.size = w.heap.size + 1 := by rw [hw1]; simp
  rw [← hw1] at hb
  obtain ⟨h1, h2, h3, h4⟩ := frame2b hb
  rw [e1] at h1 h2 h4
  rw [hw1] at h3
  obtain ⟨h5, h6, h7⟩ := frame0 h3
  exact ⟨h5, h1, h2, h6, h4⟩
theorem both_bad_of {ra ca rb cb : Int} {na nb : Nat} (h : (okM ra ca na && okM rb cb nb && (ra == rb) && (ca == cb)) = false) : okM ra ca na = false ∨ (okM ra ca na = true ∧ (okM rb cb nb = false ∨ (ra == rb) = false ∨ ((ra == rb) = true ∧ (ca == cb) = false))) := by
  cases h1 : okM ra ca na
  · exact .inl rfl
  · cases h2 : okM rb cb nb
    · exact .inr ⟨rfl, .inl rfl⟩
    · cases h3 : (ra == rb)
      · exact .inr ⟨rfl, .inr (.inl rfl)⟩
      · rw [h1, h2, h3] at h
        exact .inr ⟨rfl, .inr (.inr ⟨rfl, by simpa using h⟩)⟩
theorem SameMatrix_u (r c : Int) (A B : Option Addr) (l m : List C) (ca cb : Nat) (w : World) (h : l.map cnC = m.map cnC) (hmax : l.length ≤ 4096) (hA : Reads w w.heap.size A (nums l)) (hB : Reads w w.heap.size B (nums m)) :
    Calls Try.prog 14 #[mval r c (.slice A l.length ca), mval r c (.slice B m.length cb)] w (RetBB true w) := by
  have e : m.length = l.length := by have := congrArg List.length h; simpa using this.symm
  rw [e]
  exact SameMatrix_t r c A B l m l.length ca cb w rfl e h (by omega) hA hB
theorem okN {r c : Nat} {l : List C} (hr : r ≤ 64) (hc : c ≤ 64) (hl : l.length = r * c) : okM r c l.length = true := okM_iff.2 ⟨by omega, by omega, by omega, by omega, by rw [hl, Int.natCast_mul]⟩
end Go.Proofs.Ytibjkmjccelcaaa
