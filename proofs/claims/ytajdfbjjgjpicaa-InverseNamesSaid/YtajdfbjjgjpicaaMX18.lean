/- Layer 7: matrices that are the same, equal; lists that are equal, finite. -/
import Derived.Test.YtajdfbjjgjpicaaMX15
import Derived.Test.YtajdfbjjgjpicaaMX14
import Derived.Test.YtajdfbjjgjpicaaMX10
import Derived.Test.YtajdfbjjgjpicaaHas
namespace Go.Proofs.Ytajdfbjjgjpicaa
open Go.RowKit Fl Ieee
set_option maxRecDepth 20000
attribute [local go_sem] run_store_float run_store_complex Fl.order_self Fl.order_self' Fl.order_eq Fl.order_ne Fl.order_lt Fl.order_gt
set_option maxHeartbeats 1000000 in
theorem EqualNumbers_t (A B : Option Addr) (l m : List C) (n c c' : Nat) (w : World) (hn : l.length = n) (hm : m.length = n) (h : ∀ (k : Nat) (x y : C), l[k]? = some x → m[k]? = some y → pEqual (cnC x) (cnC y) = true) (hmax : n ≤ 4611686018427387904)
    (hA : Reads w w.heap.size A (nums l)) (hB : Reads w w.heap.size B (nums m)) :
    Calls Try.prog 53 #[.slice A n c, .slice B n c'] w (RetB true w) := by
  have HA := Lib.hid hA
  have HB := Lib.hid hB
  have HH := Lib.hid h
  have HN := Lib.hid hn
  have HM := Lib.hid hm
  clear hA hB h hn hm
  go_enter Try.func53, Try.ntmps53
  go_wp2
  go_loopw [5] (fun i wr => SameN l w i wr) (fun i _ => n - (intOf i).toNat)
  case atStart => exact ⟨0, 0, Nat.zero_le _, rfl, rfl⟩
  case round =>
    obtain ⟨k, d, hk, rfl, rfl⟩ := hrel
    have hkn : k ≤ n := by rw [← HN.out]; exact hk
    clear hk
    by_cases hlt : k < n
    · obtain ⟨x, hx⟩ := some_of_lt (l := l) (k := k) (by rw [HN.out]; exact hlt)
      obtain ⟨y, hy⟩ := some_of_lt (l := m) (k := k) (by rw [HM.out]; exact hlt)
      have e := HH.out k x y hx hy
      unfold pEqual at e
      rw [Bool.and_eq_true, feq_cn, feq_cn] at e
      have e1 := e.1
      have e2 := e.2
      have hxv : (nums l)[k]? = some (.complex .f64 x.1 x.2) := by simp [nums, hx]
      have hyv : (nums m)[k]? = some (.complex .f64 y.1 y.2) := by simp [nums, hy]
      obtain ⟨ad, rfl, _, hc1⟩ := HA.out.at_ hxv
      obtain ⟨bd, rfl, _, hc2⟩ := HB.out.at_ hyv
      clear hx hy hxv hyv e
      go_wp2
      go_quiet (fail)
      go_wp2
      go_roundw
      case rel => exact ⟨k + 1, _, by rw [HN.out]; omega, by go_num, rfl⟩
      case measure => simp [intOf]; omega
    · go_wp2
      go_ret
      exact closeB rfl
end Go.Proofs.Ytajdfbjjgjpicaa
namespace Go.Proofs.Ytajdfbjjgjpicaa
open Go.RowKit Fl Ieee
set_option maxRecDepth 20000
attribute [local go_sem] run_store_float run_store_complex
theorem Identity_bad (n : Int) (w : World) (h : decide (n < 0) = true ∨ (decide (n < 0) = false ∧ decide (64 < n) = true)) :
    Calls Try.prog 32 #[.int .i64 n] w (RetMxE 0 0 [] 2 w) := by
  have hrow : (w.alloc (.cells #[.int .i64 0, .int .i64 0, .slice none 0 0] 28)).heap[w.heap.size]? = some (.cells #[.int .i64 0, .int .i64 0, .slice none 0 0] 28) := heap_alloc_new w _
  obtain ⟨r0, r1, r2, fr⟩ := box3 hrow
  have f0 := fr 0
  have f1 := fr 1
  have f2 := fr 2
  clear hrow fr
  simp only [decide_eq_true_eq, decide_eq_false_iff_not] at h
  rcases h with h | ⟨h1, h⟩
  all_goals
    go_enter Try.func32, Try.ntmps32
    go_wp2
    refine bodyPost_ret (v := .tuple #[mval 0 0 (.slice none 0 0), .int .i64 2]) (by simp [results, Try.results32, go_sem]) rfl ?_
    exact ⟨.slice none 0 0, [], rfl, rfl, by simp [ltCs], World.ownsRow_nil _ _ _ _, below_new _ _⟩
end Go.Proofs.Ytajdfbjjgjpicaa
namespace Go.Proofs.Ytajdfbjjgjpicaa
open Go.RowKit Fl Ieee
set_option maxRecDepth 20000
theorem bb_of_b {P : Program} {f : FuncId} {args : Array Value} {W : World} {b : Bool} (h : Calls P f args W (RetB b W)) : Calls P f args W (RetBB b W) :=
  h.mono fun _ _ ⟨n, he, hw⟩ => ⟨he, by rw [hw]; exact below_drewN (Below.refl _ W) n⟩
theorem frame3b {w W1 : World} {r c r' c' r'' c'' : Int} {s s' s'' : Value} {t t' t'' : TypeId}
    (hb : Below (((w.alloc (.cells #[.int .i64 r, .int .i64 c, s] t)).alloc (.cells #[.int .i64 r', .int .i64 c', s'] t')).alloc (.cells #[.int .i64 r'', .int .i64 c'', s''] t'')).heap.size
      (((w.alloc (.cells #[.int .i64 r, .int .i64 c, s] t)).alloc (.cells #[.int .i64 r', .int .i64 c', s'] t')).alloc (.cells #[.int .i64 r'', .int .i64 c'', s''] t'')) W1) :
    Box W1 w.heap.size r c s ∧ Box W1 (w.heap.size + 1) r' c' s' ∧ Box W1 (w.heap.size + 2) r'' c'' s'' ∧ Below w.heap.size w W1 ∧ w.heap.size + 3 ≤ W1.heap.size := by
  obtain ⟨w1, hw1⟩ : ∃ w1, w1 = w.alloc (.cells #[.int .i64 r, .int .i64 c, s] t) := ⟨_, rfl⟩
  have e1 : w1.heap.size = w.heap.size + 1 := by rw [hw1]; simp
  rw [← hw1] at hb
  obtain ⟨h1, h2, h3, h4⟩ := frame2b hb
  rw [e1] at h1 h2 h4
  rw [hw1] at h3
  obtain ⟨h5, h6, h7⟩ := frame0 h3
  exact ⟨h5, h1, h2, h6, h4⟩
theorem both_bad_of {ra ca rb cb : Int} {na nb : Nat} (h : (okM ra ca na && okM rb cb nb && (ra == rb) && (ca == cb)) = false) : okM ra ca na = false ∨ (okM ra ca na = true ∧ (okM rb cb nb = false ∨ (ra == rb) = false ∨ ((ra == rb) = true ∧ (ca == cb) = false))) := by
  cases h1 : okM ra ca na
  · exact .inl rfl
  · cases h2 : okM rb cb nb
    · exact .inr ⟨rfl, .inl rfl⟩
    · cases h3 : (ra == rb)
      · exact .inr ⟨rfl, .inr (.inl rfl)⟩
      · rw [h1, h2, h3] at h
        exact .inr ⟨rfl, .inr (.inr ⟨rfl, by simpa using h⟩)⟩
theorem SameMatrix_u (r c : Int) (A B : Option Addr) (l m : List C) (ca cb : Nat) (w : World) (h : l.map cnC = m.map cnC) (hmax : l.length ≤ 4096) (hA : Reads w w.heap.size A (nums l)) (hB : Reads w w.heap.size B (nums m)) :
    Calls Try.prog 45 #[mval r c (.slice A l.length ca), mval r c (.slice B m.length cb)] w (RetBB true w) := by
  have e : m.length = l.length := by have := congrArg List.length h; simpa using this.symm
  rw [e]
  exact SameMatrix_t r c A B l m l.length ca cb w rfl e h (by omega) hA hB
theorem MSub_c (rows cols : Nat) (A B : Option Addr) (la lb : List C) (capa capb : Nat) (w : World) (hr : rows ≤ 64) (hc : cols ≤ 64) (hla : la.length = rows * cols) (hlb : lb.length = rows * cols)
    (hA : Reads w w.heap.size A (nums la)) (hB : Reads w w.heap.size B (nums lb)) :
    Calls Try.prog 33 #[mval rows cols (.slice A la.length capa), mval rows cols (.slice B lb.length capb)] w (RetMxE rows cols (entries cols (fun i j => pSub (ent la cols i j) (ent lb cols i j)) (rows * cols)) 0 w) :=
  MSub_of _ _ _ _ _ _ A B _ _ capa capb _ 0 w fun V hV => both_c 66 pSub pSub_enters (fun p q V => Sub_c p.1 p.2 q.1 q.2 V) rows cols A B la lb capa capb V hr hc hla hlb ((hA.below hV).more hV.size) ((hB.below hV).more hV.size)
theorem okN {r c : Nat} {l : List C} (hr : r ≤ 64) (hc : c ≤ 64) (hl : l.length = r * c) : okM r c l.length = true := okM_iff.2 ⟨by omega, by omega, by omega, by omega, by rw [hl, Int.natCast_mul]⟩
end Go.Proofs.Ytajdfbjjgjpicaa
