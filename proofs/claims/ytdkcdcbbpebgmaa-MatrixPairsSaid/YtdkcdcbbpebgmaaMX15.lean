/- Layer 7: two matrices held against each other. -/
import Derived.Test.YtdkcdcbbpebgmaaMX10
import Derived.Test.YtdkcdcbbpebgmaaT04B
namespace Go.Proofs.Ytdkcdcbbpebgmaa
open Go.RowKit Fl Ieee
set_option maxRecDepth 20000
attribute [local go_sem] run_store_float run_store_complex
theorem frame2b {w W1 : World} {r c r' c' : Int} {s s' : Value} {t t' : TypeId}
    (hb : Below ((w.alloc (.cells #[.int .i64 r, .int .i64 c, s] t)).alloc (.cells #[.int .i64 r', .int .i64 c', s'] t')).heap.size
      ((w.alloc (.cells #[.int .i64 r, .int .i64 c, s] t)).alloc (.cells #[.int .i64 r', .int .i64 c', s'] t')) W1) :
    Box W1 w.heap.size r c s ∧ Box W1 (w.heap.size + 1) r' c' s' ∧ Below w.heap.size w W1 ∧ w.heap.size + 2 ≤ W1.heap.size := by
  obtain ⟨w1, hw1⟩ : ∃ w1, w1 = w.alloc (.cells #[.int .i64 r, .int .i64 c, s] t) := ⟨_, rfl⟩
  have e1 : w1.heap.size = w.heap.size + 1 := by rw [hw1]; simp
  rw [← hw1] at hb
  obtain ⟨h1, h2, h3⟩ := frame0 hb
  rw [e1] at h1 h3
  rw [hw1] at h2
  obtain ⟨h4, h5, h6⟩ := frame0 h2
  exact ⟨h4, h1, h5, h3⟩
/-- Told true or false; only new blocks and draws. -/
def RetBB (b : Bool) (w : World) (e : Ending) (w' : World) : Prop := e = .returned (.bool b) ∧ Below w.heap.size w w'
theorem SameMatrix_t (r c : Int) (A B : Option Addr) (l m : List C) (n ca cb : Nat) (w : World) (hn : l.length = n) (hm : m.length = n) (h : l.map cnC = m.map cnC) (hmax : n ≤ 4611686018427387904)
    (hA : Reads w w.heap.size A (nums l)) (hB : Reads w w.heap.size B (nums m)) :
    Calls Try.prog 24 #[mval r c (.slice A n ca), mval r c (.slice B n cb)] w (RetBB true w) := by
  have hb0 : Below w.heap.size w ((w.alloc (.cells #[.int .i64 r, .int .i64 c, .slice A n ca] 28)).alloc (.cells #[.int .i64 r, .int .i64 c, .slice B n cb] 28)) :=
    ((Below.refl _ w).new (Nat.le_refl _) _).new (Nat.le_refl _) _
  have HS := Lib.hid (SameNumbers_t A B l m n ca cb _ hn hm h hmax ((hA.below hb0).more hb0.size) ((hB.below hb0).more hb0.size))
  have HB := Lib.hid hb0
  clear hn hm h hmax hA hB hb0
  go_enter Try.func24, Try.ntmps24
  go_wp2_with fail
  refine HS.out.mono ?_
  rintro e W1 ⟨k, rfl, rfl⟩
  go_wp2
  go_ret
  exact ⟨rfl, below_drewN HB.out k⟩
def allLike (lk : C → C → Bool) (la lb : List C) : Bool := (List.range la.length).all fun k => lk (cnC (la.getD k (0, 0))) (cnC (lb.getD k (0, 0)))
theorem held_first (G : FuncId) (ra ca rb cb : Int) (A B : Option Addr) (na nb capa capb : Nat) (w : World) (h : okM ra ca na = false) :
    Calls Try.prog 87 #[mval ra ca (.slice A na capa), mval rb cb (.slice B nb capb), .func (.func G) #[] #[]] w (RetBB false w) := by
  have HC := Lib.hid (Check_c ra ca A na capa)
  rw [h] at HC
  go_enter Try.func87, Try.ntmps87
  go_wp2_with fail
  refine (HC.out _).mono ?_
  rintro e W1 ⟨rfl, hb⟩
  obtain ⟨⟨b0, b1, b2⟩, ⟨d0, d1, d2⟩, hbl, hs1⟩ := frame2b hb
  have HB := Lib.hid hbl
  clear hb hbl h hs1
  go_wp2
  go_ret
  exact ⟨rfl, HB.out⟩
theorem held_second (G : FuncId) (ra ca rb cb : Int) (A B : Option Addr) (na nb capa capb : Nat) (w : World) (h : okM ra ca na = true) (h' : okM rb cb nb = false ∨ (ra == rb) = false ∨ ((ra == rb) = true ∧ (ca == cb) = false)) :
    Calls Try.prog 87 #[mval ra ca (.slice A na capa), mval rb cb (.slice B nb capb), .func (.func G) #[] #[]] w (RetBB false w) := by
  have HC := Lib.hid (Check_c ra ca A na capa)
  have HD := Lib.hid (Check_c rb cb B nb capb)
  rw [h] at HC
  go_enter Try.func87, Try.ntmps87
  go_wp2_with fail
  refine (HC.out _).mono ?_
  rintro e W1 ⟨rfl, hb⟩
  obtain ⟨⟨b0, b1, b2⟩, ⟨d0, d1, d2⟩, hbl, hs1⟩ := frame2b hb
  have HB := Lib.hid hbl
  have HS := Lib.hid hs1
  have HX := Lib.hid (And.intro b0 (And.intro b1 b2))
  have HY := Lib.hid (And.intro d0 (And.intro d1 d2))
  clear hb hbl h hs1
  go_wp2_with fail
  refine (HD.out _).mono ?_
  rintro e W2 ⟨rfl, hb2⟩
  have l0 : w.heap.size < W1.heap.size := by have := HS.out; omega
  have l1 : w.heap.size + 1 < W1.heap.size := by have := HS.out; omega
  obtain ⟨e0, e1, e2⟩ := Box.below (W := W1) HX.out hb2 l0
  obtain ⟨g0, g1, g2⟩ := Box.below (W := W1) HY.out hb2 l1
  have HB2 := Lib.hid (HB.out.trans (hb2.mono (Nat.le_of_lt l0)))
  clear hb2 l0 l1 b0 b1 b2 d0 d1 d2
  rcases h' with h' | h' | ⟨h', h''⟩
  · rw [h']
    go_wp2
    go_ret
    exact ⟨rfl, HB2.out⟩
  · go_wp2
    all_goals
      go_ret
      exact ⟨rfl, HB2.out⟩
  · have e1 : ra = rb := by simpa using h'
    subst e1
    clear h'
    go_wp2
    all_goals
      go_ret
      exact ⟨rfl, HB2.out⟩
def HeldR (lk : C → C → Bool) (la lb : List C) (i : Value) : Prop := ∃ k : Nat, k ≤ la.length ∧ i = .int .i64 (k : Nat) ∧ ∀ j, j < k → lk (cnC (la.getD j (0, 0))) (cnC (lb.getD j (0, 0))) = true
theorem allLike_t {lk : C → C → Bool} {la lb : List C} (h : ∀ j, j < la.length → lk (cnC (la.getD j (0, 0))) (cnC (lb.getD j (0, 0))) = true) : allLike lk la lb = true := by
  unfold allLike; rw [List.all_eq_true]; intro j hj; exact h j (by simpa using hj)
theorem allLike_f {lk : C → C → Bool} {la lb : List C} {k : Nat} (hk : k < la.length) (h : lk (cnC (la.getD k (0, 0))) (cnC (lb.getD k (0, 0))) = false) : allLike lk la lb = false := by
  rw [Bool.eq_false_iff]; intro h1
  have := List.all_eq_true.1 h1 k (by simpa using hk)
  rw [h] at this; cases this
set_option maxHeartbeats 1000000 in
theorem held_c (G : FuncId) (lk : C → C → Bool) (hG : ∀ (args : Array Value) (W : World), (callFunc G args).run Try.prog W = .ok (.enter G args) W)
    (hop : ∀ (p q : C) (V : World), Calls Try.prog G #[.complex .f64 p.1 p.2, .complex .f64 q.1 q.2] V fun e w' => e = .returned (.bool (lk (cnC p) (cnC q))) ∧ V = w')
    (r c : Int) (A B : Option Addr) (la lb : List C) (capa capb : Nat) (w : World) (hoa : okM r c la.length = true) (hob : okM r c lb.length = true)
    (hA : Reads w w.heap.size A (nums la)) (hB : Reads w w.heap.size B (nums lb)) :
    Calls Try.prog 87 #[mval r c (.slice A la.length capa), mval r c (.slice B lb.length capb), .func (.func G) #[] #[]] w (RetBB (allLike lk la lb) w) := by
  have hle := okM_iff.1 hoa
  have hle' := okM_iff.1 hob
  have hll : la.length = lb.length := by
    have h1 := hle.2.2.2.2
    have h2 := hle'.2.2.2.2
    rw [← h2] at h1; exact Int.ofNat_inj.1 h1
  have hmx : la.length ≤ 4096 := by
    obtain ⟨h1, h2, h3, h4, h5⟩ := hle
    have h6 : r * c ≤ 64 * 64 := Int.mul_le_mul h2 h4 h3 (by omega)
    omega
  have HC := Lib.hid (Check_c r c A la.length capa)
  have HD := Lib.hid (Check_c r c B lb.length capb)
  rw [hoa] at HC
  rw [hob] at HD
  have HA := Lib.hid hA
  have HBb := Lib.hid hB
  have HOP := Lib.hid hop
  have HLL := Lib.hid hll
  have HMX := Lib.hid hmx
  clear hoa hob hA hB hop hle hle' hll hmx
  go_enter Try.func87, Try.ntmps87
  go_wp2_with fail
  refine (HC.out _).mono ?_
  rintro e W1 ⟨rfl, hb⟩
  obtain ⟨⟨b0, b1, b2⟩, ⟨d0, d1, d2⟩, hbl, hs1⟩ := frame2b hb
  have HB := Lib.hid hbl
  have HS := Lib.hid hs1
  have HX := Lib.hid (And.intro b0 (And.intro b1 b2))
  have HY := Lib.hid (And.intro d0 (And.intro d1 d2))
  clear hb hbl hs1
  go_wp2_with fail
  refine (HD.out _).mono ?_
  rintro e W2 ⟨rfl, hb2⟩
  have l0 : w.heap.size < W1.heap.size := by have := HS.out; omega
  have l1 : w.heap.size + 1 < W1.heap.size := by have := HS.out; omega
  obtain ⟨e0, e1, e2⟩ := Box.below (W := W1) HX.out hb2 l0
  obtain ⟨g0, g1, g2⟩ := Box.below (W := W1) HY.out hb2 l1
  have HB2 := Lib.hid (HB.out.trans (hb2.mono (Nat.le_of_lt l0)))
  clear hb2 l0 l1 b0 b1 b2 d0 d1 d2
  go_wp2
  go_loop [34] (fun i => HeldR lk la lb i) (fun i => la.length - (intOf i).toNat)
  case atStart => exact ⟨0, Nat.zero_le _, rfl, fun j hj => absurd hj (Nat.not_lt_zero _)⟩
  case round =>
    obtain ⟨k, hk, rfl, hall⟩ := hrel
    have HAll := Lib.hid hall
    clear hall
    by_cases hlt : k < la.length
    · have hltb : k < lb.length := by rw [← HLL.out]; exact hlt
      obtain ⟨x, hx⟩ := some_of_lt (l := la) (k := k) hlt
      obtain ⟨y, hy⟩ := some_of_lt (l := lb) (k := k) hltb
      have ex : la.getD k (0, 0) = x := by rw [List.getD_eq_getElem?_getD, hx]; rfl
      have ey : lb.getD k (0, 0) = y := by rw [List.getD_eq_getElem?_getD, hy]; rfl
      have hxv : (nums la)[k]? = some (.complex .f64 x.1 x.2) := by simp [nums, hx]
      have hyv : (nums lb)[k]? = some (.complex .f64 y.1 y.2) := by simp [nums, hy]
      obtain ⟨ad, rfl, _, hc1⟩ := (HA.out.below HB2.out).at_ hxv
      obtain ⟨bd, rfl, _, hc2⟩ := (HBb.out.below HB2.out).at_ hyv
      have HLK := Lib.hid (show lk (cnC (la.getD k (0, 0))) (cnC (lb.getD k (0, 0))) = lk (cnC x) (cnC y) by rw [ex, ey])
      have hkb : k < 4611686018427387904 := by have := HMX.out; omega
      clear hx hy hxv hyv ex ey
      go_wp2_with fail
      refine (HOP.out (_, _) (_, _) _).mono ?_
      rintro e w' ⟨rfl, rfl⟩
      cases hlk : lk (cnC x) (cnC y)
      · go_wp2
        go_ret
        exact ⟨ret_bool (allLike_f hlt (HLK.out.trans hlk)).symm, HB2.out⟩
      · have HK1 := Lib.hid (HLK.out.trans hlk)
        go_wp2
        go_round
        case rel =>
          refine ⟨k + 1, hlt, by go_num, fun j hj => ?_⟩
          rcases Nat.lt_or_ge j k with h | h
          · exact HAll.out j h
          · have : j = k := by omega
            subst this; exact HK1.out
        case measure => simp [intOf]; omega
    · have e : k = la.length := by omega
      subst e
      go_wp2
      go_ret
      exact ⟨ret_bool (allLike_t HAll.out).symm, HB2.out⟩
end Go.Proofs.Ytdkcdcbbpebgmaa
