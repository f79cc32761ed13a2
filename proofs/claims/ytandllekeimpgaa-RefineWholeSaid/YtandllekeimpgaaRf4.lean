/- Layer 11: what a solution leaves over: of anything. -/
import Derived.Test.YtandllekeimpgaaRf3
import Derived.Test.YtandllekeimpgaaRf2
import Derived.Test.YtandllekeimpgaaMX1
import Derived.Test.YtandllekeimpgaaExt
import Derived.Deep.DeepCutAuto
namespace Go.Proofs.Ytandllekeimpgaa
open Go.RowKit Fl Ieee
set_option maxRecDepth 20000
attribute [local go_sem] run_store_float run_store_complex Fl.order_self Fl.order_self' Fl.order_eq Fl.order_ne Fl.order_lt Fl.order_gt
theorem Left_shape (r c : Int) (A Ax Ab : Option Addr) (n cap nx cx nb cb : Nat) (w : World) (h : ¬(okM r c n = true ∧ (nx : Int) = c ∧ (nb : Int) = r)) :
    Calls Try.prog 12 #[mval r c (.slice A n cap), .slice Ax nx cx, .slice Ab nb cb] w (RetLf [] 4 w) := by
  obtain ⟨W0, hW0⟩ : ∃ W0, W0 = w.alloc (.cells #[.int .i64 r, .int .i64 c, .slice A n cap] 28) := ⟨_, rfl⟩
  have hrow : W0.heap[w.heap.size]? = some (.cells #[.int .i64 r, .int .i64 c, .slice A n cap] 28) := by rw [hW0]; exact heap_alloc_new _ _
  have HB0 := Lib.hid (show Below w.heap.size w W0 by rw [hW0]; exact below_new _ _)
  have HRow := Lib.hid hrow
  have HW := Lib.hid hW0
  have HCk := Lib.hid (Check_c r c A n cap)
  obtain ⟨ok, hok⟩ : ∃ ok, ok = okM r c n := ⟨_, rfl⟩
  rw [← hok] at HCk h
  have HSz := Lib.hid (show w.heap.size < W0.heap.size by rw [hW0]; simp)
  clear hok hW0 hrow
  go_enter Try.func12, Try.ntmps12
  go_upto_region 1 with fail
  rw [← HW.out]
  clear HW
  obtain ⟨c0, c1, c2, -⟩ := box3 HRow.out
  cases ok
  · rw [if_neg (by decide)] at HCk
    clear h
    go_wp2_with fail
    refine (HCk.out _).mono ?_
    rintro e W1 ⟨rfl, hb1⟩
    have HB1 := Lib.hid (HB0.out.trans (hb1.mono HB0.out.size))
    clear hb1
    go_wp2
    go_ret2
    exact ⟨_, rfl, World.ownsRow_nil _ _ _ _, HB1.out⟩
  · rw [if_pos rfl] at HCk
    have HH := Lib.hid h
    clear h
    go_wp2_with fail
    refine (HCk.out _).mono ?_
    rintro e W1 ⟨rfl, hb1⟩
    have HB1 := Lib.hid (HB0.out.trans (hb1.mono HB0.out.size))
    have hrow1 : W1.heap[w.heap.size]? = some (.cells #[.int .i64 r, .int .i64 c, .slice A n cap] 28) := by rw [hb1.block _ HSz.out]; exact HRow.out
    obtain ⟨d0, d1, d2, -⟩ := box3 hrow1
    clear hb1 hrow1 c0 c1 c2
    by_cases hx : (nx : Int) = c
    · have hb : ¬ (nb : Int) = r := fun h => HH.out ⟨trivial, hx, h⟩
      have hx' : ((nx : Int) != c) = false := by simp [hx]
      have hb' : ((nb : Int) != r) = true := by simp [hb]
      clear hx hb
      go_wp2
      go_ret2
      exact ⟨_, rfl, World.ownsRow_nil _ _ _ _, HB1.out⟩
    · have hx' : ((nx : Int) != c) = true := by simp [hx]
      clear hx
      go_wp2
      go_ret2
      exact ⟨_, rfl, World.ownsRow_nil _ _ _ _, HB1.out⟩
theorem Left_num (r c : Nat) (A Ax Ab : Option Addr) (m x b : List C) (cap cx cb : Nat) (w : World) (hr : r ≤ 64) (hc : c ≤ 64) (hm : m.length = r * c) (hx : x.length = c) (hb : b.length = r)
    (hbad : ¬((m.all pFinite = true ∧ x.all pFinite = true) ∧ b.all pFinite = true)) (lm : ltCs m) (lx : ltCs x) (lb : ltCs b) (rm : Reads w w.heap.size A (nums m)) (rx : Reads w w.heap.size Ax (nums x)) (rb : Reads w w.heap.size Ab (nums b)) :
    Calls Try.prog 12 #[mval r c (.slice A m.length cap), .slice Ax x.length cx, .slice Ab b.length cb] w (RetLf [] 5 w) := by
  obtain ⟨M, hM⟩ : ∃ M, M = m.length := ⟨_, rfl⟩
  obtain ⟨W0, hW0⟩ : ∃ W0, W0 = w.alloc (.cells #[.int .i64 (r : Nat), .int .i64 (c : Nat), .slice A M cap] 28) := ⟨_, rfl⟩
  have hrow : W0.heap[w.heap.size]? = some (.cells #[.int .i64 (r : Nat), .int .i64 (c : Nat), .slice A M cap] 28) := by rw [hW0]; exact heap_alloc_new _ _
  have hb0 : Below w.heap.size w W0 := by rw [hW0]; exact below_new _ _
  have HB0 := Lib.hid hb0
  have HRow := Lib.hid hrow
  have HW := Lib.hid hW0
  have HSz := Lib.hid (show w.heap.size < W0.heap.size by rw [hW0]; simp)
  have hok : okM r c M = true := okM_iff.2 ⟨by omega, by omega, by omega, by omega, by rw [hM, hm]; simp⟩
  have HCk := Lib.hid (Check_c r c A M cap)
  rw [hok, if_pos rfl] at HCk
  have HFm := Lib.hid (finite11_c A m cap · lm (by have := Nat.mul_le_mul hr hc; omega))
  have HFx := Lib.hid (finite11_c Ax x cx · lx (by omega))
  have HFb := Lib.hid (finite11_c Ab b cb · lb (by omega))
  rw [← hM] at HFm ⊢
  rw [hx] at HFx ⊢
  rw [hb] at HFb ⊢
  obtain ⟨fm, hfm⟩ : ∃ fm, fm = m.all pFinite := ⟨_, rfl⟩
  obtain ⟨fx, hfx⟩ : ∃ fx, fx = x.all pFinite := ⟨_, rfl⟩
  obtain ⟨fb, hfb⟩ : ∃ fb, fb = b.all pFinite := ⟨_, rfl⟩
  rw [← hfm] at HFm hbad
  rw [← hfx] at HFx hbad
  rw [← hfb] at HFb hbad
  have HRm := Lib.hid ((rm.below hb0).more hb0.size)
  have HRx := Lib.hid ((rx.below hb0).more hb0.size)
  have HRb := Lib.hid ((rb.below hb0).more hb0.size)
  have HBad := Lib.hid hbad
  clear hfm hfx hfb hbad rm rx rb hb0 hrow hok hM hm hx hb lm lx lb hW0
  go_enter Try.func12, Try.ntmps12
  go_upto_region 1 with fail
  rw [← HW.out]
  clear HW
  obtain ⟨c0, c1, c2, -⟩ := box3 HRow.out
  go_wp2_with fail
  refine (HCk.out _).mono ?_
  rintro e W1 ⟨rfl, hb1⟩
  have HB1 := Lib.hid hb1
  have hrow1 : W1.heap[w.heap.size]? = some (.cells #[.int .i64 (r : Nat), .int .i64 (c : Nat), .slice A M cap] 28) := by rw [hb1.block _ HSz.out]; exact HRow.out
  obtain ⟨d0, d1, d2, -⟩ := box3 hrow1
  clear hb1 hrow1 c0 c1 c2 HCk
  go_wp2_with fail
  refine (HFm.out _ ((HRm.out.below HB1.out).more HB1.out.size)).mono ?_
  rintro e W2' ⟨n, rfl, W2e⟩
  obtain ⟨W2, hW2⟩ : ∃ V, V = W2' := ⟨_, rfl⟩
  have HB2 := Lib.hid (show Below W0.heap.size W0 W2 by rw [hW2, W2e]; exact below_drewN HB1.out n)
  rw [← hW2]
  clear W2e hW2 HFm HB1
  have HBw := Lib.hid (HB0.out.trans (HB2.out.mono HB0.out.size))
  cases fm
  · go_wp2
    go_ret2
    exact ⟨_, rfl, World.ownsRow_nil _ _ _ _, HBw.out⟩
  · go_wp2_with fail
    refine (HFx.out _ ((HRx.out.below HB2.out).more HB2.out.size)).mono ?_
    rintro e W3' ⟨n, rfl, W3e⟩
    obtain ⟨W3, hW3⟩ : ∃ V, V = W3' := ⟨_, rfl⟩
    have HB3 := Lib.hid (show Below W0.heap.size W0 W3 by rw [hW3, W3e]; exact below_drewN HB2.out n)
    rw [← hW3]
    clear W3e hW3 HFx HB2 HBw
    have HBw := Lib.hid (HB0.out.trans (HB3.out.mono HB0.out.size))
    cases fx
    · go_wp2
      go_ret2
      exact ⟨_, rfl, World.ownsRow_nil _ _ _ _, HBw.out⟩
    · go_wp2_with fail
      refine (HFb.out _ ((HRb.out.below HB3.out).more HB3.out.size)).mono ?_
      rintro e W4' ⟨n, rfl, W4e⟩
      obtain ⟨W4, hW4⟩ : ∃ V, V = W4' := ⟨_, rfl⟩
      have HB4 := Lib.hid (show Below W0.heap.size W0 W4 by rw [hW4, W4e]; exact below_drewN HB3.out n)
      rw [← hW4]
      clear W4e hW4 HFb HB3 HBw
      have HBw := Lib.hid (HB0.out.trans (HB4.out.mono HB0.out.size))
      cases fb
      · go_wp2
        go_ret2
        exact ⟨_, rfl, World.ownsRow_nil _ _ _ _, HBw.out⟩
      · exact absurd (by simp) HBad.out
/-- What Left tells: the error, the list. -/
def shape11 (r c : Int) (m x b : List C) : Bool := okM r c m.length && decide ((x.length : Int) = c) && decide ((b.length : Int) = r)
def num11 (m x b : List C) : Bool := m.all pFinite && x.all pFinite && b.all pFinite
def leftE (r c : Int) (m x b : List C) : Int := if shape11 r c m x b then (if num11 m x b then (if (leftL r.toNat c.toNat m x b).all pFinite then 0 else 6) else 5) else 4
def leftR (r c : Int) (m x b : List C) : List C := if leftE r c m x b = 0 then leftL r.toNat c.toNat m x b else []
theorem Left_c (r c : Int) (A Ax Ab : Option Addr) (m x b : List C) (cap cx cb : Nat) (w : World) (hcap : m.length ≤ cap) (hcx : x.length ≤ cx) (hcb : b.length ≤ cb) (lm : ltCs m) (lx : ltCs x) (lb : ltCs b)
    (rm : Reads w w.heap.size A (nums m)) (rx : Reads w w.heap.size Ax (nums x)) (rb : Reads w w.heap.size Ab (nums b)) :
    Calls Try.prog 12 #[mval r c (.slice A m.length cap), .slice Ax x.length cx, .slice Ab b.length cb] w (RetLf (leftR r c m x b) (leftE r c m x b) w) := by
  by_cases hs : shape11 r c m x b = true
  · have hs' := hs
    unfold shape11 at hs'
    simp only [Bool.and_eq_true, decide_eq_true_eq] at hs'
    obtain ⟨⟨h1, h2⟩, h3⟩ := hs'
    obtain ⟨k1, k2, k3, k4, k5⟩ := okM_iff.1 h1
    obtain ⟨r, rfl⟩ : ∃ n : Nat, r = (n : Int) := ⟨r.toNat, by omega⟩
    obtain ⟨c, rfl⟩ : ∃ n : Nat, c = (n : Int) := ⟨c.toNat, by omega⟩
    have hm : m.length = r * c := by rw [← Int.natCast_mul] at k5; exact Int.ofNat_inj.1 k5
    by_cases hn : num11 m x b = true
    · have hn' := hn
      unfold num11 at hn'
      simp only [Bool.and_eq_true] at hn'
      have h := Left_good r c A Ax Ab m x b cap cx cb w (by omega) (by omega) hm (by omega) (by omega) hcap hcx hcb (List.all_eq_true.1 hn'.1.1) (List.all_eq_true.1 hn'.1.2) (List.all_eq_true.1 hn'.2) lm lx lb rm rx rb
      have e1 : leftE r c m x b = if (leftL r c m x b).all pFinite then 0 else 6 := by unfold leftE; rw [if_pos hs, if_pos hn]; rfl
      have e2 : leftR r c m x b = if (leftL r c m x b).all pFinite then leftL r c m x b else [] := by
        unfold leftR; rw [e1]
        cases (leftL r c m x b).all pFinite <;> rfl
      rw [e1, e2]; exact h
    · have e1 : leftE r c m x b = 5 := by unfold leftE; rw [if_pos hs, if_neg hn]
      have e2 : leftR r c m x b = [] := by unfold leftR; rw [e1]; rfl
      rw [e1, e2]
      exact Left_num r c A Ax Ab m x b cap cx cb w (by omega) (by omega) hm (by omega) (by omega) (fun h => hn (by unfold num11; rw [h.1.1, h.1.2, h.2]; rfl)) lm lx lb rm rx rb
  · have e1 : leftE r c m x b = 4 := by unfold leftE; rw [if_neg hs]
    have e2 : leftR r c m x b = [] := by unfold leftR; rw [e1]; rfl
    rw [e1, e2]
    exact Left_shape r c A Ax Ab m.length cap x.length cx b.length cb w (fun h => hs (by unfold shape11; rw [h.1, decide_eq_true h.2.1, decide_eq_true h.2.2]; rfl))
end Go.Proofs.Ytandllekeimpgaa
