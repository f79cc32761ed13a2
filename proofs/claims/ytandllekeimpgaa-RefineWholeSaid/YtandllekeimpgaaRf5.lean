/- Layer 11: lives: the document's examples. -/
import Derived.Test.YtandllekeimpgaaRf4
import Derived.Test.YtandllekeimpgaaLW3
import Derived.Test.YtandllekeimpgaaLdx
import Derived.Test.YtandllekeimpgaaMX1
import Derived.Test.YtandllekeimpgaaExt
import Derived.Deep.DeepCutAuto
import Derived.Deep.QuietTactic
namespace Go.Proofs.Ytandllekeimpgaa
open Go.RowKit Fl Ieee
set_option maxRecDepth 20000
attribute [local go_sem] run_store_float run_store_complex Fl.order_self Fl.order_self' Fl.order_eq Fl.order_ne Fl.order_lt Fl.order_gt
theorem three_c (w : World) : Calls Try.prog 26 #[] w (RetMs 1 1 [(4613937818241073152, 0)] w) := by
  go_enter Try.func26, Try.ntmps26
  go_wp2
  refine bodyPost_ret (v := mval 1 1 (.slice (some ⟨w.heap.size + 1, 0, none⟩) 1 1)) (by simp [results, Try.results26, go_sem]) rfl ?_
  exact ⟨_, rfl, own_new (o := .cells #[.int .i64 1, .int .i64 1, .slice (some ⟨w.heap.size + 1, 0, none⟩) 1 1] 28) (l := [(4613937818241073152, 0)]) (by show 1 ≤ maxLen; decide), ((below_new _ _).new (Nat.le_refl _) _)⟩
def th : List C := [(4613937818241073152, 0)]
def x21 : List C := [(4611686018427387904, 4607182418800017408)]
def b73 : List C := [(4619567317775286272, 4613937818241073152)]
def x13 : List C := [(4599676419421066581, 0)]
def b10 : List C := [(4607182418800017408, 0)]
theorem lf1 : leftE 1 1 th x21 b73 = 0 ∧ leftR 1 1 th x21 b73 = [(4607182418800017408, 0)] := by decide +kernel
theorem lf2 : leftE 1 1 th x13 b10 = 0 ∧ leftR 1 1 th x13 b10 = [(4363988038922010624, 0)] := by decide +kernel
theorem one_lt (a b : Nat) (ha : a < 18446744073709551616) (hb : b < 18446744073709551616) : ltCs [(a, b)] := by
  intro z hz
  rw [List.mem_singleton.1 hz]
  exact ⟨ha, hb⟩
theorem add_nought (a : Addr) : a.add 0 = a := by
  obtain ⟨b, o, s⟩ := a
  unfold Addr.add
  split <;> simp_all
theorem two_lists (W : World) (x b : List C) (ox ob : Obj) (hx : ox = .cells (nums x).toArray 45) (hb : ob = .cells (nums b).toArray 45) :
    Reads ((W.alloc ox).alloc ob) ((W.alloc ox).alloc ob).heap.size (some ⟨W.heap.size, 0, none⟩) (nums x) ∧ Reads ((W.alloc ox).alloc ob) ((W.alloc ox).alloc ob).heap.size (some ⟨W.heap.size + 1, 0, none⟩) (nums b) ∧ Below W.heap.size W ((W.alloc ox).alloc ob) := by
  subst hx hb
  have b1 := below_new (W.alloc (.cells (nums x).toArray 45)) (.cells (nums b).toArray 45)
  refine ⟨?_, ?_, (below_new W _).trans (b1.mono (below_new W _).size)⟩
  · have h := (Reads.new W 45 (nums x)).more (show W.heap.size + 1 ≤ (W.alloc (.cells (nums x).toArray 45)).heap.size by simp)
    exact (h.below b1).more b1.size
  · exact (Reads.newAt (W.alloc (.cells (nums x).toArray 45)) 45 (nums b) (by simp)).more (by simp)
theorem left_on (W : World) (A : Option Addr) (cap : Nat) (x b : List C) (ox ob : Obj) (r : C) (hx : ox = .cells (nums x).toArray 45) (hb : ob = .cells (nums b).toArray 45) (lx : ltCs x) (lb : ltCs b) (nx : x.length = 1) (nb : b.length = 1) (hcap : 1 ≤ cap) (hr : Reads W W.heap.size A (nums th))
    (he : leftE 1 1 th x b = 0 ∧ leftR 1 1 th x b = [r]) : Calls Try.prog 12 #[mval 1 1 (.slice A 1 cap), .slice (some ⟨W.heap.size, 0, none⟩) 1 1, .slice (some ⟨W.heap.size + 1, 0, none⟩) 1 1] ((W.alloc ox).alloc ob) (RetLf [r] 0 ((W.alloc ox).alloc ob)) := by
  obtain ⟨r1, r2, r3⟩ := two_lists W x b ox ob hx hb
  have h := Left_c 1 1 A (some ⟨W.heap.size, 0, none⟩) (some ⟨W.heap.size + 1, 0, none⟩) th x b cap 1 1 ((W.alloc ox).alloc ob) hcap (by omega) (by omega) (one_lt _ _ (by decide) (by decide)) lx lb ((hr.below r3).more r3.size) r1 r2
  rw [he.1, he.2, nx, nb] at h
  exact h
set_option maxHeartbeats 400000 in
theorem lives_c (w : World) : Calls Try.prog 7 #[] w (RetV (.bool true) w) := by
  go_enter Try.func7, Try.ntmps7
  go_wp2_with fail
  refine (three_c _).mono ?_
  rintro e W1 h3
  obtain ⟨A, cap, rfl, hrd, hcap, -, -, hb⟩ := h3.lies
  have HL1 := Lib.hid (left_on W1 A cap x21 b73 (.cells #[.complex .f64 4611686018427387904 4607182418800017408] 45) (.cells #[.complex .f64 4619567317775286272 4613937818241073152] 45) _ rfl rfl (one_lt _ _ (by decide) (by decide)) (one_lt _ _ (by decide) (by decide)) rfl rfl hcap hrd lf1)
  have HB1 := Lib.hid (hb.trans ((two_lists W1 x21 b73 (.cells #[.complex .f64 4611686018427387904 4607182418800017408] 45) (.cells #[.complex .f64 4619567317775286272 4613937818241073152] 45) rfl rfl).2.2.mono hb.size))
  clear h3 hrd hcap hb
  go_wp2_with fail
  refine HL1.out.mono ?_
  rintro e W2 ⟨s2, rfl, hown, hb2⟩
  have HB2 := Lib.hid (HB1.out.trans (hb2.mono HB1.out.size))
  obtain ⟨A2, c2, rfl, hr2, -, -⟩ := own_readsT hown
  have HR2 := Lib.hid hr2
  clear hown hb2 hr2 HL1 HB1
  go_wp2_with fail
  refine (three_c _).mono ?_
  rintro e W3 h3
  obtain ⟨A3, cap3, rfl, hrd, hcap, -, -, hb⟩ := h3.lies
  have HL2 := Lib.hid (left_on W3 A3 cap3 x13 b10 (.cells #[.complex .f64 4599676419421066581 0] 45) (.cells #[.complex .f64 4607182418800017408 0] 45) _ rfl rfl (one_lt _ _ (by decide) (by decide)) (one_lt _ _ (by decide) (by decide)) rfl rfl hcap hrd lf2)
  have hb3 := hb.trans ((two_lists W3 x13 b10 (.cells #[.complex .f64 4599676419421066581 0] 45) (.cells #[.complex .f64 4607182418800017408 0] 45) rfl rfl).2.2.mono hb.size)
  have HR3 := Lib.hid ((HR2.out.below hb3).more hb3.size)
  have HB3 := Lib.hid (HB2.out.trans (hb3.mono HB2.out.size))
  clear h3 hrd hcap hb hb3 HB2 HR2
  go_wp2_with fail
  refine HL2.out.mono ?_
  rintro e W4 ⟨s4, rfl, hown, hb4⟩
  have HB4 := Lib.hid (HB3.out.trans (hb4.mono HB3.out.size))
  obtain ⟨A4, c4, rfl, hr4, -, -⟩ := own_readsT hown
  obtain ⟨a2, rfl, -, h2⟩ := ((HR3.out.below hb4).more hb4.size).at_ (k := 0) (u := .complex .f64 4607182418800017408 0) rfl
  obtain ⟨a4, rfl, -, h4⟩ := hr4.at_ (k := 0) (u := .complex .f64 4363988038922010624 0) rfl
  have c2' : ∀ D, (W4.drewN D).cell? a2 = some (.complex .f64 4607182418800017408 0) := fun _ => by
    have h := h2
    rw [add_nought] at h; exact h
  have c4' : ∀ D, (W4.drewN D).cell? a4 = some (.complex .f64 4363988038922010624 0) := fun _ => by
    have h := h4
    rw [add_nought] at h; exact h
  clear hown hb4 hr4 HR3 HB3 HL2
  have q1 : isNaN FloatKind.f64.format 4607182418800017408 = false := by decide +kernel
  have q2 : isNaN FloatKind.f64.format 0 = false := by decide +kernel
  have q3 : isNaN FloatKind.f64.format 4363988038922010624 = false := by decide +kernel
  have HLd := Lib.hid (fun V => (Ldexp1_c 969 (-54) (by decide) (by decide) (by decide) V).mono (fun e w' h => (show e = .returned (.float .f64 4363988038922010624) ∧ ∃ n, w' = V.drewN n from by
    obtain ⟨y, n, rfl, g, b, rfl⟩ := h
    have hy : y = 4363988038922010624 := cn_only' g (by decide +kernel)
    rw [hy]
    exact ⟨rfl, n, rfl⟩)))
  clear h2 h4
  go_upto_region 3 with fail
  go_quiet (first | (go_at_call 29; with_reducible exact Calls.quiet_of (HLd.out _)))
  go_wp2
  go_ret
  exact ⟨rfl, below_drewN HB4.out _⟩
end Go.Proofs.Ytandllekeimpgaa
