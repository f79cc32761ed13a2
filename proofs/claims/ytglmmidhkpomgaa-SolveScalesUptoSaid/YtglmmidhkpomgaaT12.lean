/- Layer 10: awake: the document's examples. -/
import Derived.Test.YtglmmidhkpomgaaT11
namespace Go.Proofs.Ytglmmidhkpomgaa
open Go.RowKit Fl Ieee
set_option maxRecDepth 20000
attribute [local go_sem] run_store_float run_store_complex Fl.order_self Fl.order_self' Fl.order_eq Fl.order_ne Fl.order_lt Fl.order_gt
theorem max10_gt {P : Program} {x y : Nat} (h : FloatKind.f64.format.order x y = some .gt) (ts : Array TypeId) (t : TypeId) (W : World) :
    (Builtin.max_ ts t #[.float .f64 x, .float .f64 y]).run P W = .ok (.float .f64 x) W := by
  simp [Builtin.max_, Builtin.max2, h]
theorem home_four : HomeOk (4616189618054758400, 0) (4607182418800017408, 0) (2) := fun V => by
  refine home_c (4616189618054758400, 0) (4607182418800017408, 0) (2) 4602678819172646912 4616189618054758400 ⟨by decide, by decide⟩ (by decide) ?_ ?_ ?_ ?_ V
  · exact fun W => by
      have h := max10_gt (P := Try.prog) (x := rung double 4616189618054758400) (y := rung double 0) (by decide +kernel) #[52, 52] 52 W
      rw [show rung double 4616189618054758400 = 4616189618054758400 by decide +kernel] at h ⊢
      exact h
  · exact fun W => Frexp_c 4616189618054758400 1025 0 4602678819172646912 ⟨by decide, by decide +kernel, by decide +kernel, by decide +kernel, by decide +kernel⟩ (by decide +kernel) (by decide) (by decide +kernel) (by decide +kernel) W
  · exact fun W => by
      have h := Ldexp_c 4616189618054758400 1025 0 4607182418800017408 1023 (-2) ⟨by decide, by decide +kernel, by decide +kernel, by decide +kernel, by decide +kernel⟩ (by decide +kernel) (by decide) (by decide +kernel) (by decide +kernel) (by decide) (by decide) (by decide) (by decide) (by show _ < _; decide +kernel) W
      rw [show cn .f64 4607182418800017408 = 4607182418800017408 by decide +kernel] at h
      exact h
  · exact fun W => by
      have h := Ldexp_z 0 (-2) (by decide) (by decide +kernel) W
      rw [show cn .f64 0 = 0 by decide +kernel] at h
      exact h
theorem home_one : HomeOk (4607182418800017408, 0) (4607182418800017408, 0) (0) := fun V => by
  refine home_c (4607182418800017408, 0) (4607182418800017408, 0) (0) 4602678819172646912 4607182418800017408 ⟨by decide, by decide⟩ (by decide) ?_ ?_ ?_ ?_ V
  · exact fun W => by
      have h := max10_gt (P := Try.prog) (x := rung double 4607182418800017408) (y := rung double 0) (by decide +kernel) #[52, 52] 52 W
      rw [show rung double 4607182418800017408 = 4607182418800017408 by decide +kernel] at h ⊢
      exact h
  · exact fun W => Frexp_c 4607182418800017408 1023 0 4602678819172646912 ⟨by decide, by decide +kernel, by decide +kernel, by decide +kernel, by decide +kernel⟩ (by decide +kernel) (by decide) (by decide +kernel) (by decide +kernel) W
  · exact fun W => by
      have h := Ldexp_c 4607182418800017408 1023 0 4607182418800017408 1023 (0) ⟨by decide, by decide +kernel, by decide +kernel, by decide +kernel, by decide +kernel⟩ (by decide +kernel) (by decide) (by decide +kernel) (by decide +kernel) (by decide) (by decide) (by decide) (by decide) (by show _ < _; decide +kernel) W
      rw [show cn .f64 4607182418800017408 = 4607182418800017408 by decide +kernel] at h
      exact h
  · exact fun W => by
      have h := Ldexp_z 0 (0) (by decide) (by decide +kernel) W
      rw [show cn .f64 0 = 0 by decide +kernel] at h
      exact h
theorem home_mhalf : HomeOk (13826050856027422720, 0) (13830554455654793216, 0) (-1) := fun V => by
  refine home_c (13826050856027422720, 0) (13830554455654793216, 0) (-1) 4602678819172646912 4602678819172646912 ⟨by decide, by decide⟩ (by decide) ?_ ?_ ?_ ?_ V
  · exact fun W => by
      have h := max10_gt (P := Try.prog) (x := rung double 13826050856027422720) (y := rung double 0) (by decide +kernel) #[52, 52] 52 W
      rw [show rung double 13826050856027422720 = 4602678819172646912 by decide +kernel] at h ⊢
      exact h
  · exact fun W => Frexp_c 4602678819172646912 1022 0 4602678819172646912 ⟨by decide, by decide +kernel, by decide +kernel, by decide +kernel, by decide +kernel⟩ (by decide +kernel) (by decide) (by decide +kernel) (by decide +kernel) W
  · exact fun W => by
      have h := Ldexp_c 13826050856027422720 1022 9223372036854775808 13830554455654793216 1023 (1) ⟨by decide, by decide +kernel, by decide +kernel, by decide +kernel, by decide +kernel⟩ (by decide +kernel) (by decide) (by decide +kernel) (by decide +kernel) (by decide) (by decide) (by decide) (by decide) (by show _ < _; decide +kernel) W
      rw [show cn .f64 13830554455654793216 = 13830554455654793216 by decide +kernel] at h
      exact h
  · exact fun W => by
      have h := Ldexp_z 0 (1) (by decide) (by decide +kernel) W
      rw [show cn .f64 0 = 0 by decide +kernel] at h
      exact h
theorem home_mone : HomeOk (13830554455654793216, 0) (13830554455654793216, 0) (0) := fun V => by
  refine home_c (13830554455654793216, 0) (13830554455654793216, 0) (0) 4602678819172646912 4607182418800017408 ⟨by decide, by decide⟩ (by decide) ?_ ?_ ?_ ?_ V
  · exact fun W => by
      have h := max10_gt (P := Try.prog) (x := rung double 13830554455654793216) (y := rung double 0) (by decide +kernel) #[52, 52] 52 W
      rw [show rung double 13830554455654793216 = 4607182418800017408 by decide +kernel] at h ⊢
      exact h
  · exact fun W => Frexp_c 4607182418800017408 1023 0 4602678819172646912 ⟨by decide, by decide +kernel, by decide +kernel, by decide +kernel, by decide +kernel⟩ (by decide +kernel) (by decide) (by decide +kernel) (by decide +kernel) W
  · exact fun W => by
      have h := Ldexp_c 13830554455654793216 1023 9223372036854775808 13830554455654793216 1023 (0) ⟨by decide, by decide +kernel, by decide +kernel, by decide +kernel, by decide +kernel⟩ (by decide +kernel) (by decide) (by decide +kernel) (by decide +kernel) (by decide) (by decide) (by decide) (by decide) (by show _ < _; decide +kernel) W
      rw [show cn .f64 13830554455654793216 = 13830554455654793216 by decide +kernel] at h
      exact h
  · exact fun W => by
      have h := Ldexp_z 0 (0) (by decide) (by decide +kernel) W
      rw [show cn .f64 0 = 0 by decide +kernel] at h
      exact h
def exS : List C := [(4611686018427387904, 0), (4607182418800017408, 0), (4616189618054758400, 0), (4613937818241073152, 0)]
def exB : List C := [(4617315517961601024, 0), (4622382067542392832, 0)]
theorem exS_f : ofF 2 2 exS = (0, 0) := by decide +kernel
theorem exS_fin : ∀ z ∈ exS, pFinite z = true := by decide +kernel
theorem exS_lt : ltCs exS := by intro z hz; simp [exS] at hz; rcases hz with rfl | rfl | rfl | rfl <;> exact ⟨by decide, by decide⟩
theorem exS_fin' : finTo (ofS 2 exS).E 2 := elRun_fin (matE_fin (l := exS) (n := 2) rfl exS_fin) 2 (Nat.le_refl _)
theorem exS_perm : Perm 2 (ofS 2 exS).o := run_perm (S := S0 exS 2) ⟨fun _ hi => hi, fun _ _ _ _ h => h⟩ 2 (Nat.le_refl _)
theorem exB_fin : ∀ z ∈ exB, pFinite z = true := by decide +kernel
theorem exB_lt : ltCs exB := by intro z hz; simp [exB] at hz; rcases hz with rfl | rfl <;> exact ⟨by decide, by decide⟩
theorem exS_sol : solOk 2 (ofS 2 exS) exB = true := by decide +kernel
theorem exS_tra : traOk 2 (ofS 2 exS) exB = true := by decide +kernel
theorem exS_x : (List.range 2).all (fun k => pEqual (cnC ((solL 2 (ofS 2 exS) exB).getD k (0, 0))) (cnC ([(4611686018427387904, 0), (4607182418800017408, 0)].getD k (0, 0)))) = true := by decide +kernel
theorem exS_y : (List.range 2).all (fun k => pEqual (cnC ((traL 2 (ofS 2 exS) exB).getD k (0, 0))) (cnC ([(13847724429234143232, 0), (4620974692658839552, 0)].getD k (0, 0)))) = true := by decide +kernel
theorem exS_u0 : uppE (ofS 2 exS) 0 0 = (4616189618054758400, 0) := by decide +kernel
theorem exS_u1 : uppE (ofS 2 exS) 1 1 = (13826050856027422720, 0) := by decide +kernel
theorem exS_s : (ofS 2 exS).s = true := by decide +kernel
def dmS (i : Nat) : C := if i < 2 then (fone, 0) else (13830554455654793216, 0)
def hhS (i : Nat) : C := if i = 0 then (fone, 0) else (13830554455654793216, 0)
def pS (i : Nat) : Int := if i = 0 then 2 else -1
def deS (i : Nat) : Int := if i = 0 then 0 else if i = 1 then 2 else 1
theorem two_cases {i : Nat} (h : i < 2) : i = 0 ∨ i = 1 := by omega
theorem exS_det : DetH 2 (fun i => uppE (ofS 2 exS) i i) hhS dmS pS (fun _ => 0) deS where
  d0 := rfl
  e0 := rfl
  hm i hi := by
    rcases two_cases hi with rfl | rfl
    · show HomeOk (uppE (ofS 2 exS) 0 0) _ _; rw [exS_u0]; exact home_four
    · show HomeOk (uppE (ofS 2 exS) 1 1) _ _; rw [exS_u1]; exact home_mhalf
  step i hi := by
    rcases two_cases hi with rfl | rfl
    · rw [show pMul (dmS 0) (hhS 0) = (fone, 0) by decide +kernel]; exact home_one
    · rw [show pMul (dmS 1) (hhS 1) = (13830554455654793216, 0) by decide +kernel]; exact home_mone
  fh i hi := by rcases two_cases hi with rfl | rfl <;> decide +kernel
  fd i hi := by
    have h : i = 0 ∨ i = 1 ∨ i = 2 := by omega
    rcases h with rfl | rfl | rfl <;> decide +kernel
  fm i hi := by rcases two_cases hi with rfl | rfl <;> decide +kernel
  next i hi := by rcases two_cases hi with rfl | rfl <;> rfl
  bp i hi := by rcases two_cases hi with rfl | rfl <;> decide
  bq _ _ := by decide
  be i hi := by
    have h : i = 0 ∨ i = 1 ∨ i = 2 := by omega
    rcases h with rfl | rfl | rfl <;> decide
theorem dmS_lt : ∀ i, i ≤ 2 → ltC (dmS i) := fun i hi => by
  have h : i = 0 ∨ i = 1 ∨ i = 2 := by omega
  rcases h with rfl | rfl | rfl <;> exact ⟨by decide, by decide⟩
theorem of10_c (n : Int) (A : Option Addr) (k c : Nat) (w : World) : Calls Try.prog 25 #[.int .i64 n, .slice A k c] w fun e w' => e = .returned (mval n n (.slice A k c)) ∧ Below w.heap.size w w' := by
  go_enter Try.func25, Try.ntmps25
  go_wp2
  refine bodyPost_ret (v := mval n n (.slice A k c)) (by simp [results, Try.results25, go_sem]) rfl ?_
  exact ⟨rfl, below_new _ _⟩
theorem reads_new (W : World) (l : List C) (o : Obj) (ho : o = .cells (nums l).toArray 43) (q : Nat) (hq : q = W.heap.size) : Reads (W.alloc o) (W.alloc o).heap.size (some ⟨q, 0, none⟩) (nums l) := by
  subst ho hq
  exact (Reads.new W 43 (nums l)).more (by simp)
theorem all_eq {l m : List C} (hn : l.length = 2) (h : (List.range 2).all (fun k => pEqual (cnC (l.getD k (0, 0))) (cnC (m.getD k (0, 0)))) = true) : ∀ (k : Nat) (x y : C), l[k]? = some x → m[k]? = some y → pEqual (cnC x) (cnC y) = true := fun k x y hx hy => by
  have hk := lt_of_some hx
  have h1 := List.all_eq_true.1 h k (List.mem_range.2 (by omega))
  simpa [List.getD_eq_getElem?_getD, hx, hy] using h1
theorem exS_d : detD (ofS 2 exS) (dmS 2) = (fone, 9223372036854775808) := by decide +kernel
theorem exS_l3 : (solL 2 (ofS 2 exS) exB).length = 2 := by simp [solL]
theorem exS_l4 : (traL 2 (ofS 2 exS) exB).length = 2 := by simp [traL]
set_option maxHeartbeats 4000000 in
theorem awake10_c (w : World) : Calls Try.prog 8 #[] w (RetBB true w) := by
  have H1 := Lib.hid (fun A k c V => of10_c 2 A k c V)
  go_enter Try.func8, Try.ntmps8
  go_wp2_with fail
  refine (H1.out _ _ _ _).mono ?_
  rintro e W1 ⟨rfl, hb⟩
  have hrd := reads_new w exS (.cells #[.complex .f64 4611686018427387904 0, .complex .f64 4607182418800017408 0, .complex .f64 4616189618054758400 0, .complex .f64 4613937818241073152 0] 43) rfl _ rfl
  have HOf := Lib.hid (show Calls Try.prog 9 #[mval 2 2 (.slice (some ⟨w.heap.size, 0, none⟩) 4 4)] W1 (RetOf (ofF 2 2 exS) 2 (ofS 2 exS) W1) from Of_c 2 2 (some ⟨w.heap.size, 0, none⟩) exS 4 W1 (by decide) ((hrd.below hb).more hb.size) exS_lt)
  have B1 := Lib.hid ((below_new w (.cells #[.complex .f64 4611686018427387904 0, .complex .f64 4607182418800017408 0, .complex .f64 4616189618054758400 0, .complex .f64 4613937818241073152 0] 43)).trans (hb.mono (by simp)))
  clear hrd hb
  go_wp2_with fail
  refine HOf.out.mono ?_
  rintro e W2 hr
  obtain ⟨b, rfl, h9, hb⟩ := hr.ok exS_f
  have N2 := Lib.hid (show NW w (W2.alloc (.cells #[.int .i64 0, .int .i64 0] 27)) 2 W1.heap.size b (ofS 2 exS) from (NW.mk h9 (B1.out.trans (hb.mono B1.out.size))).new _)
  have N3 := Lib.hid (N2.out.new (.cells #[.complex .f64 4617315517961601024 0, .complex .f64 4622382067542392832 0] 43))
  have HSo := Lib.hid (Solve_run (some ⟨W2.heap.size + 1, 0, none⟩) exB 2 _ N3.out.x exS_fin' exS_perm (by decide) rfl exB_fin exB_lt (reads_new _ exB _ rfl _ (by simp)))
  rw [exS_sol, if_pos rfl, if_pos rfl] at HSo
  clear hr h9 hb
  go_wp2_with fail
  refine HSo.out.mono ?_
  rintro e W3 ⟨s3, rfl, hown, hb⟩
  rw [exS_l3] at hown
  obtain ⟨A3, k3, rfl, hr3, -, -⟩ := own_reads hown
  have N4 := Lib.hid (N3.out.below hb)
  have N5 := Lib.hid (N4.out.new (.cells #[.complex .f64 4617315517961601024 0, .complex .f64 4622382067542392832 0] 43))
  have HR3 := Lib.hid hr3
  have HTr := Lib.hid (Trans_run (some ⟨W3.heap.size, 0, none⟩) exB 2 _ N5.out.x exS_fin' exS_perm (by decide) rfl exB_fin exB_lt (reads_new _ exB _ rfl _ rfl))
  rw [exS_tra, if_pos rfl, if_pos rfl] at HTr
  clear hown hb hr3
  go_wp2_with fail
  refine HTr.out.mono ?_
  rintro e W4 ⟨s4, rfl, hown, hb⟩
  rw [exS_l4] at hown
  obtain ⟨A4, k4, rfl, hr4, -, -⟩ := own_reads hown
  have N6 := Lib.hid (N5.out.below hb)
  have hb5 := (below_new W3 (.cells #[.complex .f64 4617315517961601024 0, .complex .f64 4622382067542392832 0] 43)).trans (hb.mono (by simp))
  have HR3b := Lib.hid ((HR3.out.below hb5).more hb5.size)
  have HR4 := Lib.hid hr4
  have HDt := Lib.hid (Det_c W4 N6.out.x exS_fin' (by decide) exS_det dmS_lt)
  rw [exS_d, show deS 2 = 1 from rfl] at HDt
  clear hown hb hr4 hb5
  go_wp2_with fail
  refine HDt.out.mono ?_
  rintro e W5 ⟨rfl, hb⟩
  have N7 := Lib.hid (N6.out.below hb)
  have HR3c := Lib.hid ((HR3b.out.below hb).more hb.size)
  have HR4c := Lib.hid ((HR4.out.below hb).more hb.size)
  have hb6 := below_new W5 (.cells #[.complex .f64 4611686018427387904 0, .complex .f64 4607182418800017408 0] 43)
  have N8 := Lib.hid (N7.out.below hb6)
  have HR4d := Lib.hid ((HR4c.out.below hb6).more hb6.size)
  have HE3 := Lib.hid (EqualNumbers_t A3 (some ⟨W5.heap.size, 0, none⟩) (solL 2 (ofS 2 exS) exB) [(4611686018427387904, 0), (4607182418800017408, 0)] 2 k3 2 (W5.alloc (.cells #[.complex .f64 4611686018427387904 0, .complex .f64 4607182418800017408 0] 43)) exS_l3 rfl (all_eq exS_l3 exS_x) (by decide) ((HR3c.out.below hb6).more hb6.size) (reads_new W5 [(4611686018427387904, 0), (4607182418800017408, 0)] _ rfl _ rfl))
  clear hb hb6
  go_wp2_with fail
  refine HE3.out.mono ?_
  rintro e W6 ⟨d6, rfl, hw6⟩
  have N9 := Lib.hid (show NW w W6 2 W1.heap.size b (ofS 2 exS) by rw [hw6]; exact N8.out.drewN d6)
  have HR4e := Lib.hid (show Reads W6 W6.heap.size A4 (nums (traL 2 (ofS 2 exS) exB)) by rw [hw6]; exact (HR4d.out.below (below_drewN (Below.refl _ _) d6)).more (Nat.le_refl _))
  have hb7 := below_new W6 (.cells #[.complex .f64 13847724429234143232 0, .complex .f64 4620974692658839552 0] 43)
  have N10 := Lib.hid (N9.out.below hb7)
  have HE4 := Lib.hid (EqualNumbers_t A4 (some ⟨W6.heap.size, 0, none⟩) (traL 2 (ofS 2 exS) exB) [(13847724429234143232, 0), (4620974692658839552, 0)] 2 k4 2 (W6.alloc (.cells #[.complex .f64 13847724429234143232 0, .complex .f64 4620974692658839552 0] 43)) exS_l4 rfl (all_eq exS_l4 exS_y) (by decide) ((HR4e.out.below hb7).more hb7.size) (reads_new W6 [(13847724429234143232, 0), (4620974692658839552, 0)] _ rfl _ rfl))
  clear hw6 hb7
  go_wp2_with fail
  refine HE4.out.mono ?_
  rintro e W7 ⟨d7, rfl, hw7⟩
  have N11 := Lib.hid (show NW w W7 2 W1.heap.size b (ofS 2 exS) by rw [hw7]; exact N10.out.drewN d7)
  have hq1 : feq .f64 fone 4607182418800017408 = true := by decide +kernel
  have hq2 : feq .f64 9223372036854775808 0 = true := by decide +kernel
  clear hw7
  go_wp2
  go_ret
  exact ⟨rfl, N11.out.bel⟩
end Go.Proofs.Ytglmmidhkpomgaa
