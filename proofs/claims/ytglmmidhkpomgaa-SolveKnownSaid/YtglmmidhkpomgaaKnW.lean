/- Layer 10: SolveKnown: the walk. -/
import Derived.Test.YtglmmidhkpomgaaT15
namespace Go.Proofs.Ytglmmidhkpomgaa
open Go.RowKit Fl Ieee
set_option maxRecDepth 20000
attribute [local go_sem] run_store_float run_store_complex Fl.order_self Fl.order_self' Fl.order_eq Fl.order_ne Fl.order_lt Fl.order_gt
set_option maxHeartbeats 16000000 in
theorem Known10 (w : World) : Calls Try.prog 4 #[] w fun e w' => e = .returned (.bool true) ∧ Below w.heap.size w w' := by
  have H1 := Lib.hid (fun n A k c V => of10_c n A k c V)
  have HCp := Lib.hid (fun W => (show double.word (sgn double 13830554455654793216) (rung double 0) = 9223372036854775808 from by decide +kernel) ▸ mCopysign_c 0 13830554455654793216 (by decide) (by decide) W)
  have HNa := Lib.hid (fun W => mNaN_c W)
  go_enter Try.func4, Try.ntmps4
  have K0 := Lib.hid (show Kq w w [] [] from ⟨Below.refl _ _, fun _ h => (List.not_mem_nil h).elim, fun _ h => (List.not_mem_nil h).elim⟩)
  have hrd := reads_new (w) kA (.cells #[.complex .f64 0 9110782046170513408] 43) rfl (w.heap.size) (by simp)
  have hk := K0.out.new (.cells #[.complex .f64 0 9110782046170513408] 43)
  go_wp2_with fail
  refine (H1.out _ _ _ _ _).mono ?_
  rintro e V1 ⟨rfl, hb⟩
  have HOf := Lib.hid (Of_c 1 1 _ kA 1 V1 (by decide) ((hrd.below hb).more hb.size) (lt_all (by decide +kernel)))
  have K3 := Lib.hid (hk.below hb)
  clear hrd hk hb K0
  go_wp2_with fail
  refine HOf.out.mono ?_
  rintro e V2 hr
  obtain ⟨b1, rfl, h9, hb⟩ := hr.ok kA_f
  have K4 := Lib.hid ((((K3.out.below hb).add (show Has9 _ _ _ 1 (ofS 1 kA) from h9)).new (.cells #[.int .i64 0, .int .i64 0] 27)).addR (heap_alloc_new V2 (.cells #[.int .i64 0, .int .i64 0] 27)))
  clear hr h9 hb HOf K3
  have hrd := reads_new (V2.alloc (.cells #[.int .i64 0, .int .i64 0] 27)) kB (.cells #[.complex .f64 103582791429521408 0] 43) rfl (V2.heap.size + 1) (by simp)
  have hk := K4.out.new (.cells #[.complex .f64 103582791429521408 0] 43)
  go_wp2_with fail
  refine (H1.out _ _ _ _ _).mono ?_
  rintro e V5 ⟨rfl, hb⟩
  have HOf := Lib.hid (Of_c 1 1 _ kB 1 V5 (by decide) ((hrd.below hb).more hb.size) (lt_all (by decide +kernel)))
  have K7 := Lib.hid (hk.below hb)
  clear hrd hk hb K4
  go_wp2_with fail
  refine HOf.out.mono ?_
  rintro e V6 hr
  obtain ⟨b2, rfl, h9, hb⟩ := hr.ok kB_f
  have K8 := Lib.hid ((((K7.out.below hb).add (show Has9 _ _ _ 1 (ofS 1 kB) from h9)).new (.cells #[.int .i64 0, .int .i64 0] 27)).addR (heap_alloc_new V6 (.cells #[.int .i64 0, .int .i64 0] 27)))
  clear hr h9 hb HOf K7
  have HOf := Lib.hid (Of_c 0 0 none [] 0 (V6.alloc (.cells #[.int .i64 0, .int .i64 0] 27)) (by decide) (fun h => absurd h (Nat.lt_irrefl _)) (fun _ h => (List.not_mem_nil h).elim))
  go_wp2_with fail
  refine HOf.out.mono ?_
  rintro e V9 hr
  obtain ⟨b3, rfl, h9, hb⟩ := hr.ok kN_f
  have K10 := Lib.hid ((((K8.out.below hb).add (show Has9 _ _ _ 0 (ofS 0 []) from h9)).new (.cells #[.int .i64 0, .int .i64 0] 27)).addR (heap_alloc_new V9 (.cells #[.int .i64 0, .int .i64 0] 27)))
  clear hr h9 hb HOf K8
  have hrd := reads_new (V9.alloc (.cells #[.int .i64 0, .int .i64 0] 27)) exS (.cells #[.complex .f64 4611686018427387904 0, .complex .f64 4607182418800017408 0, .complex .f64 4616189618054758400 0, .complex .f64 4613937818241073152 0] 43) rfl (V9.heap.size + 1) (by simp)
  have hk := K10.out.new (.cells #[.complex .f64 4611686018427387904 0, .complex .f64 4607182418800017408 0, .complex .f64 4616189618054758400 0, .complex .f64 4613937818241073152 0] 43)
  go_wp2_with fail
  refine (H1.out _ _ _ _ _).mono ?_
  rintro e V11 ⟨rfl, hb⟩
  have HOf := Lib.hid (Of_c 2 2 _ exS 4 V11 (by decide) ((hrd.below hb).more hb.size) (lt_all (by decide +kernel)))
  have K13 := Lib.hid (hk.below hb)
  clear hrd hk hb K10
  go_wp2_with fail
  refine HOf.out.mono ?_
  rintro e V12 hr
  obtain ⟨b4, rfl, h9, hb⟩ := hr.ok exS_f
  have K14 := Lib.hid ((((K13.out.below hb).add (show Has9 _ _ _ 2 (ofS 2 exS) from h9)).new (.cells #[.int .i64 0, .int .i64 0] 27)).addR (heap_alloc_new V12 (.cells #[.int .i64 0, .int .i64 0] 27)))
  clear hr h9 hb HOf K13
  obtain ⟨f0a, f0b⟩ := K14.out.fault 0 rfl
  obtain ⟨f1a, f1b⟩ := K14.out.fault 1 rfl
  obtain ⟨f2a, f2b⟩ := K14.out.fault 2 rfl
  obtain ⟨f3a, f3b⟩ := K14.out.fault 3 rfl
  have HD := Lib.hid (Det_c _ (K14.out.get 3 rfl) kA_fin (by decide) kA_det dmA_lt)
  rw [kA_d, show deA 1 = 1000 from rfl] at HD
  go_wp2_with fail
  refine HD.out.mono ?_
  rintro e V15 ⟨rfl, hb⟩
  have K16 := Lib.hid (K14.out.below hb)
  clear hb HD K14 f0a f0b f1a f1b f2a f2b f3a f3b
  have hk := K16.out.new (.cells #[.complex .f64 103582791429521408 0] 43)
  have HS := Lib.hid (Solve_run (some ⟨V15.heap.size, 0, none⟩) cA 1 _ (hk.get 3 rfl) kA_fin kA_perm (by decide) rfl (by decide +kernel) (lt_all (by decide +kernel)) (reads_new _ cA _ rfl _ (by simp)))
  rw [sA_ok, if_pos rfl, if_pos rfl] at HS
  go_wp2_with fail
  refine HS.out.mono ?_
  rintro e V17 ⟨s19, rfl, hown, hb⟩
  have K18 := Lib.hid (hk.below hb)
  obtain ⟨Ax, kx, rfl, hrx, -, -⟩ := own_reads hown
  have HX := Lib.hid hrx
  clear hk HS hown hb hrx K16
  go_wp2_with fail
  refine (HCp.out _).mono ?_
  rintro e w' ⟨rfl, rfl⟩
  have HSa := Lib.hid (fun W => kSameNumber_t (0, 4607182418800017408) (0, 4607182418800017408) rfl W)
  go_wp2_with fail
  refine (HSa.out _).mono ?_
  rintro e w' ⟨rfl, rfl⟩
  have hk := K18.out.new (.cells #[.complex .f64 0 9223372036854775808] 43)
  have hbx := below_new V17 (.cells #[.complex .f64 0 9223372036854775808] 43)
  have HSm := Lib.hid (SameNumbers_t Ax (some ⟨(V17).heap.size, 0, none⟩) (solL 1 (ofS 1 kA) cA) [(0, 9223372036854775808)] 1 kx 1 (V17.alloc (.cells #[.complex .f64 0 9223372036854775808] 43)) (by simp [solL]) rfl sA_v (by decide) ((HX.out.below hbx).more hbx.size) (reads_new V17 [(0, 9223372036854775808)] _ rfl _ rfl))
  have hlx : (solL 1 (ofS 1 kA) cA).length = 1 := by simp [solL]
  rw [hlx]
  go_wp2_with fail
  refine HSm.out.mono ?_
  rintro e V20 ⟨d, rfl, hw⟩
  have K21 := Lib.hid (hk.below (show Below _ _ V20 by rw [hw]; exact below_drewN (Below.refl _ _) d))
  clear hk hbx HSm hlx hw HX HSa K18
  have hk := K21.out.new (.cells #[.complex .f64 9110782046170513408 0] 43)
  have HS := Lib.hid (Solve_run (some ⟨V20.heap.size, 0, none⟩) cB 1 _ (hk.get 2 rfl) kB_fin kB_perm (by decide) rfl (by decide +kernel) (lt_all (by decide +kernel)) (reads_new _ cB _ rfl _ (by simp)))
  rw [sB_ok, if_neg (by decide), if_neg (by decide)] at HS
  go_wp2_with fail
  refine HS.out.mono ?_
  rintro e V22 ⟨s24, rfl, hown, hb⟩
  have K23 := Lib.hid (hk.below hb)
  clear hk HS hown hb K21
  have HS := Lib.hid (Solve_run none [] 0 V22 (K23.out.get 1 rfl) kN_fin kN_perm (by decide) rfl (fun _ h => (List.not_mem_nil h).elim) (fun _ h => (List.not_mem_nil h).elim) (fun h => absurd h (Nat.lt_irrefl _)))
  rw [sN_ok, if_pos rfl, if_pos rfl] at HS
  go_wp2_with fail
  refine HS.out.mono ?_
  rintro e V25 ⟨sN, rfl, hown, hb⟩
  obtain ⟨An, kn, rfl, -, -, -⟩ := own_reads hown
  have K26 := Lib.hid (K23.out.below hb)
  have hln : (solL 0 (ofS 0 []) []).length = 0 := by simp [solL]
  rw [hln]
  clear HS hown hb K23
  have HD := Lib.hid (Det_c _ (K26.out.get 1 rfl) kN_fin (by decide) kN_det (fun _ _ => ⟨by decide, by decide⟩))
  rw [kN_d] at HD
  go_wp2_with fail
  refine HD.out.mono ?_
  rintro e V27 ⟨rfl, hb⟩
  have K28 := Lib.hid (K26.out.below hb)
  clear hb HD K26 hln
  have hmk : ∀ W : World, (Instr.makeSlice 30 (.int .i64 3) (.int .i64 3)).run Try.prog W = .ok (.slice (some ⟨W.heap.size, 0, none⟩) 3 3) (W.alloc (.cells (madeCells #[.complex .f64 0 0] 3) 43)) := fun W => run_make_row' (P := Try.prog) 30 43 (.complex .f64 0 0) 16 Try.underlying30 infoNum rfl .i64 .i64 3 (by omega) (by omega) W
  have hk := K28.out.new (.cells (madeCells #[.complex .f64 0 0] 3) 43)
  have HS := Lib.hid (Solve_bad (some ⟨(V27).heap.size, 0, none⟩) cC 3 _ (hk.get 0 rfl) exS_fin' (by decide) (by decide) (lt_all (by decide +kernel)) (reads_new V27 cC _ (by rw [mk_nums]; rfl) _ rfl) (by rw [sC_bad]; decide))
  rw [sC_bad] at HS
  go_wp2_with fail
  refine HS.out.mono ?_
  rintro e V29 ⟨rfl, hb⟩
  have K30 := Lib.hid (hk.below hb)
  clear hk hb HS hmk K28
  go_wp2_with fail
  refine (HNa.out _).mono ?_
  rintro e w' ⟨rfl, rfl⟩
  have hk := K30.out.new (.cells #[.complex .f64 9221120237041090561 0, .complex .f64 4607182418800017408 0] 43)
  have HS := Lib.hid (Solve_bad (some ⟨(V29).heap.size, 0, none⟩) cD 2 _ (hk.get 0 rfl) exS_fin' (by decide) (by decide) (lt_all (by decide +kernel)) (reads_new V29 cD _ rfl _ rfl) (by rw [sD_bad]; decide))
  rw [sD_bad] at HS
  go_wp2_with fail
  refine HS.out.mono ?_
  rintro e V31 ⟨rfl, hb⟩
  have K32 := Lib.hid (hk.below hb)
  clear hk hb HS K30
  have HD := Lib.hid (Det_c _ (K32.out.get 0 rfl) exS_fin' (by decide) exS_det dmS_lt)
  rw [exS_d, show deS 2 = 1 from rfl] at HD
  go_wp2_with fail
  refine HD.out.mono ?_
  rintro e V33 ⟨rfl, hb⟩
  have K34 := Lib.hid (K32.out.below hb)
  clear hb HD K32
  have hrd := reads_new (V33) kE (.cells #[.complex .f64 4607182418800017408 0, .complex .f64 0 0, .complex .f64 4607182418800017408 0, .complex .f64 4607182418800017408 0] 43) rfl (V33.heap.size) (by simp)
  have hk := K34.out.new (.cells #[.complex .f64 4607182418800017408 0, .complex .f64 0 0, .complex .f64 4607182418800017408 0, .complex .f64 4607182418800017408 0] 43)
  go_wp2_with fail
  refine (H1.out _ _ _ _ _).mono ?_
  rintro e V35 ⟨rfl, hb⟩
  have HOf := Lib.hid (Of_c 2 2 _ kE 4 V35 (by decide) ((hrd.below hb).more hb.size) (lt_all (by decide +kernel)))
  have K37 := Lib.hid (hk.below hb)
  clear hrd hk hb K34
  go_wp2_with fail
  refine HOf.out.mono ?_
  rintro e V36 hr
  obtain ⟨b5, rfl, h9, hb⟩ := hr.ok kE_f
  have K38 := Lib.hid ((((K37.out.below hb).add (show Has9 _ _ _ 2 (ofS 2 kE) from h9)).new (.cells #[.int .i64 0, .int .i64 0] 27)).addR (heap_alloc_new V36 (.cells #[.int .i64 0, .int .i64 0] 27)))
  clear hr h9 hb HOf K37
  have hk := K38.out.new (.cells #[.complex .f64 9214364837600034816 0, .complex .f64 18437736874454810624 0] 43)
  have HS := Lib.hid (Trans_run (some ⟨V36.heap.size + 1, 0, none⟩) cE 2 _ (hk.get 0 rfl) kE_fin kE_perm (by decide) rfl (by decide +kernel) (lt_all (by decide +kernel)) (reads_new _ cE _ rfl _ (by simp)))
  rw [tE_ok, if_neg (by decide), if_neg (by decide)] at HS
  go_wp2_with fail
  refine HS.out.mono ?_
  rintro e V39 ⟨s41, rfl, hown, hb⟩
  have K40 := Lib.hid (hk.below hb)
  clear hk HS hown hb K38
  go_wp2_with fail
  refine (awake10_c _).mono ?_
  rintro e V42 ⟨rfl, hb⟩
  have K43 := Lib.hid (K40.out.below hb)
  clear hb K40
  obtain ⟨f0a, f0b⟩ := K43.out.fault 0 rfl
  have HSa := Lib.hid (fun W => kSameNumber_t (fone, 9223372036854775808) (4607182418800017408, 9223372036854775808) rfl W)
  have hq1 : feq .f64 fone 4607182418800017408 = true := by decide +kernel
  have hq2 : feq .f64 0 0 = true := by decide +kernel
  go_wp2_with fail
  refine (HSa.out _).mono ?_
  rintro e w' ⟨rfl, rfl⟩
  go_wp2
  go_ret
  exact ⟨rfl, K43.out.bel⟩
end Go.Proofs.Ytglmmidhkpomgaa
