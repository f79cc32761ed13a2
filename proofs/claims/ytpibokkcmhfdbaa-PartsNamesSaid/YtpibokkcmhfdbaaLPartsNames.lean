/- PartsNames: the examples of the chapter of complex numbers: a closed statement. -/
import Derived.Test.YtpibokkcmhfdbaaL02a
namespace Go.Proofs.Ytpibokkcmhfdbaa
open Go.RowKit Fl Ieee
set_option maxRecDepth 20000
attribute [local go_sem] Fl.order_self Fl.order_self' Fl.order_eq Fl.order_ne Fl.order_lt Fl.order_gt Fl.fle_fold Fl.fge_fold Fl.negFloat_flip
theorem hid_of {p : Prop} (h : p) : Hid p := h
theorem eq_of_cn {x c : Nat} (h : cn .f64 x = c) (hn : isNaN double c = false) : x = c := by
  have h1 : isNaN double x = false := by rw [← h] at hn; exact (isNaN_cn64 x).symm.trans hn
  rw [cn_of_not (k := .f64) h1] at h
  exact h
set_option maxHeartbeats 4000000 in
theorem PartsNames_walk (w : World) :
    Calls Try.prog 7 #[] w fun e w' => e = .returned (.bool true) ∧ Grown w w' := by
  have q1 : flip double 9218868437227405312 = 18442240474082181120 := by decide +kernel
  have q2 : flip double 0 = 9223372036854775808 := by decide +kernel
  have q3 : flip double 4607182418800017408 = 13830554455654793216 := by decide +kernel
  have q4 : double.word (sgn double 13830554455654793216) (rung double 0) = 9223372036854775808 := by decide +kernel
  have q5 : feq .f64 0 0 = true := by decide +kernel
  have q6 : feq .f64 9218868437227405312 9218868437227405312 = true := by decide +kernel
  have q7 : feq .f64 9097522851029299729 9097522851029299729 = true := by decide +kernel
  have q8 : feq .f64 4627730092099895296 4627730092099895296 = true := by decide +kernel
  have q9 : sgn double 0 = false := by decide +kernel
  have q10 : pSame (cn .f64 0, cn .f64 4607182418800017408) (cn .f64 9223372036854775808, cn .f64 4607182418800017408) = false := by decide +kernel
  have q11 : pEqual (cn .f64 0, cn .f64 4607182418800017408) (cn .f64 9223372036854775808, cn .f64 4607182418800017408) = true := by decide +kernel
  have q12 : pSame (cn .f64 9221120237041090561, cn .f64 4607182418800017408) (cn .f64 9221120237041090561, cn .f64 4607182418800017408) = true := by decide +kernel
  have q13 : pEqual (cn .f64 9221120237041090561, cn .f64 4607182418800017408) (cn .f64 9221120237041090561, cn .f64 4607182418800017408) = false := by decide +kernel
  go_enter Try.func7, Try.ntmps7
  go_wp2_with fail
  refine (mInf_c _).mono ?_
  rintro e w' ⟨rfl, rfl⟩
  go_wp2_with fail
  refine (mNaN_c _).mono ?_
  rintro e w' ⟨rfl, rfl⟩
  go_wp2_with fail
  refine (mCopysign_c _ _ (by omega) (by omega) _).mono ?_
  rintro e w' ⟨rfl, rfl⟩
  go_wp2_with fail
  refine (Div_c _ _ _ _ (by omega) (by omega) _).mono ?_
  rintro e w' ⟨x4, y4, n4, rfl, g4, bx4, by4, rfl⟩
  have H4 : Hid _ := g4
  clear g4
  go_wp2_with fail
  refine (same_t H4 (hid_of (by decide +kernel)) _).mono ?_
  rintro e w' ⟨rfl, rfl⟩
  go_wp2_with fail
  refine (Div_c _ _ _ _ (by omega) (by omega) _).mono ?_
  rintro e w' ⟨x6, y6, n6, rfl, g6, bx6, by6, rfl⟩
  have H6 : Hid _ := g6
  clear g6
  go_wp2_with fail
  refine (same_t H6 (hid_of (by decide +kernel)) _).mono ?_
  rintro e w' ⟨rfl, rfl⟩
  go_wp2_with fail
  refine (Div_c _ _ _ _ (by omega) (by omega) _).mono ?_
  rintro e w' ⟨x8, y8, n8, rfl, g8, bx8, by8, rfl⟩
  have H8 : Hid _ := g8
  clear g8
  go_wp2_with fail
  refine (same_t H8 (hid_of (by decide +kernel)) _).mono ?_
  rintro e w' ⟨rfl, rfl⟩
  go_wp2_with fail
  refine (Div_c _ _ _ _ (by omega) (by omega) _).mono ?_
  rintro e w' ⟨x10, y10, n10, rfl, g10, bx10, by10, rfl⟩
  have H10 : Hid _ := g10
  clear g10
  go_wp2_with fail
  refine (same_t H10 (hid_of (by decide +kernel)) _).mono ?_
  rintro e w' ⟨rfl, rfl⟩
  go_wp2_with fail
  refine (Div_c _ _ _ _ (by omega) (by omega) _).mono ?_
  rintro e w' ⟨x12, y12, n12, rfl, g12, bx12, by12, rfl⟩
  have H12 : Hid _ := g12
  clear g12
  go_wp2_with fail
  refine (same_t H12 (hid_of (by decide +kernel)) _).mono ?_
  rintro e w' ⟨rfl, rfl⟩
  go_wp2_with fail
  refine (Abs_c _ _ (by omega) (by omega) _).mono ?_
  rintro e w' ⟨x14, n14, rfl, g14, bx14, rfl⟩
  have H14 : Hid _ := g14
  clear g14
  obtain rfl : x14 = 0 := eq_of_cn (H14.out.trans (by decide +kernel)) (by decide)
  go_wp2_with fail
  refine (Abs_c _ _ (by omega) (by omega) _).mono ?_
  rintro e w' ⟨x15, n15, rfl, g15, bx15, rfl⟩
  have H15 : Hid _ := g15
  clear g15
  obtain rfl : x15 = 0 := eq_of_cn (H15.out.trans (by decide +kernel)) (by decide)
  go_wp2_with fail
  refine (mSignbit_c _ (by omega) _).mono ?_
  rintro e w' ⟨rfl, rfl⟩
  go_wp2_with fail
  refine (Abs_c _ _ (by omega) (by omega) _).mono ?_
  rintro e w' ⟨x17, n17, rfl, g17, bx17, rfl⟩
  have H17 : Hid _ := g17
  clear g17
  obtain rfl : x17 = 9218868437227405312 := eq_of_cn (H17.out.trans (by decide +kernel)) (by decide)
  go_wp2_with fail
  refine (Abs_c _ _ (by omega) (by omega) _).mono ?_
  rintro e w' ⟨x18, n18, rfl, g18, bx18, rfl⟩
  have H18 : Hid _ := g18
  clear g18
  obtain rfl : x18 = 9097522851029299729 := eq_of_cn (H18.out.trans (by decide +kernel)) (by decide)
  go_wp2_with fail
  refine (Size2_c _ _ _).mono ?_
  rintro e w' ⟨x19, n19, rfl, g19, bx19, rfl⟩
  have H19 : Hid _ := g19
  clear g19
  obtain rfl : x19 = 4627730092099895296 := eq_of_cn (H19.out.trans (by decide +kernel)) (by decide)
  go_wp2_with fail
  refine (Size1_c _ _ (by omega) (by omega) _).mono ?_
  rintro e w' ⟨x20, n20, rfl, g20, bx20, rfl⟩
  have H20 : Hid _ := g20
  clear g20
  obtain rfl : x20 = 9218868437227405312 := eq_of_cn (H20.out.trans (by decide +kernel)) (by decide)
  go_wp2_with fail
  refine (Sqrt_c _ _ (by omega) (by omega) _).mono ?_
  rintro e w' ⟨x21, y21, n21, rfl, g21, bx21, by21, rfl⟩
  have H21 : Hid _ := g21
  clear g21
  go_wp2_with fail
  refine (same_t H21 (hid_of (by decide +kernel)) _).mono ?_
  rintro e w' ⟨rfl, rfl⟩
  go_wp2_with fail
  refine (Sqrt_c _ _ (by omega) (by omega) _).mono ?_
  rintro e w' ⟨x23, y23, n23, rfl, g23, bx23, by23, rfl⟩
  have H23 : Hid _ := g23
  clear g23
  go_wp2_with fail
  refine (same_t H23 (hid_of (by decide +kernel)) _).mono ?_
  rintro e w' ⟨rfl, rfl⟩
  go_wp2_with fail
  refine (Sqrt_c _ _ (by omega) (by omega) _).mono ?_
  rintro e w' ⟨x25, y25, n25, rfl, g25, bx25, by25, rfl⟩
  have H25 : Hid _ := g25
  clear g25
  go_wp2_with fail
  refine (same_t H25 (hid_of (by decide +kernel)) _).mono ?_
  rintro e w' ⟨rfl, rfl⟩
  go_wp2_with fail
  refine (Sqrt_c _ _ (by omega) (by omega) _).mono ?_
  rintro e w' ⟨x27, y27, n27, rfl, g27, bx27, by27, rfl⟩
  have H27 : Hid _ := g27
  clear g27
  go_wp2_with fail
  refine (same_t H27 (hid_of (by decide +kernel)) _).mono ?_
  rintro e w' ⟨rfl, rfl⟩
  go_wp2_with fail
  refine (Same_c _ _ _ _ _).mono ?_
  rintro e w' ⟨rfl, rfl⟩
  go_wp2_with fail
  refine (Equal_c _ _ _ _ _).mono ?_
  rintro e w' ⟨rfl, rfl⟩
  go_wp2_with fail
  refine (Same_c _ _ _ _ _).mono ?_
  rintro e w' ⟨rfl, rfl⟩
  go_wp2_with fail
  refine (Equal_c _ _ _ _ _).mono ?_
  rintro e w' ⟨rfl, rfl⟩
  go_wp2_with fail
  refine (Neg_c _ _ (by omega) (by omega) _).mono ?_
  rintro e w' ⟨rfl, rfl⟩
  go_wp2_with fail
  refine (same_t (v := (9223372036854775808, 13830554455654793216)) (hid_of (by decide +kernel)) (hid_of (by decide +kernel)) _).mono ?_
  rintro e w' ⟨rfl, rfl⟩
  go_wp2_with fail
  refine (Conj_c _ _ (by omega) _).mono ?_
  rintro e w' ⟨rfl, rfl⟩
  go_wp2_with fail
  refine (same_t (v := (4607182418800017408, 9223372036854775808)) (hid_of (by decide +kernel)) (hid_of (by decide +kernel)) _).mono ?_
  rintro e w' ⟨rfl, rfl⟩
  go_wp2_with fail
  refine (Sub_c _ _ _ _ _).mono ?_
  rintro e w' ⟨x37, y37, n37, rfl, g37, bx37, by37, rfl⟩
  have H37 : Hid _ := g37
  clear g37
  go_wp2_with fail
  refine (same_t H37 (hid_of (by decide +kernel)) _).mono ?_
  rintro e w' ⟨rfl, rfl⟩
  go_wp2_with fail
  refine (lives_c _).mono ?_
  rintro e w' ⟨n39, rfl, rfl⟩
  go_wp2
  go_ret
  exact ⟨rfl, by repeat (first | exact Grown.refl _ | refine grown_dn ?_ _ | apply Grown.alloc)⟩
/-! ### The row's step -/
namespace partsNames_frame
open Go.ChangeShapes Go.WideShapes Go.ChangeAt Go.RowKit
theorem own : ownKnob Try.prog.godebug = none := by kernel_rfl
set_option maxRecDepth 100000 in
theorem lifted (os : Os) (started : os.Started) (H : Type) (enc : TypeId × Value → H) :
    ReturnsInHanded {} Try.checked os 7 .any (Rows.partsNamesSpec.pre6 enc Try.prog Try.f7 Rows.partsNamesRow.domain false) (Rows.partsNamesSpec.post enc Try.prog Try.f7 false true false false) := by
  refine returnsInHanded_of_change (C := Try.checked) own started (by kernel_rfl) Try.func7
    (ChangeSpec.witness6 (enc := enc) (C := Try.checked) false ⟨#[], #[], []⟩ 8 (by kernel_rfl) (by kernel_rfl) (by kernel_rfl) (by kernel_rfl)) ?_
  intro W base args ds gs before hval0 hW hcnd _
  have hW' := hW
  obtain ⟨p, q, hA0, hV, rfl, hfz, hnd⟩ := hW
  have hA : DataW.TrodAll enc Try.prog W 0 (fun _ => true) true Try.f7.params.toList args.toList ds p := hA0
  rw [Try.params7] at hA
  obtain ⟨hargs, rfl, rfl⟩ := trodAll_nil hA
  obtain rfl : args = #[] := by cases args; simp_all
  obtain ⟨rfl, rfl⟩ := trodVars_none hV
  clear hA0
  simp only [List.append_nil] at hW'
  refine (PartsNames_walk  W).mono fun e W' ⟨he, hg⟩ => ?_
  subst he
  exact ⟨_, rfl, post_of_same (pa := []) (pv := []) hW' (fun _ _ _ => (trodAll_cons_mk (shut_bool Try.underlying4 _) trodAll_mk0)) (fun sp _ => trodAll_mk0) (fun _ _ => rfl) rfl
    (hg.frame _) hg.2.1 (ok_one (by kernel_rfl) rfl (okWide_bool_mk Try.underlying4 _))⟩
theorem over : Rows.partsNamesRow.holds Try.pinned (OpenSpec.ofChange Rows.partsNamesSpec) :=
  OpenClaim.holds_of_wide 7 Try.f7 rfl rfl rfl rfl rfl rfl rfl ⟨rfl, rfl, rfl, rfl, rfl⟩ rfl rfl rfl rfl rfl (by kernel_rfl) Try.func7 (by kernel_rfl)
    (of_decide_eq_true (by kernel_rfl)) (by unfold Func.isWrapper; first | (rw [if_pos (by decide +kernel)]; kernel_rfl) | (rw [if_neg (by decide +kernel)]; exact ⟨rfl, rfl⟩))
    (fun os started H enc _ => lifted os started H enc)
end partsNames_frame

/-- THE STATEMENT. -/
theorem partsNames_holds : Rows.PartsNamesSaid := partsNames_frame.over
#print axioms partsNames_holds
