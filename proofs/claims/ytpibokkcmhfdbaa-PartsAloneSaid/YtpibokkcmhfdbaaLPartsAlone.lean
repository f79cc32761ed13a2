/- PartsAlone: of any complex number and any real, by their bits, package parts' opposite, conjugate, inverse, multiple, sizes and root are the reference's, to the bit (all NaNs being one). No condition. -/
import Derived.Test.YtpibokkcmhfdbaaL02a
namespace Go.Proofs.Ytpibokkcmhfdbaa
open Go.RowKit Fl Ieee
set_option maxRecDepth 20000
attribute [local go_sem] x_f64frombits
set_option maxHeartbeats 1000000 in
theorem PartsAlone_walk (a : Nat) (ha : a < 18446744073709551616) (b : Nat) (hb : b < 18446744073709551616) (r : Nat) (_hr : r < 18446744073709551616) (w : World) :
    Calls Try.prog 6 #[.agg #[.int .u64 a, .int .u64 b], .int .u64 r] w fun e w' => e = .returned (.bool true) ∧ Grown w w' := by
  have t1 : ∀ W : World, Calls Try.prog 27 #[.complex .f64 (flip double a) (flip double b), .complex .f64 (flip double a) (flip double b)] W fun e w' => e = .returned (.bool true) ∧ W = w' := fun W => same_t (v := _) rfl rfl W
  have t2 : ∀ W : World, Calls Try.prog 27 #[.complex .f64 a (flip double b), .complex .f64 a (flip double b)] W fun e w' => e = .returned (.bool true) ∧ W = w' := fun W => same_t (v := _) rfl rfl W
  have T1 : Hid _ := t1
  have T2 : Hid _ := t2
  clear t1 t2
  go_enter Try.func6, Try.ntmps6
  go_wp2_with fail
  refine (Number_c _ _ _).mono ?_
  rintro e w' ⟨n, rfl, rfl⟩
  go_wp2_with fail
  refine (Neg_c _ _ ha hb _).mono ?_
  rintro e w' ⟨rfl, rfl⟩
  go_wp2_with fail
  refine (rNeg_c _ _ ha hb _).mono ?_
  rintro e w' ⟨rfl, rfl⟩
  go_wp2_with fail
  refine (T1.out _).mono ?_
  rintro e w' ⟨rfl, rfl⟩
  go_wp2_with fail
  refine (Conj_c _ _ hb _).mono ?_
  rintro e w' ⟨rfl, rfl⟩
  go_wp2_with fail
  refine (rConj_c _ _ hb _).mono ?_
  rintro e w' ⟨rfl, rfl⟩
  go_wp2_with fail
  refine (T2.out _).mono ?_
  rintro e w' ⟨rfl, rfl⟩
  go_wp2_with fail
  refine (Inv_c _ _ ha hb _).mono ?_
  rintro e w' ⟨x7, y7, n7, rfl, g7, bx7, by7, rfl⟩
  have H7 : Hid _ := g7
  clear g7
  go_wp2_with fail
  refine (rInv_c _ _ ha hb _).mono ?_
  rintro e w' ⟨x8, y8, n8, rfl, g8, bx8, by8, rfl⟩
  have H8 : Hid _ := g8
  clear g8
  go_wp2_with fail
  refine (same_t H7 H8 _).mono ?_
  rintro e w' ⟨rfl, rfl⟩
  go_wp2_with fail
  refine (Scale_c _ _ _ _).mono ?_
  rintro e w' ⟨x10, y10, n10, rfl, g10, bx10, by10, rfl⟩
  have H10 : Hid _ := g10
  clear g10
  go_wp2_with fail
  refine (rScale_c _ _ _ _).mono ?_
  rintro e w' ⟨x11, y11, n11, rfl, g11, bx11, by11, rfl⟩
  have H11 : Hid _ := g11
  clear g11
  go_wp2_with fail
  refine (same_t H10 H11 _).mono ?_
  rintro e w' ⟨rfl, rfl⟩
  go_wp2_with fail
  refine (Size1_c _ _ ha hb _).mono ?_
  rintro e w' ⟨x13, n13, rfl, g13, bx13, rfl⟩
  have H13 : Hid _ := g13
  clear g13
  go_wp2_with fail
  refine (rSize1_c _ _ ha hb _).mono ?_
  rintro e w' ⟨x14, n14, rfl, g14, bx14, rfl⟩
  have H14 : Hid _ := g14
  clear g14
  go_wp2_with fail
  refine (sameReal_t H13 H14 _).mono ?_
  rintro e w' ⟨rfl, rfl⟩
  go_wp2_with fail
  refine (Size2_c _ _ _).mono ?_
  rintro e w' ⟨x16, n16, rfl, g16, bx16, rfl⟩
  have H16 : Hid _ := g16
  clear g16
  go_wp2_with fail
  refine (rSize2_c _ _ _).mono ?_
  rintro e w' ⟨x17, n17, rfl, g17, bx17, rfl⟩
  have H17 : Hid _ := g17
  clear g17
  go_wp2_with fail
  refine (sameReal_t H16 H17 _).mono ?_
  rintro e w' ⟨rfl, rfl⟩
  go_wp2_with fail
  refine (Abs_c _ _ ha hb _).mono ?_
  rintro e w' ⟨x19, n19, rfl, g19, bx19, rfl⟩
  have H19 : Hid _ := g19
  clear g19
  go_wp2_with fail
  refine (rAbs_c _ _ ha hb _).mono ?_
  rintro e w' ⟨x20, n20, rfl, g20, bx20, rfl⟩
  have H20 : Hid _ := g20
  clear g20
  go_wp2_with fail
  refine (sameReal_t H19 H20 _).mono ?_
  rintro e w' ⟨rfl, rfl⟩
  go_wp2_with fail
  refine (lives_c _).mono ?_
  rintro e w' ⟨n22, rfl, rfl⟩
  go_wp2_with fail
  refine (Sqrt_c _ _ ha hb _).mono ?_
  rintro e w' ⟨x23, y23, n23, rfl, g23, bx23, by23, rfl⟩
  have H23 : Hid _ := g23
  clear g23
  go_wp2_with fail
  refine (rSqrt_c _ _ ha hb _).mono ?_
  rintro e w' ⟨x24, y24, n24, rfl, g24, bx24, by24, rfl⟩
  have H24 : Hid _ := g24
  clear g24
  go_wp2_with fail
  refine (same_t H23 H24 _).mono ?_
  rintro e w' ⟨rfl, rfl⟩
  go_wp2
  go_ret
  exact ⟨rfl, by repeat (first | exact Grown.refl _ | refine grown_dn ?_ _ | apply Grown.alloc)⟩
/-! ### The row's step -/
namespace partsAlone_frame
open Go.ChangeShapes Go.WideShapes Go.ChangeAt Go.RowKit
theorem own : ownKnob Try.prog.godebug = none := by kernel_rfl
theorem cellsZ : Try.prog.cellsOf 24 = 2 := by kernel_rfl
set_option maxRecDepth 100000 in
theorem lifted (os : Os) (started : os.Started) (H : Type) (enc : TypeId × Value → H) :
    ReturnsInHanded {} Try.checked os 6 .any (Rows.partsAloneSpec.pre6 enc Try.prog Try.f6 Rows.partsAloneRow.domain false) (Rows.partsAloneSpec.post enc Try.prog Try.f6 false true false false) := by
  refine returnsInHanded_of_change (C := Try.checked) own started (by kernel_rfl) Try.func6
    (ChangeSpec.witness6 (enc := enc) (C := Try.checked) false ⟨#[], #[.agg #[.int .u64 0, .int .u64 0], .int .u64 0], []⟩ 8 (by kernel_rfl) (by kernel_rfl) (by kernel_rfl) (by kernel_rfl)) ?_
  intro W base args ds gs before hval0 hW hcnd _
  have hval : ∀ (j : Nat) t v, Try.f6.params[j]? = some t → args[j]? = some v → Value.okWide Try.prog W .any base t v := hval0
  have hW' := hW
  obtain ⟨p, q, hA0, hV, rfl, hfz, hnd⟩ := hW
  have hA : DataW.TrodAll enc Try.prog W 0 (fun _ => true) true Try.f6.params.toList args.toList ds p := hA0
  rw [Try.params6] at hA hval
  obtain ⟨v0, vs0, d0, ds0, p0, q0, hargs, rfl, rfl, h0, r0⟩ := trodAll_cons hA
  obtain ⟨v1, vs1, d1, ds1, p1, q1, rfl, rfl, rfl, h1, r1⟩ := trodAll_cons r0
  obtain ⟨rfl, rfl, rfl⟩ := trodAll_nil r1
  obtain rfl : args = #[v0, v1] := by cases args; simp_all
  obtain ⟨rfl, rfl⟩ := trodVars_none hV
  obtain ⟨c0, d0', y0, z0, m0, rfl, rfl, rfl, hy0, hz0⟩ := Joins.open_agg2 Try.underlying24 (by kernel_rfl) cellsZ (hval 0 24 v0 rfl rfl) h0
  obtain ⟨a0, e0, rfl, w0⟩ := DataW.trod_int Try.underlying22 hy0
  obtain ⟨a0', e0', rfl, w0'⟩ := DataW.trod_int Try.underlying22 hz0
  simp at e0 e0'; subst e0 e0'
  obtain ⟨n0, rfl, b0⟩ := wf_nat_u64 w0
  obtain ⟨n0', rfl, b0'⟩ := wf_nat_u64 w0'
  obtain ⟨a1, rfl, rfl, rfl, w1⟩ := open_int Try.underlying22 (hval 1 22 v1 rfl rfl) h1
  obtain ⟨n1, rfl, b1⟩ := wf_nat_u64 w1
  clear hA0 hval0
  simp only [List.append_nil] at hW'
  refine (PartsAlone_walk n0 b0 n0' b0' n1 b1 W).mono fun e W' ⟨he, hg⟩ => ?_
  subst he
  exact ⟨_, rfl, post_of_same (pa := []) (pv := []) hW' (fun _ _ _ => (trodAll_cons_mk (shut_bool Try.underlying4 _) trodAll_mk0)) (fun sp _ => (trodAll_cons_mk ((Joins.shut_agg2 (y0 := (.lit (.int .u64 n0), [])) (y1 := (.lit (.int .u64 n0'), [])) Try.underlying24 (by kernel_rfl) cellsZ ⟨1, by simp [DataW.trod, Try.underlying22, w0]⟩ ⟨1, by simp [DataW.trod, Try.underlying22, w0']⟩)) (trodAll_cons_mk (shut_int Try.underlying22 w1) trodAll_mk0))) (fun _ _ => rfl) rfl
    (hg.frame _) hg.2.1 (ok_one (by kernel_rfl) rfl (okWide_bool_mk Try.underlying4 _))⟩
theorem over : Rows.partsAloneRow.holds Try.pinned (OpenSpec.ofChange Rows.partsAloneSpec) :=
  OpenClaim.holds_of_wide 6 Try.f6 rfl rfl rfl rfl rfl rfl rfl ⟨rfl, rfl, rfl, rfl, rfl⟩ rfl rfl rfl rfl rfl (by kernel_rfl) Try.func6 (by kernel_rfl)
    (of_decide_eq_true (by kernel_rfl)) (by unfold Func.isWrapper; first | (rw [if_pos (by decide +kernel)]; kernel_rfl) | (rw [if_neg (by decide +kernel)]; exact ⟨rfl, rfl⟩))
    (fun os started H enc _ => lifted os started H enc)
end partsAlone_frame

/-- THE STATEMENT. -/
theorem partsAlone_holds : Rows.PartsAloneSaid := partsAlone_frame.over
#print axioms partsAlone_holds
end Go.Proofs.Ytpibokkcmhfdbaa
