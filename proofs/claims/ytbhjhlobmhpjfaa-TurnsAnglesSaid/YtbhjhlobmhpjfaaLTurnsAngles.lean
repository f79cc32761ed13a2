/- TurnsAngles: of every complex number, by its bits, the angle that package turns tells, or the error, is the reference's, to the bit. No condition. -/
import Derived.Test.YtbhjhlobmhpjfaaT04A
import Derived.Test.YtbhjhlobmhpjfaaFr
namespace Go.Proofs.Ytbhjhlobmhpjfaa
open Go.RowKit Fl Ieee
set_option maxRecDepth 20000
theorem kSameReal_t {a b v : Nat} (h : Hid (cn .f64 a = v)) (h' : Hid (cn .f64 b = v)) (w : World) :
    Calls Try.prog 19 #[.float .f64 a, .float .f64 b] w fun e w' => e = .returned (.bool true) ∧ w = w' := by
  have := kSameReal_c a b w
  rw [h.out, h'.out, decide_eq_true rfl] at this; exact this
theorem TurnsAngles_of (a b : Nat) (v : Nat) (er : Int) (h1 : ∀ W : World, Calls Try.prog 17 #[.complex .f64 a b] W (RetRE v er W)) (h2 : ∀ W : World, Calls Try.prog 18 #[.complex .f64 a b] W (RetRE v er W)) (w : World) :
    Calls Try.prog 4 #[.agg #[.int .u64 a, .int .u64 b]] w fun e w' => e = .returned (.bool true) ∧ Grown w w' := by
  have H1 : Hid _ := h1
  have H2 : Hid _ := h2
  clear h1 h2
  go_enter Try.func4, Try.ntmps4
  go_wp2_with fail
  refine (Number_c _ _ _).mono ?_
  rintro e w' ⟨n, rfl, rfl⟩
  go_wp2_with fail
  refine (H1.out _).mono ?_
  rintro e w' ⟨x1, n1, rfl, g1, b1, rfl⟩
  have G1 : Hid _ := g1
  clear g1
  go_wp2_with fail
  refine (H2.out _).mono ?_
  rintro e w' ⟨x2, n2, rfl, g2, b2, rfl⟩
  have G2 : Hid _ := g2
  clear g2
  go_wp2_with fail
  refine (kSameReal_t G1 G2 _).mono ?_
  rintro e w' ⟨rfl, rfl⟩
  go_wp2
  go_ret
  refine ⟨rfl, ?_⟩
  repeat (first | exact Grown.refl _ | refine grown_dn ?_ _ | apply Grown.alloc)
theorem TurnsAngles_walk (a : Nat) (ha : a < 18446744073709551616) (b : Nat) (hb : b < 18446744073709551616) (w : World) :
    Calls Try.prog 4 #[.agg #[.int .u64 a, .int .u64 b]] w fun e w' => e = .returned (.bool true) ∧ Grown w w' := by
  cases hf : pFinite (cn .f64 a, cn .f64 b)
  · exact TurnsAngles_of a b 0 5 (Angle_no a b ha hb hf) (rAngle_no a b ha hb hf) w
  · cases hz : (feq .f64 a 0 && feq .f64 b 0)
    · exact TurnsAngles_of a b _ 0 (Angle_c a b ha hb hf hz) (rAngle_c a b ha hb hf hz) w
    · have ⟨z1, z2⟩ : feq .f64 a 0 = true ∧ feq .f64 b 0 = true := by simpa using hz
      exact TurnsAngles_of a b 0 2 (Angle_zero a b ha hb hf z1 z2) (rAngle_zero a b ha hb hf z1 z2) w
/-! ### The row's step -/
namespace turnsAngles_frame
open Go.ChangeShapes Go.WideShapes Go.ChangeAt Go.RowKit
theorem own : ownKnob Try.prog.godebug = none := by kernel_rfl
theorem cellsZ : Try.prog.cellsOf 24 = 2 := by kernel_rfl
set_option maxRecDepth 100000 in
theorem lifted (os : Os) (started : os.Started) (H : Type) (enc : TypeId × Value → H) :
    ReturnsInHanded {} Try.checked os 4 .any (Rows.turnsAnglesSpec.pre6 enc Try.prog Try.f4 Rows.turnsAnglesRow.domain false) (Rows.turnsAnglesSpec.post enc Try.prog Try.f4 false true false false) := by
  refine returnsInHanded_of_change (C := Try.checked) own started (by kernel_rfl) Try.func4
    (ChangeSpec.witness6 (enc := enc) (C := Try.checked) false ⟨#[], #[.agg #[.int .u64 0, .int .u64 0]], []⟩ 8 (by kernel_rfl) (by kernel_rfl) (by kernel_rfl) (by kernel_rfl)) ?_
  intro W base args ds gs before hval0 hW hcnd _
  have hval : ∀ (j : Nat) t v, Try.f4.params[j]? = some t → args[j]? = some v → Value.okWide Try.prog W .any base t v := hval0
  have hW' := hW
  obtain ⟨p, q, hA0, hV, rfl, hfz, hnd⟩ := hW
  have hA : DataW.TrodAll enc Try.prog W 0 (fun _ => true) true Try.f4.params.toList args.toList ds p := hA0
  rw [Try.params4] at hA hval
  obtain ⟨v0, vs0, d0, ds0, p0, q0, hargs, rfl, rfl, h0, r0⟩ := trodAll_cons hA
  obtain ⟨rfl, rfl, rfl⟩ := trodAll_nil r0
  obtain rfl : args = #[v0] := by cases args; simp_all
  obtain ⟨rfl, rfl⟩ := trodVars_none hV
  obtain ⟨c0, d0', y0, z0, m0, rfl, rfl, rfl, hy0, hz0⟩ := Joins.open_agg2 Try.underlying24 (by kernel_rfl) cellsZ (hval 0 24 v0 rfl rfl) h0
  obtain ⟨a0, e0, rfl, w0⟩ := DataW.trod_int Try.underlying22 hy0
  obtain ⟨a0', e0', rfl, w0'⟩ := DataW.trod_int Try.underlying22 hz0
  simp at e0 e0'; subst e0 e0'
  obtain ⟨n0, rfl, b0⟩ := wf_nat_u64 w0
  obtain ⟨n0', rfl, b0'⟩ := wf_nat_u64 w0'
  clear hA0 hval0
  simp only [List.append_nil] at hW'
  refine (TurnsAngles_walk n0 b0 n0' b0' W).mono fun e W' ⟨he, hg⟩ => ?_
  subst he
  exact ⟨_, rfl, post_of_same (pa := []) (pv := []) hW' (fun _ _ _ => (trodAll_cons_mk (shut_bool Try.underlying4 _) trodAll_mk0)) (fun sp _ => (trodAll_cons_mk ((Joins.shut_agg2 (y0 := (.lit (.int .u64 n0), [])) (y1 := (.lit (.int .u64 n0'), [])) Try.underlying24 (by kernel_rfl) cellsZ ⟨1, by simp [DataW.trod, Try.underlying22, w0]⟩ ⟨1, by simp [DataW.trod, Try.underlying22, w0']⟩)) trodAll_mk0)) (fun _ _ => rfl) rfl
    (hg.frame _) hg.2.1 (ok_one (by kernel_rfl) rfl (okWide_bool_mk Try.underlying4 _))⟩
theorem over : Rows.turnsAnglesRow.holds Try.pinned (OpenSpec.ofChange Rows.turnsAnglesSpec) :=
  OpenClaim.holds_of_wide 4 Try.f4 rfl rfl rfl rfl rfl rfl rfl ⟨rfl, rfl, rfl, rfl, rfl⟩ rfl rfl rfl rfl rfl (by kernel_rfl) Try.func4 (by kernel_rfl)
    (of_decide_eq_true (by kernel_rfl)) (by unfold Func.isWrapper; first | (rw [if_pos (by decide +kernel)]; kernel_rfl) | (rw [if_neg (by decide +kernel)]; exact ⟨rfl, rfl⟩))
    (fun os started H enc _ => lifted os started H enc)
end turnsAngles_frame

/-- THE STATEMENT. -/
theorem turnsAngles_holds : Rows.TurnsAnglesSaid := turnsAngles_frame.over
#print axioms turnsAngles_holds
end Go.Proofs.Ytbhjhlobmhpjfaa
