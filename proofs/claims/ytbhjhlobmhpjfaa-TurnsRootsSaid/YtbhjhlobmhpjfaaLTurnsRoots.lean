/- TurnsRoots: of every number of steps, size and complex number: Root, Phasor and Turned of package turns are the reference's, to the bit. No condition. -/
import Derived.Test.YtbhjhlobmhpjfaaT04
import Derived.Test.YtbhjhlobmhpjfaaFr
namespace Go.Proofs.Ytbhjhlobmhpjfaa
open Go.RowKit Fl Ieee
set_option maxRecDepth 20000
attribute [local go_sem] x_f64frombits
set_option maxHeartbeats 1000000 in
theorem TurnsRoots_walk (k : Int) (_wk : (Lit.int .i64 k).wf = true) (s : Nat) (_hs : s < 18446744073709551616) (a : Nat) (_ha : a < 18446744073709551616) (b : Nat) (_hb : b < 18446744073709551616) (w : World) :
    Calls Try.prog 3 #[.int .i64 k, .int .u64 s, .agg #[.int .u64 a, .int .u64 b]] w fun e w' => e = .returned (.bool true) ∧ Grown w w' := by
  have t1 : ∀ W : World, Calls Try.prog 10 #[.complex .f64 (rootT k).1 (rootT k).2, .complex .f64 (rootT k).1 (rootT k).2] W fun e w' => e = .returned (.bool true) ∧ W = w' := fun W => SameNumber_t (v := _) rfl rfl W
  have T1 : Hid _ := t1
  clear t1
  go_enter Try.func3, Try.ntmps3
  go_wp2_with fail
  refine (Number_c _ _ _).mono ?_
  rintro e w' ⟨n, rfl, rfl⟩
  go_wp2_with fail
  refine (Root_c _ _).mono ?_
  rintro e w' ⟨rfl, rfl⟩
  go_wp2_with fail
  refine (rRoot_c _ _).mono ?_
  rintro e w1 ⟨rfl, g1⟩
  go_wp2_with fail
  refine (T1.out _).mono ?_
  rintro e w' ⟨rfl, rfl⟩
  go_wp2_with fail
  refine (Phasor_c _ _ _).mono ?_
  rintro e w' ⟨x3, y3, n3, rfl, g3, bx3, by3, rfl⟩
  have H3 : Hid _ := g3
  clear g3
  go_wp2_with fail
  refine (rPhasor_c _ _ _).mono ?_
  rintro e w2 ⟨x4, y4, rfl, h4, bx4, by4, g2⟩
  have H4 : Hid _ := h4
  clear h4
  go_wp2_with fail
  refine (SameNumber_t H3 H4 _).mono ?_
  rintro e w' ⟨rfl, rfl⟩
  go_wp2_with fail
  refine (Turned_c _ _ _ _).mono ?_
  rintro e w' ⟨x6, y6, n6, rfl, g6, bx6, by6, rfl⟩
  have H6 : Hid _ := g6
  clear g6
  go_wp2_with fail
  refine (rTurned_c _ _ _ _).mono ?_
  rintro e w3 ⟨x7, y7, rfl, h7, bx7, by7, g3⟩
  have H7 : Hid _ := h7
  clear h7
  go_wp2_with fail
  refine (SameNumber_t H6 H7 _).mono ?_
  rintro e w' ⟨rfl, rfl⟩
  go_wp2
  go_ret
  refine ⟨rfl, grown_trans (grown_trans (grown_trans ?_ g1) (grown_trans (grown_dn (Grown.refl _) _) g2)) (grown_trans (grown_dn (Grown.refl _) _) g3)⟩
  repeat (first | exact Grown.refl _ | refine grown_dn ?_ _ | apply Grown.alloc)
/-! ### The row's step -/
namespace turnsRoots_frame
open Go.ChangeShapes Go.WideShapes Go.ChangeAt Go.RowKit
theorem own : ownKnob Try.prog.godebug = none := by kernel_rfl
theorem cellsZ : Try.prog.cellsOf 24 = 2 := by kernel_rfl
set_option maxRecDepth 100000 in
theorem lifted (os : Os) (started : os.Started) (H : Type) (enc : TypeId × Value → H) :
    ReturnsInHanded {} Try.checked os 3 .any (Rows.turnsRootsSpec.pre6 enc Try.prog Try.f3 Rows.turnsRootsRow.domain false) (Rows.turnsRootsSpec.post enc Try.prog Try.f3 false true false false) := by
  refine returnsInHanded_of_change (C := Try.checked) own started (by kernel_rfl) Try.func3
    (ChangeSpec.witness6 (enc := enc) (C := Try.checked) false ⟨#[], #[.int .i64 0, .int .u64 0, .agg #[.int .u64 0, .int .u64 0]], []⟩ 8 (by kernel_rfl) (by kernel_rfl) (by kernel_rfl) (by kernel_rfl)) ?_
  intro W base args ds gs before hval0 hW hcnd _
  have hval : ∀ (j : Nat) t v, Try.f3.params[j]? = some t → args[j]? = some v → Value.okWide Try.prog W .any base t v := hval0
  have hW' := hW
  obtain ⟨p, q, hA0, hV, rfl, hfz, hnd⟩ := hW
  have hA : DataW.TrodAll enc Try.prog W 0 (fun _ => true) true Try.f3.params.toList args.toList ds p := hA0
  rw [Try.params3] at hA hval
  obtain ⟨v0, vs0, d0, ds0, p0, q0, hargs, rfl, rfl, h0, r0⟩ := trodAll_cons hA
  obtain ⟨v1, vs1, d1, ds1, p1, q1, rfl, rfl, rfl, h1, r1⟩ := trodAll_cons r0
  obtain ⟨v2, vs2, d2, ds2, p2, q2, rfl, rfl, rfl, h2, r2⟩ := trodAll_cons r1
  obtain ⟨rfl, rfl, rfl⟩ := trodAll_nil r2
  obtain rfl : args = #[v0, v1, v2] := by cases args; simp_all
  obtain ⟨rfl, rfl⟩ := trodVars_none hV
  obtain ⟨a0, rfl, rfl, rfl, w0⟩ := open_int Try.underlying3 (hval 0 3 v0 rfl rfl) h0
  obtain ⟨a1, rfl, rfl, rfl, w1⟩ := open_int Try.underlying22 (hval 1 22 v1 rfl rfl) h1
  obtain ⟨n1, rfl, b1⟩ := wf_nat_u64 w1
  obtain ⟨c2, d2', y2, z2, m2, rfl, rfl, rfl, hy2, hz2⟩ := Joins.open_agg2 Try.underlying24 (by kernel_rfl) cellsZ (hval 2 24 v2 rfl rfl) h2
  obtain ⟨a2, e2, rfl, w2⟩ := DataW.trod_int Try.underlying22 hy2
  obtain ⟨a2', e2', rfl, w2'⟩ := DataW.trod_int Try.underlying22 hz2
  simp at e2 e2'; subst e2 e2'
  obtain ⟨n2, rfl, b2⟩ := wf_nat_u64 w2
  obtain ⟨n2', rfl, b2'⟩ := wf_nat_u64 w2'
  clear hA0 hval0
  simp only [List.append_nil] at hW'
  refine (TurnsRoots_walk a0 w0 n1 b1 n2 b2 n2' b2' W).mono fun e W' ⟨he, hg⟩ => ?_
  subst he
  exact ⟨_, rfl, post_of_same (pa := []) (pv := []) hW' (fun _ _ _ => (trodAll_cons_mk (shut_bool Try.underlying4 _) trodAll_mk0)) (fun sp _ => (trodAll_cons_mk (shut_int Try.underlying3 w0) (trodAll_cons_mk (shut_int Try.underlying22 w1) (trodAll_cons_mk ((Joins.shut_agg2 (y0 := (.lit (.int .u64 n2), [])) (y1 := (.lit (.int .u64 n2'), [])) Try.underlying24 (by kernel_rfl) cellsZ ⟨1, by simp [DataW.trod, Try.underlying22, w2]⟩ ⟨1, by simp [DataW.trod, Try.underlying22, w2']⟩)) trodAll_mk0)))) (fun _ _ => rfl) rfl
    (hg.frame _) hg.2.1 (ok_one (by kernel_rfl) rfl (okWide_bool_mk Try.underlying4 _))⟩
theorem over : Rows.turnsRootsRow.holds Try.pinned (OpenSpec.ofChange Rows.turnsRootsSpec) :=
  OpenClaim.holds_of_wide 3 Try.f3 rfl rfl rfl rfl rfl rfl rfl ⟨rfl, rfl, rfl, rfl, rfl⟩ rfl rfl rfl rfl rfl (by kernel_rfl) Try.func3 (by kernel_rfl)
    (of_decide_eq_true (by kernel_rfl)) (by unfold Func.isWrapper; first | (rw [if_pos (by decide +kernel)]; kernel_rfl) | (rw [if_neg (by decide +kernel)]; exact ⟨rfl, rfl⟩))
    (fun os started H enc _ => lifted os started H enc)
end turnsRoots_frame

/-- THE STATEMENT. -/
theorem turnsRoots_holds : Rows.TurnsRootsSaid := turnsRoots_frame.over
#print axioms turnsRoots_holds
end Go.Proofs.Ytbhjhlobmhpjfaa
