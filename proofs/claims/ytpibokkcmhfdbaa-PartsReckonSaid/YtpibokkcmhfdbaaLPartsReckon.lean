/- PartsReckon: of any two complex numbers, by their bits, package parts asks and reckons as the reference does, to the bit (all NaNs being one). No condition. -/
import Derived.Test.YtpibokkcmhfdbaaL02a
namespace Go.Proofs.Ytpibokkcmhfdbaa
open Go.RowKit Fl Ieee
set_option maxRecDepth 20000
set_option maxHeartbeats 1000000 in
theorem PartsReckon_walk (a : Nat) (ha : a < 18446744073709551616) (b : Nat) (hb : b < 18446744073709551616) (c : Nat) (hc : c < 18446744073709551616) (d : Nat) (hd : d < 18446744073709551616) (w : World) :
    Calls Try.prog 4 #[.agg #[.int .u64 a, .int .u64 b], .agg #[.int .u64 c, .int .u64 d]] w fun e w' => e = .returned (.bool true) ∧ Grown w w' := by
  have s1 := pSame_self (cn .f64 a, cn .f64 b)
  have s2 := pSame_comm (cn .f64 c, cn .f64 d) (cn .f64 a, cn .f64 b)
  go_enter Try.func4, Try.ntmps4
  go_wp2_with fail
  go_region_held3 (fun w' => w'.cell? ⟨w.heap.size, 0, none⟩ = some (.int .u64 a) ∧ w'.cell? ⟨w.heap.size, 1, none⟩ = some (.int .u64 b) ∧ w'.cell? ⟨w.heap.size + 1, 0, none⟩ = some (.int .u64 c) ∧ w'.cell? ⟨w.heap.size + 1, 1, none⟩ = some (.int .u64 d))
    (go_keep)
    (first | (go_at_call 10; refine (Number_c _ _ _).mono ?_; rintro e w' ⟨n, rfl, rfl⟩))
  go_wp2_with (first
    | (go_at_call 20; refine (Same_c _ _ _ _ _).mono ?_; rintro e w' ⟨rfl, rfl⟩)
    | (go_at_call 21; refine (rSame_c _ _ _ _ _).mono ?_; rintro e w' ⟨rfl, rfl⟩)
    | (go_at_call 22; refine (Equal_c _ _ _ _ _).mono ?_; rintro e w' ⟨rfl, rfl⟩)
    | (go_at_call 23; refine (rEqual_c _ _ _ _ _).mono ?_; rintro e w' ⟨rfl, rfl⟩)
    | (go_at_call 25; refine (Zero_c _ _ _).mono ?_; rintro e w' ⟨rfl, rfl⟩)
    | (go_at_call 26; refine (rZero_c _ _ _).mono ?_; rintro e w' ⟨rfl, rfl⟩)
    | (go_at_call 19; refine (Finite_c _ _ ha hb _).mono ?_; rintro e w' ⟨m, rfl, rfl⟩)
    | (go_at_call 24; refine (rFinite_c _ _ ha hb _).mono ?_; rintro e w' ⟨m, rfl, rfl⟩))
  go_wp2_with fail
  refine (Add_c _ _ _ _ _).mono ?_
  rintro e w' ⟨x1, y1, n1, rfl, g1, bx1, by1, rfl⟩
  have H1 : Hid _ := g1
  clear g1
  go_wp2_with fail
  refine (rAdd_c _ _ _ _ _).mono ?_
  rintro e w' ⟨x2, y2, n2, rfl, g2, bx2, by2, rfl⟩
  have H2 : Hid _ := g2
  clear g2
  go_wp2_with fail
  refine (same_t H1 H2 _).mono ?_
  rintro e w' ⟨rfl, rfl⟩
  go_wp2_with fail
  refine (Sub_c _ _ _ _ _).mono ?_
  rintro e w' ⟨x4, y4, n4, rfl, g4, bx4, by4, rfl⟩
  have H4 : Hid _ := g4
  clear g4
  go_wp2_with fail
  refine (rSub_c _ _ _ _ _).mono ?_
  rintro e w' ⟨x5, y5, n5, rfl, g5, bx5, by5, rfl⟩
  have H5 : Hid _ := g5
  clear g5
  go_wp2_with fail
  refine (same_t H4 H5 _).mono ?_
  rintro e w' ⟨rfl, rfl⟩
  go_wp2_with fail
  refine (lives_c _).mono ?_
  rintro e w' ⟨n7, rfl, rfl⟩
  go_wp2_with fail
  refine (Mul_c _ _ _ _ _).mono ?_
  rintro e w' ⟨x8, y8, n8, rfl, g8, bx8, by8, rfl⟩
  have H8 : Hid _ := g8
  clear g8
  go_wp2_with fail
  refine (rMul_c _ _ _ _ _).mono ?_
  rintro e w' ⟨x9, y9, n9, rfl, g9, bx9, by9, rfl⟩
  have H9 : Hid _ := g9
  clear g9
  go_wp2_with fail
  refine (same_t H8 H9 _).mono ?_
  rintro e w' ⟨rfl, rfl⟩
  go_wp2_with fail
  refine (Div_c _ _ _ _ hc hd _).mono ?_
  rintro e w' ⟨x11, y11, n11, rfl, g11, bx11, by11, rfl⟩
  have H11 : Hid _ := g11
  clear g11
  go_wp2_with fail
  refine (rDiv_c _ _ _ _ hc hd _).mono ?_
  rintro e w' ⟨x12, y12, n12, rfl, g12, bx12, by12, rfl⟩
  have H12 : Hid _ := g12
  clear g12
  go_wp2_with fail
  refine (same_t H11 H12 _).mono ?_
  rintro e w' ⟨rfl, rfl⟩
  go_wp2
  go_ret
  exact ⟨rfl, by repeat (first | exact Grown.refl _ | refine grown_dn ?_ _ | apply Grown.alloc)⟩
/-! ### The row's step -/
namespace partsReckon_frame
open Go.ChangeShapes Go.WideShapes Go.ChangeAt Go.RowKit
theorem own : ownKnob Try.prog.godebug = none := by kernel_rfl
theorem cellsZ : Try.prog.cellsOf 24 = 2 := by kernel_rfl
set_option maxRecDepth 100000 in
theorem lifted (os : Os) (started : os.Started) (H : Type) (enc : TypeId × Value → H) :
    ReturnsInHanded {} Try.checked os 4 .any (Rows.partsReckonSpec.pre6 enc Try.prog Try.f4 Rows.partsReckonRow.domain false) (Rows.partsReckonSpec.post enc Try.prog Try.f4 false true false false) := by
  refine returnsInHanded_of_change (C := Try.checked) own started (by kernel_rfl) Try.func4
    (ChangeSpec.witness6 (enc := enc) (C := Try.checked) false ⟨#[], #[.agg #[.int .u64 0, .int .u64 0], .agg #[.int .u64 0, .int .u64 0]], []⟩ 8 (by kernel_rfl) (by kernel_rfl) (by kernel_rfl) (by kernel_rfl)) ?_
  intro W base args ds gs before hval0 hW hcnd _
  have hval : ∀ (j : Nat) t v, Try.f4.params[j]? = some t → args[j]? = some v → Value.okWide Try.prog W .any base t v := hval0
  have hW' := hW
  obtain ⟨p, q, hA0, hV, rfl, hfz, hnd⟩ := hW
  have hA : DataW.TrodAll enc Try.prog W 0 (fun _ => true) true Try.f4.params.toList args.toList ds p := hA0
  rw [Try.params4] at hA hval
  obtain ⟨v0, vs0, d0, ds0, p0, q0, hargs, rfl, rfl, h0, r0⟩ := trodAll_cons hA
  obtain ⟨v1, vs1, d1, ds1, p1, q1, rfl, rfl, rfl, h1, r1⟩ := trodAll_cons r0
  obtain ⟨rfl, rfl, rfl⟩ := trodAll_nil r1
  obtain rfl : args = #[v0, v1] := by cases args; simp_all
  obtain ⟨rfl, rfl⟩ := trodVars_none hV
  obtain ⟨c0, d0', y0, z0, m0, rfl, rfl, rfl, hy0, hz0⟩ := Joins.open_agg2 Try.underlying24 (by kernel_rfl) cellsZ (hval 0 24 v0 rfl rfl) h0
  obtain ⟨a0, e0, rfl, w0⟩ := DataW.trod_int Try.underlying22 hy0
  obtain ⟨a0', e0', rfl, w0'⟩ := DataW.trod_int Try.underlying22 hz0
  simp at e0 e0'; subst e0 e0'
  obtain ⟨n0, rfl, b0⟩ := wf_nat_u64 w0
  obtain ⟨n0', rfl, b0'⟩ := wf_nat_u64 w0'
  obtain ⟨c1, d1', y1, z1, m1, rfl, rfl, rfl, hy1, hz1⟩ := Joins.open_agg2 Try.underlying24 (by kernel_rfl) cellsZ (hval 1 24 v1 rfl rfl) h1
  obtain ⟨a1, e1, rfl, w1⟩ := DataW.trod_int Try.underlying22 hy1
  obtain ⟨a1', e1', rfl, w1'⟩ := DataW.trod_int Try.underlying22 hz1
  simp at e1 e1'; subst e1 e1'
  obtain ⟨n1, rfl, b1⟩ := wf_nat_u64 w1
  obtain ⟨n1', rfl, b1'⟩ := wf_nat_u64 w1'
  clear hA0 hval0
  simp only [List.append_nil] at hW'
  refine (PartsReckon_walk n0 b0 n0' b0' n1 b1 n1' b1' W).mono fun e W' ⟨he, hg⟩ => ?_
  subst he
  exact ⟨_, rfl, post_of_same (pa := []) (pv := []) hW' (fun _ _ _ => (trodAll_cons_mk (shut_bool Try.underlying4 _) trodAll_mk0)) (fun sp _ => (trodAll_cons_mk ((Joins.shut_agg2 (y0 := (.lit (.int .u64 n0), [])) (y1 := (.lit (.int .u64 n0'), [])) Try.underlying24 (by kernel_rfl) cellsZ ⟨1, by simp [DataW.trod, Try.underlying22, w0]⟩ ⟨1, by simp [DataW.trod, Try.underlying22, w0']⟩)) (trodAll_cons_mk ((Joins.shut_agg2 (y0 := (.lit (.int .u64 n1), [])) (y1 := (.lit (.int .u64 n1'), [])) Try.underlying24 (by kernel_rfl) cellsZ ⟨1, by simp [DataW.trod, Try.underlying22, w1]⟩ ⟨1, by simp [DataW.trod, Try.underlying22, w1']⟩)) trodAll_mk0))) (fun _ _ => rfl) rfl
    (hg.frame _) hg.2.1 (ok_one (by kernel_rfl) rfl (okWide_bool_mk Try.underlying4 _))⟩
theorem over : Rows.partsReckonRow.holds Try.pinned (OpenSpec.ofChange Rows.partsReckonSpec) :=
  OpenClaim.holds_of_wide 4 Try.f4 rfl rfl rfl rfl rfl rfl rfl ⟨rfl, rfl, rfl, rfl, rfl⟩ rfl rfl rfl rfl rfl (by kernel_rfl) Try.func4 (by kernel_rfl)
    (of_decide_eq_true (by kernel_rfl)) (by unfold Func.isWrapper; first | (rw [if_pos (by decide +kernel)]; kernel_rfl) | (rw [if_neg (by decide +kernel)]; exact ⟨rfl, rfl⟩))
    (fun os started H enc _ => lifted os started H enc)
end partsReckon_frame

/-- THE STATEMENT. -/
theorem partsReckon_holds : Rows.PartsReckonSaid := partsReckon_frame.over
#print axioms partsReckon_holds
end Go.Proofs.Ytpibokkcmhfdbaa
