/- TurnsCircle: round the circle: a turn more is the same, half a turn the opposite, back the conjugate, from 6 steps down the parts are changed, a quarter more is turned by one; no nought with a sign. No condition. -/
import Derived.Test.YtbhjhlobmhpjfaaT04B
import Derived.Test.YtbhjhlobmhpjfaaFr
namespace Go.Proofs.Ytbhjhlobmhpjfaa
open Go.RowKit Fl Ieee
set_option maxRecDepth 20000
attribute [local go_sem] Fl.order_self Fl.order_self' Fl.order_eq Fl.order_ne Fl.order_lt Fl.order_gt Fl.fle_fold Fl.fge_fold Fl.negFloat_flip x_f64frombits x_f64bits
set_option maxHeartbeats 1000000 in
theorem circle_walk (k K : Int) (hK : k % 1099511627776 - 549755813888 = K) (w : World) :
    Calls Try.prog 5 #[.int .i64 k] w fun e w' => e = .returned (.bool true) ∧ Grown w w' := by
  have b0 : -549755813888 ≤ K := by omega
  have b1 : K < 549755813888 := by omega
  obtain ⟨m, hm⟩ : ∃ m, m = K % 24 := ⟨_, rfl⟩
  have hc := circ_all m (by omega) (by omega)
  unfold circ at hc
  simp only [Bool.and_eq_true] at hc
  obtain ⟨⟨⟨⟨⟨⟨⟨⟨⟨⟨⟨c1, c2⟩, c3⟩, c4⟩, c5⟩, c6⟩, c7⟩, c8⟩, c9⟩, c10⟩, c11⟩, c12⟩ := hc
  have R0 := rootT_of (k := K) (a := m) (b := (m + 18) % 24) (by omega) (by omega)
  have R1 := rootT_of (k := K + 24) (a := m) (b := (m + 18) % 24) (by omega) (by omega)
  have R2 := rootT_of (k := K - 24) (a := m) (b := (m + 18) % 24) (by omega) (by omega)
  have R3 := rootT_of (k := K + 12) (a := (m + 12) % 24) (b := (m + 30) % 24) (by omega) (by omega)
  have R4 := rootT_of (k := -K) (a := (-m) % 24) (b := (-m + 18) % 24) (by omega) (by omega)
  have R5 := rootT_of (k := 6 - K) (a := (6 - m) % 24) (b := (24 - m) % 24) (by omega) (by omega)
  have R6 := rootT_of (k := K + 6) (a := (m + 6) % 24) (b := (m + 24) % 24) (by omega) (by omega)
  rw [← R0.1] at c1 c3 c5 c8 c10 c11
  rw [← R0.2] at c2 c4 c6 c7 c9 c12
  rw [← R3.1] at c3
  rw [← R3.2] at c4
  rw [← R4.1] at c5
  rw [← R4.2] at c6
  rw [← R5.1] at c7
  rw [← R5.2] at c8
  rw [← R6.1] at c9
  rw [← R6.2] at c10
  have q1 : feq .f64 (rootT (K + 24)).1 (rootT K).1 = true := by rw [R1.1, ← R0.1]; exact c1
  have q2 : feq .f64 (rootT (K + 24)).2 (rootT K).2 = true := by rw [R1.2, ← R0.2]; exact c2
  have q3 : feq .f64 (rootT (K - 24)).1 (rootT K).1 = true := by rw [R2.1, ← R0.1]; exact c1
  have q4 : feq .f64 (rootT (K - 24)).2 (rootT K).2 = true := by rw [R2.2, ← R0.2]; exact c2
  have z1 := eq_zero_or c11
  have z2 := eq_zero_or c12
  clear R0 R1 R2 R3 R4 R5 R6 c1 c2 c11 c12 hm
  rcases z1 with z1 | ⟨z1, z1'⟩ <;> rcases z2 with z2 | ⟨z2, z2'⟩
  all_goals
    go_enter Try.func5, Try.ntmps5
    go_wp2_with (first
      | (go_at_call 20; refine (awake4_c _).mono ?_; rintro e w' ⟨n, rfl, rfl⟩)
      | (go_at_call 21; refine (Pick_c _ _ (by omega) (by omega) _).mono ?_; rintro e w' ⟨rfl, rfl⟩)
      | (go_at_call 11; refine (Root_c _ _).mono ?_; rintro e w' ⟨rfl, rfl⟩))
    go_ret
    exact ⟨rfl, grown_dn (Grown.refl _) _⟩
theorem TurnsCircle_walk (k : Int) (_wk : (Lit.int .i64 k).wf = true) (w : World) :
    Calls Try.prog 5 #[.int .i64 k] w fun e w' => e = .returned (.bool true) ∧ Grown w w' :=
  circle_walk k _ rfl w
/-! ### The row's step -/
namespace turnsCircle_frame
open Go.ChangeShapes Go.WideShapes Go.ChangeAt Go.RowKit
theorem own : ownKnob Try.prog.godebug = none := by kernel_rfl
set_option maxRecDepth 100000 in
theorem lifted (os : Os) (started : os.Started) (H : Type) (enc : TypeId × Value → H) :
    ReturnsInHanded {} Try.checked os 5 .any (Rows.turnsCircleSpec.pre6 enc Try.prog Try.f5 Rows.turnsCircleRow.domain false) (Rows.turnsCircleSpec.post enc Try.prog Try.f5 false true false false) := by
  refine returnsInHanded_of_change (C := Try.checked) own started (by kernel_rfl) Try.func5
    (ChangeSpec.witness6 (enc := enc) (C := Try.checked) false ⟨#[], #[.int .i64 0], []⟩ 8 (by kernel_rfl) (by kernel_rfl) (by kernel_rfl) (by kernel_rfl)) ?_
  intro W base args ds gs before hval0 hW hcnd _
  have hval : ∀ (j : Nat) t v, Try.f5.params[j]? = some t → args[j]? = some v → Value.okWide Try.prog W .any base t v := hval0
  have hW' := hW
  obtain ⟨p, q, hA0, hV, rfl, hfz, hnd⟩ := hW
  have hA : DataW.TrodAll enc Try.prog W 0 (fun _ => true) true Try.f5.params.toList args.toList ds p := hA0
  rw [Try.params5] at hA hval
  obtain ⟨v0, vs0, d0, ds0, p0, q0, hargs, rfl, rfl, h0, r0⟩ := trodAll_cons hA
  obtain ⟨rfl, rfl, rfl⟩ := trodAll_nil r0
  obtain rfl : args = #[v0] := by cases args; simp_all
  obtain ⟨rfl, rfl⟩ := trodVars_none hV
  obtain ⟨a0, rfl, rfl, rfl, w0⟩ := open_int Try.underlying3 (hval 0 3 v0 rfl rfl) h0
  clear hA0 hval0
  simp only [List.append_nil] at hW'
  refine (TurnsCircle_walk a0 w0 W).mono fun e W' ⟨he, hg⟩ => ?_
  subst he
  exact ⟨_, rfl, post_of_same (pa := []) (pv := []) hW' (fun _ _ _ => (trodAll_cons_mk (shut_bool Try.underlying4 _) trodAll_mk0)) (fun sp _ => (trodAll_cons_mk (shut_int Try.underlying3 w0) trodAll_mk0)) (fun _ _ => rfl) rfl
    (hg.frame _) hg.2.1 (ok_one (by kernel_rfl) rfl (okWide_bool_mk Try.underlying4 _))⟩
theorem over : Rows.turnsCircleRow.holds Try.pinned (OpenSpec.ofChange Rows.turnsCircleSpec) :=
  OpenClaim.holds_of_wide 5 Try.f5 rfl rfl rfl rfl rfl rfl rfl ⟨rfl, rfl, rfl, rfl, rfl⟩ rfl rfl rfl rfl rfl (by kernel_rfl) Try.func5 (by kernel_rfl)
    (of_decide_eq_true (by kernel_rfl)) (by unfold Func.isWrapper; first | (rw [if_pos (by decide +kernel)]; kernel_rfl) | (rw [if_neg (by decide +kernel)]; exact ⟨rfl, rfl⟩))
    (fun os started H enc _ => lifted os started H enc)
end turnsCircle_frame

/-- THE STATEMENT. -/
theorem turnsCircle_holds : Rows.TurnsCircleSaid := turnsCircle_frame.over
#print axioms turnsCircle_holds
end Go.Proofs.Ytbhjhlobmhpjfaa
