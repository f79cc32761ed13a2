/- NarrowSteps: whatever the bits it tells true: the neighbours are above and below and come back, the middle is narrowed to one of both. No condition. -/
import Derived.Test.YtmbjaadhkhhaeaaNsW
import Derived.Test.YtmbjaadhkhhaeaaExt
namespace Go.Proofs.Ytmbjaadhkhhaeaa
open Go.RowKit Fl Ieee
set_option maxRecDepth 20000
theorem NarrowSteps_walk (u : Nat) (hu : u < 4294967296) (w : World) :
    Calls Try.prog 7 #[.int .u32 u] w fun e w' => e = .returned (.bool true) ∧ Grown w w' :=
  (Steps3 u hu w).mono fun _ _ ⟨he, n, hw⟩ => ⟨he, by rw [hw]; exact grown_drewN w n⟩
/-! ### The row's step -/
namespace narrowSteps_frame
open Go.ChangeShapes Go.WideShapes Go.ChangeAt Go.RowKit
theorem own : ownKnob Try.prog.godebug = none := by kernel_rfl
set_option maxRecDepth 100000 in
theorem lifted (os : Os) (started : os.Started) (H : Type) (enc : TypeId × Value → H) :
    ReturnsInHanded {} Try.checked os 7 .any (Rows.narrowStepsSpec.pre6 enc Try.prog Try.f7 Rows.narrowStepsRow.domain false) (Rows.narrowStepsSpec.post enc Try.prog Try.f7 false true false false) := by
  refine returnsInHanded_of_change (C := Try.checked) own started (by kernel_rfl) Try.func7
    (ChangeSpec.witness6 (enc := enc) (C := Try.checked) false ⟨#[], #[.int .u32 0], []⟩ 8 (by kernel_rfl) (by kernel_rfl) (by kernel_rfl) (by kernel_rfl)) ?_
  intro W base args ds gs before hval0 hW hcnd _
  have hval : ∀ (j : Nat) t v, Try.f7.params[j]? = some t → args[j]? = some v → Value.okWide Try.prog W .any base t v := hval0
  have hW' := hW
  obtain ⟨p, q, hA0, hV, rfl, hfz, hnd⟩ := hW
  have hA : DataW.TrodAll enc Try.prog W 0 (fun _ => true) true Try.f7.params.toList args.toList ds p := hA0
  rw [Try.params7] at hA hval
  obtain ⟨v0, vs0, d0, ds0, p0, q0, hargs, rfl, rfl, h0, r0⟩ := trodAll_cons hA
  obtain ⟨rfl, rfl, rfl⟩ := trodAll_nil r0
  obtain rfl : args = #[v0] := by cases args; simp_all
  obtain ⟨rfl, rfl⟩ := trodVars_none hV
  obtain ⟨a0, rfl, rfl, rfl, w0⟩ := open_int Try.underlying40 (hval 0 40 v0 rfl rfl) h0
  obtain ⟨n0, rfl, b0⟩ := wf_nat_u32 w0
  clear hA0 hval0
  simp only [List.append_nil] at hW'
  refine (NarrowSteps_walk n0 b0 W).mono fun e W' ⟨he, hg⟩ => ?_
  subst he
  exact ⟨_, rfl, post_of_same (pa := []) (pv := []) hW' (fun _ _ _ => (trodAll_cons_mk (shut_bool Try.underlying4 _) trodAll_mk0)) (fun sp _ => (trodAll_cons_mk (shut_int Try.underlying40 w0) trodAll_mk0)) (fun _ _ => rfl) rfl
    (hg.frame _) hg.2.1 (ok_one (by kernel_rfl) rfl (okWide_bool_mk Try.underlying4 _))⟩
theorem over : Rows.narrowStepsRow.holds Try.pinned (OpenSpec.ofChange Rows.narrowStepsSpec) :=
  OpenClaim.holds_of_wide 7 Try.f7 rfl rfl rfl rfl rfl rfl rfl ⟨rfl, rfl, rfl, rfl, rfl⟩ rfl rfl rfl rfl rfl (by kernel_rfl) Try.func7 (by kernel_rfl)
    (of_decide_eq_true (by kernel_rfl)) (by unfold Func.isWrapper; first | (rw [if_pos (by decide +kernel)]; kernel_rfl) | (rw [if_neg (by decide +kernel)]; exact ⟨rfl, rfl⟩))
    (fun os started H enc _ => lifted os started H enc)
end narrowSteps_frame

/-- THE STATEMENT. -/
theorem narrowSteps_holds : Rows.NarrowStepsSaid := narrowSteps_frame.over
#print axioms narrowSteps_holds
end Go.Proofs.Ytmbjaadhkhhaeaa
