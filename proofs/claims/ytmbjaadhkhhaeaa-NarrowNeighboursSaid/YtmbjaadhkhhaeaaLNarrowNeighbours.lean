/- NarrowNeighbours: of every narrow real, by its bits, both neighbours that package narrow tells are the reference's. No condition. -/
import Derived.Test.YtmbjaadhkhhaeaaNxt
import Derived.Test.YtmbjaadhkhhaeaaFr
namespace Go.Proofs.Ytmbjaadhkhhaeaa
open Go.RowKit Fl Ieee
set_option maxRecDepth 20000
attribute [local go_sem] x_f32frombits
theorem sameN_self (a b : Nat) : sameN a b a b = true := by simp [sameN]
theorem NarrowNeighbours_walk (u : Nat) (hu : u < 4294967296) (w : World) :
    Calls Try.prog 5 #[.int .u32 u] w fun e w' => e = .returned (.bool true) ∧ Grown w w' := by
  have h3 := sameN_self (nxt u true) (nxt u false)
  go_enter Try.func5, Try.ntmps5
  go_wp2_with (first
    | (go_at_call 26; refine (Next_c _ _ hu _).mono ?_; rintro e w' ⟨n, rfl, rfl⟩)
    | (go_at_call 27; refine (RNext_c _ _ hu _).mono ?_; rintro e w' ⟨rfl, rfl⟩)
    | (go_at_call 11; refine (SameNarrow_c _ _ _ _ _).mono ?_; rintro e w' ⟨rfl, rfl⟩))
  go_ret
  exact ⟨rfl, grown_drewN _ _⟩
/-! ### The row's step -/
namespace narrowNeighbours_frame
open Go.ChangeShapes Go.WideShapes Go.ChangeAt Go.RowKit
theorem own : ownKnob Try.prog.godebug = none := by kernel_rfl
set_option maxRecDepth 100000 in
theorem lifted (os : Os) (started : os.Started) (H : Type) (enc : TypeId × Value → H) :
    ReturnsInHanded {} Try.checked os 5 .any (Rows.narrowNeighboursSpec.pre6 enc Try.prog Try.f5 Rows.narrowNeighboursRow.domain false) (Rows.narrowNeighboursSpec.post enc Try.prog Try.f5 false true false false) := by
  refine returnsInHanded_of_change (C := Try.checked) own started (by kernel_rfl) Try.func5
    (ChangeSpec.witness6 (enc := enc) (C := Try.checked) false ⟨#[], #[.int .u32 0], []⟩ 8 (by kernel_rfl) (by kernel_rfl) (by kernel_rfl) (by kernel_rfl)) ?_
  intro W base args ds gs before hval0 hW hcnd _
  have hval : ∀ (j : Nat) t v, Try.f5.params[j]? = some t → args[j]? = some v → Value.okWide Try.prog W .any base t v := hval0
  have hW' := hW
  obtain ⟨p, q, hA0, hV, rfl, hfz, hnd⟩ := hW
  have hA : DataW.TrodAll enc Try.prog W 0 (fun _ => true) true Try.f5.params.toList args.toList ds p := hA0
  rw [Try.params5] at hA hval
  obtain ⟨v0, vs0, d0, ds0, p0, q0, hargs, rfl, rfl, h0, r0⟩ := trodAll_cons hA
  obtain ⟨rfl, rfl, rfl⟩ := trodAll_nil r0
  obtain rfl : args = #[v0] := by cases args; simp_all
  obtain ⟨rfl, rfl⟩ := trodVars_none hV
  obtain ⟨a0, rfl, rfl, rfl, w0⟩ := open_int Try.underlying40 (hval 0 40 v0 rfl rfl) h0
  obtain ⟨n0, rfl, b0⟩ := wf_nat_u32 w0
  clear hA0 hval0
  simp only [List.append_nil] at hW'
  refine (NarrowNeighbours_walk n0 b0 W).mono fun e W' ⟨he, hg⟩ => ?_
  subst he
  exact ⟨_, rfl, post_of_same (pa := []) (pv := []) hW' (fun _ _ _ => (trodAll_cons_mk (shut_bool Try.underlying4 _) trodAll_mk0)) (fun sp _ => (trodAll_cons_mk (shut_int Try.underlying40 w0) trodAll_mk0)) (fun _ _ => rfl) rfl
    (hg.frame _) hg.2.1 (ok_one (by kernel_rfl) rfl (okWide_bool_mk Try.underlying4 _))⟩
theorem over : Rows.narrowNeighboursRow.holds Try.pinned (OpenSpec.ofChange Rows.narrowNeighboursSpec) :=
  OpenClaim.holds_of_wide 5 Try.f5 rfl rfl rfl rfl rfl rfl rfl ⟨rfl, rfl, rfl, rfl, rfl⟩ rfl rfl rfl rfl rfl (by kernel_rfl) Try.func5 (by kernel_rfl)
    (of_decide_eq_true (by kernel_rfl)) (by unfold Func.isWrapper; first | (rw [if_pos (by decide +kernel)]; kernel_rfl) | (rw [if_neg (by decide +kernel)]; exact ⟨rfl, rfl⟩))
    (fun os started H enc _ => lifted os started H enc)
end narrowNeighbours_frame

/-- THE STATEMENT. -/
theorem narrowNeighbours_holds : Rows.NarrowNeighboursSaid := narrowNeighbours_frame.over
#print axioms narrowNeighbours_holds
end Go.Proofs.Ytmbjaadhkhhaeaa
