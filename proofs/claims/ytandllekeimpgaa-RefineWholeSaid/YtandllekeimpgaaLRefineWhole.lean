/- gridworklaw11.RefineWhole: whatever the input it tells true, and its arguments read as they did. -/
import Derived.Test.YtandllekeimpgaaRwW
import Derived.Test.YtandllekeimpgaaArg
import Derived.Test.YtandllekeimpgaaExt
namespace Go.Proofs.Ytandllekeimpgaa
open Go.RowKit Go.WideElems Go.Maps Go.Deep Fl Ieee
set_option maxRecDepth 20000
theorem RefineWhole_walk (r0 : Nat) (hr0 : r0 < 256) (c0 : Nat) (hc0 : c0 < 256) (A0 : Option Addr) (l0 : List (Int × Int)) (k0 : Nat) (_ : l0.length ≤ maxLen) {w : World} (h0 : RdP w w.heap.size A0 l0) (_ : wfs l0) (A1 : Option Addr) (l1 : List (Int × Int)) (k1 : Nat) (_ : l1.length ≤ maxLen) (h1 : RdP w w.heap.size A1 l1) (_ : wfs l1)
    (A2 : Option Addr) (l2 : List (Int × Int)) (k2 : Nat) (_ : l2.length ≤ maxLen) (h2 : RdP w w.heap.size A2 l2) (wf2 : wfs l2) (W : World) (hW : W = w := by rfl) :
    Calls Try.prog 4 #[.int .u8 (r0 : Nat), .int .u8 (c0 : Nat), .slice A0 l0.length k0, .slice A1 l1.length k1, .slice A2 l2.length k2] W fun e w' => e = .returned (.bool true) ∧ Below W.heap.size W w' := by
  subst hW
  exact Whole_walk r0 c0 hr0 hc0 A0 A1 A2 l0 l1 l2 k0 k1 k2 W h0 h1 h2 wf2
/-! ### The row's step -/
namespace refineWhole_frame
open Go.ChangeShapes Go.WideShapes Go.ChangeAt Go.RowKit
theorem own : ownKnob Try.prog.godebug = none := by kernel_rfl
set_option maxRecDepth 100000 in
theorem lifted (os : Os) (started : os.Started) (H : Type) (enc : TypeId × Value → H) :
    ReturnsInHanded {} Try.checked os 4 .any (Rows.refineWholeSpec.pre6 enc Try.prog Try.f4 Rows.refineWholeRow.domain false) (Rows.refineWholeSpec.post enc Try.prog Try.f4 false true false false) := by
  refine returnsInHanded_of_change (C := Try.checked) own started (by kernel_rfl) Try.func4
    (ChangeSpec.witness6 (enc := enc) (C := Try.checked) false ⟨#[], #[.int .u8 0, .int .u8 0, .slice none 0 0, .slice none 0 0, .slice none 0 0], []⟩ 8 (by kernel_rfl) (by kernel_rfl) (by kernel_rfl) (by kernel_rfl)) ?_
  intro W base args ds gs before hval0 hW hcnd _
  have hval : ∀ (j : Nat) t v, Try.f4.params[j]? = some t → args[j]? = some v → Value.okWide Try.prog W .any base t v := hval0
  have hW' := hW
  obtain ⟨p, q, hA0, hV, rfl, hfz, hnd⟩ := hW
  have hA : DataW.TrodAll enc Try.prog W 0 (fun _ => true) true Try.f4.params.toList args.toList ds p := hA0
  rw [Try.params4] at hA hval
  obtain ⟨v0, vs0, d0, ds0, p0, q0, hargs, rfl, rfl, h0, r0⟩ := trodAll_cons hA
  obtain ⟨v1, vs1, d1, ds1, p1, q1, rfl, rfl, rfl, h1, r1⟩ := trodAll_cons r0
  obtain ⟨v2, vs2, d2, ds2, p2, q2, rfl, rfl, rfl, h2, r2⟩ := trodAll_cons r1
  obtain ⟨v3, vs3, d3, ds3, p3, q3, rfl, rfl, rfl, h3, r3⟩ := trodAll_cons r2
  obtain ⟨v4, vs4, d4, ds4, p4, q4, rfl, rfl, rfl, h4, r4⟩ := trodAll_cons r3
  obtain ⟨rfl, rfl, rfl⟩ := trodAll_nil r4
  obtain rfl : args = #[v0, v1, v2, v3, v4] := by cases args; simp_all
  obtain ⟨rfl, rfl⟩ := trodVars_none hV
  obtain ⟨a0, rfl, rfl, rfl, w0⟩ := open_int Try.underlying5 (hval 0 5 v0 rfl rfl) h0
  obtain ⟨n0, rfl, b0⟩ := wf_nat_u8 w0
  obtain ⟨a1, rfl, rfl, rfl, w1⟩ := open_int Try.underlying5 (hval 1 5 v1 rfl rfl) h1
  obtain ⟨n1, rfl, b1⟩ := wf_nat_u8 w1
  obtain ⟨A2, l2, k2, rfl, hm2, hrd2, hwf2⟩ := open_ps_arg (hval 2 42 v2 rfl rfl) h2
  obtain ⟨A3, l3, k3, rfl, hm3, hrd3, hwf3⟩ := open_ps_arg (hval 3 42 v3 rfl rfl) h3
  obtain ⟨A4, l4, k4, rfl, hm4, hrd4, hwf4⟩ := open_ps_arg (hval 4 42 v4 rfl rfl) h4
  clear hval0
  refine (RefineWhole_walk n0 b0 n1 b1 A2 l2 k2 hm2 hrd2 hwf2 A3 l3 k3 hm3 hrd3 hwf3 A4 l4 k4 hm4 hrd4 hwf4 W).mono fun e W' ⟨he, hg⟩ => ?_
  subst he
  have hT : ∀ t ∈ Try.f4.params.toList, t < Try.prog.types.size := fun t ht => of_decide_eq_true (List.all_eq_true.1 (show (Try.f4.params.toList.all fun t => decide (t < Try.prog.types.size)) = true by kernel_rfl) t ht)
  exact ⟨_, rfl, post_of_below (pv := []) hW' (fun _ _ _ => (trodAll_cons_mk (shut_bool Try.underlying4 _) trodAll_mk0)) (fun sp hsp => trodAll_move kidsP slicesP hT hA0 hg (fun p hp => hsp p (List.mem_append_left _ hp))) (fun _ _ => rfl) rfl
    hg (ok_one (by kernel_rfl) rfl (okWide_bool_mk Try.underlying4 _))⟩
theorem over : Rows.refineWholeRow.holds Try.pinned (OpenSpec.ofChange Rows.refineWholeSpec) :=
  OpenClaim.holds_of_wide 4 Try.f4 rfl rfl rfl rfl rfl rfl rfl ⟨rfl, rfl, rfl, rfl, rfl⟩ rfl rfl rfl rfl rfl (by kernel_rfl) Try.func4 (by kernel_rfl)
    (of_decide_eq_true (by kernel_rfl)) (by unfold Func.isWrapper; first | (rw [if_pos (by decide +kernel)]; kernel_rfl) | (rw [if_neg (by decide +kernel)]; exact ⟨rfl, rfl⟩))
    (fun os started H enc _ => lifted os started H enc)
end refineWhole_frame

/-- THE STATEMENT. -/
theorem refineWhole_holds : Rows.RefineWholeSaid := refineWhole_frame.over
#print axioms refineWhole_holds
end Go.Proofs.Ytandllekeimpgaa
