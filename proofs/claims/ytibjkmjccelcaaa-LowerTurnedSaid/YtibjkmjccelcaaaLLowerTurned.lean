/- gridworklaw09.LowerTurned: whatever the input it tells true, and its arguments read as they did. -/
import Derived.Test.YtibjkmjccelcaaaTuW
import Derived.Test.YtibjkmjccelcaaaArg
import Derived.Test.YtibjkmjccelcaaaExt
namespace Go.Proofs.Ytibjkmjccelcaaa
open Go.RowKit Go.WideElems Go.Maps Go.Deep Fl Ieee
set_option maxRecDepth 20000
theorem LowerTurned_walk (n : Int) (_ : (Lit.int .i64 n).wf = true) (A : Option Addr) (l : List C) (k : Nat) (_ : l.length ≤ k) (_ : k ≤ maxLen) (_ : A = none → k = 0) {w0 : World} (hr : Reads w0 w0.heap.size A (zcells l)) (hlt : ltCs l)
    (B : Option Addr) (lo : List Int) (k' : Nat) (_ : lo.length ≤ k') (_ : k' ≤ maxLen) (_ : B = none → k' = 0) (hr' : Reads w0 w0.heap.size B (zints lo)) (_ : ∀ x ∈ lo, (Lit.int .i64 x).wf = true) (w : World) (hw : w0 = w := by rfl) :
    Calls Try.prog 3 #[.int .i64 n, .slice A l.length k, .slice B lo.length k'] w fun e w' => e = .returned (.bool true) ∧ Below w.heap.size w w' := by
  subst hw
  exact Turned9 n A l k B lo k' _ hr hlt hr'
/-! ### The row's step -/
namespace lowerTurned_frame
open Go.ChangeShapes Go.WideShapes Go.ChangeAt Go.RowKit
theorem own : ownKnob Try.prog.godebug = none := by kernel_rfl
set_option maxRecDepth 100000 in
theorem lifted (os : Os) (started : os.Started) (H : Type) (enc : TypeId × Value → H) :
    ReturnsInHanded {} Try.checked os 3 .any (Rows.lowerTurnedSpec.pre6 enc Try.prog Try.f3 Rows.lowerTurnedRow.domain false) (Rows.lowerTurnedSpec.post enc Try.prog Try.f3 false true false false) := by
  refine returnsInHanded_of_change (C := Try.checked) own started (by kernel_rfl) Try.func3
    (ChangeSpec.witness6 (enc := enc) (C := Try.checked) false ⟨#[], #[.int .i64 0, .slice none 0 0, .slice none 0 0], []⟩ 8 (by kernel_rfl) (by kernel_rfl) (by kernel_rfl) (by kernel_rfl)) ?_
  intro W base args ds gs before hval0 hW hcnd _
  have hval : ∀ (j : Nat) t v, Try.f3.params[j]? = some t → args[j]? = some v → Value.okWide Try.prog W .any base t v := hval0
  have hW' := hW
  obtain ⟨p, q, hA0, hV, rfl, hfz, hnd⟩ := hW
  have hA : DataW.TrodAll enc Try.prog W 0 (fun _ => true) true Try.f3.params.toList args.toList ds p := hA0
  rw [Try.params3] at hA hval
  obtain ⟨v0, vs0, d0, ds0, p0, q0, hargs, rfl, rfl, h0, r0⟩ := trodAll_cons hA
  obtain ⟨v1, vs1, d1, ds1, p1, q1, rfl, rfl, rfl, h1, r1⟩ := trodAll_cons r0
  obtain ⟨v2, vs2, d2, ds2, p2, q2, rfl, rfl, rfl, h2, r2⟩ := trodAll_cons r1
  obtain ⟨rfl, rfl, rfl⟩ := trodAll_nil r2
  obtain rfl : args = #[v0, v1, v2] := by cases args; simp_all
  obtain ⟨rfl, rfl⟩ := trodVars_none hV
  obtain ⟨a0, rfl, rfl, rfl, w0⟩ := open_int Try.underlying3 (hval 0 3 v0 rfl rfl) h0
  obtain ⟨A1, l1, k1, rfl, hk1, hm1, hn1, hrd1, hlt1⟩ := open_zs_arg (hval 1 22 v1 rfl rfl) h1
  obtain ⟨A2, l2, k2, rfl, hk2, hm2, hn2, hrd2, hwf2⟩ := open_ints_arg (hval 2 23 v2 rfl rfl) h2
  clear hval0
  refine (LowerTurned_walk a0 w0 A1 l1 k1 hk1 hm1 hn1 hrd1 hlt1 A2 l2 k2 hk2 hm2 hn2 hrd2 hwf2 W).mono fun e W' ⟨he, hg⟩ => ?_
  subst he
  have hT : ∀ t ∈ Try.f3.params.toList, t < Try.prog.types.size := fun t ht => of_decide_eq_true (List.all_eq_true.1 (show (Try.f3.params.toList.all fun t => decide (t < Try.prog.types.size)) = true by kernel_rfl) t ht)
  exact ⟨_, rfl, post_of_below (pv := []) hW' (fun _ _ _ => (trodAll_cons_mk (shut_bool Try.underlying4 _) trodAll_mk0)) (fun sp hsp => trodAll_move kidsP slicesP hT hA0 hg (fun p hp => hsp p (List.mem_append_left _ hp))) (fun _ _ => rfl) rfl
    hg (ok_one (by kernel_rfl) rfl (okWide_bool_mk Try.underlying4 _))⟩
theorem over : Rows.lowerTurnedRow.holds Try.pinned (OpenSpec.ofChange Rows.lowerTurnedSpec) :=
  OpenClaim.holds_of_wide 3 Try.f3 rfl rfl rfl rfl rfl rfl rfl ⟨rfl, rfl, rfl, rfl, rfl⟩ rfl rfl rfl rfl rfl (by kernel_rfl) Try.func3 (by kernel_rfl)
    (of_decide_eq_true (by kernel_rfl)) (by unfold Func.isWrapper; first | (rw [if_pos (by decide +kernel)]; kernel_rfl) | (rw [if_neg (by decide +kernel)]; exact ⟨rfl, rfl⟩))
    (fun os started H enc _ => lifted os started H enc)
end lowerTurned_frame

/-- THE STATEMENT. -/
theorem lowerTurned_holds : Rows.LowerTurnedSaid := lowerTurned_frame.over
#print axioms lowerTurned_holds
end Go.Proofs.Ytibjkmjccelcaaa
