/- gridworklaw12.InverseOf: whatever the input it tells true, and its arguments read as they did. -/
import Derived.Test.YtajdfbjjgjpicaaIoW
import Derived.Test.YtajdfbjjgjpicaaArg
import Derived.Test.YtajdfbjjgjpicaaExt
namespace Go.Proofs.Ytajdfbjjgjpicaa
open Go.RowKit Go.WideElems Go.Maps Go.Deep Fl Ieee
set_option maxRecDepth 20000
theorem InverseOf_walk (n : Int) (_ : (Lit.int .i64 n).wf = true) (A : Option Addr) (l : List C) (k : Nat) (_ : l.length ≤ k) (_ : k ≤ maxLen) (_ : A = none → k = 0) {w0 : World} (hr : Reads w0 w0.heap.size A (zcells l)) (hlt : ltCs l) (w : World) (hw : w0 = w := by rfl) :
    Calls Try.prog 4 #[.int .i64 n, .slice A l.length k] w fun e w' => e = .returned (.bool true) ∧ Below w.heap.size w w' := by
  subst hw
  exact InvOf12 n A l k _ hr hlt
/-! ### The row's step -/
namespace inverseOf_frame
open Go.ChangeShapes Go.WideShapes Go.ChangeAt Go.RowKit
theorem own : ownKnob Try.prog.godebug = none := by kernel_rfl
set_option maxRecDepth 100000 in
theorem lifted (os : Os) (started : os.Started) (H : Type) (enc : TypeId × Value → H) :
    ReturnsInHanded {} Try.checked os 4 .any (Rows.inverseOfSpec.pre6 enc Try.prog Try.f4 Rows.inverseOfRow.domain false) (Rows.inverseOfSpec.post enc Try.prog Try.f4 false true false false) := by
  refine returnsInHanded_of_change (C := Try.checked) own started (by kernel_rfl) Try.func4
    (ChangeSpec.witness6 (enc := enc) (C := Try.checked) false ⟨#[], #[.int .i64 0, .slice none 0 0], []⟩ 8 (by kernel_rfl) (by kernel_rfl) (by kernel_rfl) (by kernel_rfl)) ?_
  intro W base args ds gs before hval0 hW hcnd _
  have hval : ∀ (j : Nat) t v, Try.f4.params[j]? = some t → args[j]? = some v → Value.okWide Try.prog W .any base t v := hval0
  have hW' := hW
  obtain ⟨p, q, hA0, hV, rfl, hfz, hnd⟩ := hW
  have hA : DataW.TrodAll enc Try.prog W 0 (fun _ => true) true Try.f4.params.toList args.toList ds p := hA0
  rw [Try.params4] at hA hval
  obtain ⟨v0, vs0, d0, ds0, p0, q0, hargs, rfl, rfl, h0, r0⟩ := trodAll_cons hA
  obtain ⟨v1, vs1, d1, ds1, p1, q1, rfl, rfl, rfl, h1, r1⟩ := trodAll_cons r0
  obtain ⟨rfl, rfl, rfl⟩ := trodAll_nil r1
  obtain rfl : args = #[v0, v1] := by cases args; simp_all
  obtain ⟨rfl, rfl⟩ := trodVars_none hV
  obtain ⟨a0, rfl, rfl, rfl, w0⟩ := open_int Try.underlying3 (hval 0 3 v0 rfl rfl) h0
  obtain ⟨A1, l1, k1, rfl, hk1, hm1, hn1, hrd1, hlt1⟩ := open_zs_arg (hval 1 22 v1 rfl rfl) h1
  clear hval0
  refine (InverseOf_walk a0 w0 A1 l1 k1 hk1 hm1 hn1 hrd1 hlt1 W).mono fun e W' ⟨he, hg⟩ => ?_
  subst he
  have hT : ∀ t ∈ Try.f4.params.toList, t < Try.prog.types.size := fun t ht => of_decide_eq_true (List.all_eq_true.1 (show (Try.f4.params.toList.all fun t => decide (t < Try.prog.types.size)) = true by kernel_rfl) t ht)
  exact ⟨_, rfl, post_of_below (pv := []) hW' (fun _ _ _ => (trodAll_cons_mk (shut_bool Try.underlying4 _) trodAll_mk0)) (fun sp hsp => trodAll_move kidsP slicesP hT hA0 hg (fun p hp => hsp p (List.mem_append_left _ hp))) (fun _ _ => rfl) rfl
    hg (ok_one (by kernel_rfl) rfl (okWide_bool_mk Try.underlying4 _))⟩
theorem over : Rows.inverseOfRow.holds Try.pinned (OpenSpec.ofChange Rows.inverseOfSpec) :=
  OpenClaim.holds_of_wide 4 Try.f4 rfl rfl rfl rfl rfl rfl rfl ⟨rfl, rfl, rfl, rfl, rfl⟩ rfl rfl rfl rfl rfl (by kernel_rfl) Try.func4 (by kernel_rfl)
    (of_decide_eq_true (by kernel_rfl)) (by unfold Func.isWrapper; first | (rw [if_pos (by decide +kernel)]; kernel_rfl) | (rw [if_neg (by decide +kernel)]; exact ⟨rfl, rfl⟩))
    (fun os started H enc _ => lifted os started H enc)
end inverseOf_frame

/-- THE STATEMENT. -/
theorem inverseOf_holds : Rows.InverseOfSaid := inverseOf_frame.over
#print axioms inverseOf_holds
end Go.Proofs.Ytajdfbjjgjpicaa
