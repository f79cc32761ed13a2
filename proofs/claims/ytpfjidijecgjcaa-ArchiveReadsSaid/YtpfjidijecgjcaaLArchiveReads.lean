/- gridworklaw31.ArchiveReads: whatever the input it tells true, and its arguments read as they did. -/
import Derived.Test.YtpfjidijecgjcaaAdL
import Derived.Test.YtpfjidijecgjcaaAub
import Derived.Test.YtpfjidijecgjcaaExt
namespace Go.Proofs.Ytpfjidijecgjcaa
open Go.RowKit Go.WideElems Go.Maps Go.Deep Fl Ieee
set_option maxRecDepth 20000
theorem ArchiveReads_walk (A : Option Addr) (l : List Nat) (k : Nat) (hk : l.length ≤ k) (_ : k ≤ maxLen) (_ : A = none → k = 0) {w0 : World} (hr : Reads w0 w0.heap.size A (l.map fun x => Value.int .u8 (x : Nat))) (hlt : ∀ x ∈ l, x < 256) (w : World) (hw : w0 = w := by rfl) :
    Calls Try.prog 6 #[.slice A l.length k] w fun e w' => e = .returned (.bool true) ∧ Below w.heap.size w w' := by
  subst hw
  exact Reads_walk A l k _ hr hlt hk
/-! ### The row's step -/
namespace archiveReads_frame
open Go.ChangeShapes Go.WideShapes Go.ChangeAt Go.RowKit
theorem own : ownKnob Try.prog.godebug = none := by kernel_rfl
set_option maxRecDepth 100000 in
theorem lifted (os : Os) (started : os.Started) (H : Type) (enc : TypeId × Value → H) :
    ReturnsInHanded {} Try.checked os 6 .any (Rows.archiveReadsSpec.pre6 enc Try.prog Try.f6 Rows.archiveReadsRow.domain false) (Rows.archiveReadsSpec.post enc Try.prog Try.f6 false true false false) := by
  refine returnsInHanded_of_change (C := Try.checked) own started (by kernel_rfl) Try.func6
    (ChangeSpec.witness6 (enc := enc) (C := Try.checked) false ⟨#[], #[.slice none 0 0], []⟩ 8 (by kernel_rfl) (by kernel_rfl) (by kernel_rfl) (by kernel_rfl)) ?_
  intro W base args ds gs before hval0 hW hcnd _
  have hval : ∀ (j : Nat) t v, Try.f6.params[j]? = some t → args[j]? = some v → Value.okWide Try.prog W .any base t v := hval0
  have hW' := hW
  obtain ⟨p, q, hA0, hV, rfl, hfz, hnd⟩ := hW
  have hA : DataW.TrodAll enc Try.prog W 0 (fun _ => true) true Try.f6.params.toList args.toList ds p := hA0
  rw [Try.params6] at hA hval
  obtain ⟨v0, vs0, d0, ds0, p0, q0, hargs, rfl, rfl, h0, r0⟩ := trodAll_cons hA
  obtain ⟨rfl, rfl, rfl⟩ := trodAll_nil r0
  obtain rfl : args = #[v0] := by cases args; simp_all
  obtain ⟨rfl, rfl⟩ := trodVars_none hV
  obtain ⟨A0, l0, k0, rfl, hk0, hm0, hn0, hrd0, hlt0, hz0⟩ := open_bs_arg (hval 0 22 v0 rfl rfl) h0
  clear hval0
  refine (ArchiveReads_walk A0 l0 k0 hk0 hm0 hn0 hrd0 hlt0 W).mono fun e W' ⟨he, hg⟩ => ?_
  subst he
  have hT : ∀ t ∈ Try.f6.params.toList, t < Try.prog.types.size := fun t ht => of_decide_eq_true (List.all_eq_true.1 (show (Try.f6.params.toList.all fun t => decide (t < Try.prog.types.size)) = true by kernel_rfl) t ht)
  exact ⟨_, rfl, post_of_below (pv := []) hW' (fun _ _ _ => (trodAll_cons_mk (shut_bool Try.underlying4 _) trodAll_mk0)) (fun sp hsp => trodAll_move kidsP slicesP hT hA0 hg (fun p hp => hsp p (List.mem_append_left _ hp))) (fun _ _ => rfl) rfl
    hg (ok_one (by kernel_rfl) rfl (okWide_bool_mk Try.underlying4 _))⟩
theorem over : Rows.archiveReadsRow.holds Try.pinned (OpenSpec.ofChange Rows.archiveReadsSpec) :=
  OpenClaim.holds_of_wide 6 Try.f6 rfl rfl rfl rfl rfl rfl rfl ⟨rfl, rfl, rfl, rfl, rfl⟩ rfl rfl rfl rfl rfl (by kernel_rfl) Try.func6 (by kernel_rfl)
    (of_decide_eq_true (by kernel_rfl)) (by unfold Func.isWrapper; first | (rw [if_pos (by decide +kernel)]; kernel_rfl) | (rw [if_neg (by decide +kernel)]; exact ⟨rfl, rfl⟩))
    (fun os started H enc _ => lifted os started H enc)
end archiveReads_frame

/-- THE STATEMENT. -/
theorem archiveReads_holds : Rows.ArchiveReadsSaid := archiveReads_frame.over
#print axioms archiveReads_holds
end Go.Proofs.Ytpfjidijecgjcaa
