/- gridworklaw31.ArchiveDecodes: whatever the input it tells true, and its arguments read as they did. -/
import Derived.Test.YtpfjidijecgjcaaAeW
import Derived.Test.YtpfjidijecgjcaaAub
import Derived.Test.YtpfjidijecgjcaaExt
namespace Go.Proofs.Ytpfjidijecgjcaa
open Go.RowKit Go.WideElems Go.Maps Go.Deep Fl Ieee
set_option maxRecDepth 20000
theorem ArchiveDecodes_walk (A : Option Addr) (l : List Nat) (k : Nat) (hk : l.length ≤ k) (_ : k ≤ maxLen) (hA : A = none → k = 0) {w0 : World} (hr : Reads w0 w0.heap.size A (l.map fun x => Value.int .u8 (x : Nat))) (hlt : ∀ x ∈ l, x < 256) (hu : l.length ≤ 1048576) (w : World) (hw : w0 = w := by rfl) :
    Calls Try.prog 3 #[.slice A l.length k] w fun e w' => e = .returned (.bool true) ∧ Below w.heap.size w w' := by
  subst hw
  exact Decodes_walk l A k _ hr hlt hk hA (Nat.le_trans hu (by decide))
/-! ### The row's step -/
namespace archiveDecodes_frame
open Go.ChangeShapes Go.WideShapes Go.ChangeAt Go.RowKit
theorem own : ownKnob Try.prog.godebug = none := by kernel_rfl
theorem one_le {H : Type} (d : DataW H) : 1 ≤ Rows.uptoBulk d := by
  cases d with
  | lit l => cases l <;> simp [Rows.uptoBulk]
  | nil => simp [Rows.uptoBulk]
  | ptr d => simp [Rows.uptoBulk]
  | slice elems spare => simp [Rows.uptoBulk]
  | agg parts => simp [Rows.uptoBulk]
  | iface t d => simp [Rows.uptoBulk]
  | map entries => simp [Rows.uptoBulk]
  | held h => simp [Rows.uptoBulk]
theorem bulk_part {H : Type} {d : DataW H} {l : List (DataW H)} (h : d ∈ l) (hk : Rows.uptoBulkAll l ≤ 1048576) : Rows.uptoBulk d ≤ 1048576 := by
  induction l with
  | nil => cases h
  | cons x r ih =>
    simp only [Rows.uptoBulkAll] at hk
    rcases List.mem_cons.1 h with e | e
    · subst e; omega
    · exact ih e (by omega)
theorem bulk_each {H : Type} (D : Nat → DataW H) (L : List Nat) : L.length ≤ Rows.uptoBulkAll (L.map D) := by
  induction L with
  | nil => simp
  | cons x r ih =>
    simp only [List.map_cons, List.length_cons, Rows.uptoBulkAll]
    have h0 := one_le (D x)
    omega
theorem bulk_bs {H : Type} {n : Nat} {z : DataW H} (hz : BsDatum n z) : n ≤ Rows.uptoBulk z := by
  rcases hz with rfl | ⟨D, sp, rfl⟩
  · simp
  · have h := bulk_each D (List.range n)
    rw [List.length_range] at h
    simp only [Rows.uptoBulk]
    omega
theorem contract (H : Type) (enc : TypeId × Value → H) (W : World) (base : Nat) (args : Array Value) (ds gs : List (DataW H)) (before : List MemPlace)
    (hval0 : ∀ (j : Nat) t v, Try.f3.params[j]? = some t → args[j]? = some v → Value.okWide Try.prog W .any base t v)
    (hW : DataW.Whole enc Try.prog Try.f3.params.toList Rows.archiveDecodesSpec.vars false W args.toList ds gs before) (hk : Rows.uptoSmall H (ds ++ gs) = true) :
    Calls Try.prog 3 args W fun e W' => ∃ v, e = .returned v ∧ Rows.archiveDecodesSpec.post enc Try.prog Try.f3 false true false false W args v W' := by
  have hbk0 : Rows.uptoBulkAll (ds ++ gs) ≤ 1048576 := of_decide_eq_true hk
  clear hk
  have hval : ∀ (j : Nat) t v, Try.f3.params[j]? = some t → args[j]? = some v → Value.okWide Try.prog W .any base t v := hval0
  have hW' := hW
  obtain ⟨p, q, hA0, hV, rfl, hfz, hnd⟩ := hW
  have hA : DataW.TrodAll enc Try.prog W 0 (fun _ => true) true Try.f3.params.toList args.toList ds p := hA0
  rw [Try.params3] at hA hval
  obtain ⟨v0, vs0, d0, ds0, p0, q0, hargs, rfl, rfl, h0, r0⟩ := trodAll_cons hA
  obtain ⟨rfl, rfl, rfl⟩ := trodAll_nil r0
  obtain rfl : args = #[v0] := by cases args; simp_all
  obtain ⟨rfl, rfl⟩ := trodVars_none hV
  have hbk := hbk0
  rw [List.append_nil] at hbk
  obtain ⟨A0, l0, k0, rfl, hk0, hm0, hn0, hrd0, hlt0, hz0⟩ := open_bs_arg (hval 0 22 v0 rfl rfl) h0
  have hu0 : l0.length ≤ 1048576 := by
    have h0 := bulk_part (d := d0) (by simp) hbk
    have h1 := bulk_bs hz0
    omega
  clear hval0
  refine (ArchiveDecodes_walk A0 l0 k0 hk0 hm0 hn0 hrd0 hlt0 hu0 W).mono fun e W' ⟨he, hg⟩ => ?_
  subst he
  have hT : ∀ t ∈ Try.f3.params.toList, t < Try.prog.types.size := fun t ht => of_decide_eq_true (List.all_eq_true.1 (show (Try.f3.params.toList.all fun t => decide (t < Try.prog.types.size)) = true by kernel_rfl) t ht)
  exact ⟨_, rfl, post_of_below (pv := []) hW' (fun _ _ _ => (trodAll_cons_mk (shut_bool Try.underlying4 _) trodAll_mk0)) (fun sp hsp => trodAll_move kidsP slicesP hT hA0 hg (fun p hp => hsp p (List.mem_append_left _ hp))) (fun _ _ => rfl) rfl
    hg (ok_one (by kernel_rfl) rfl (okWide_bool_mk Try.underlying4 _))⟩
set_option maxRecDepth 100000 in
theorem lifted (os : Os) (started : os.Started) (H : Type) (enc : TypeId × Value → H) (F : Stop.Interp) :
    ReturnsInHanded {} Try.checked os 3 .any ((Rows.OpenSpec.upto Rows.archiveDecodesSpec).pre6 enc Try.prog Try.f3 Rows.archiveDecodesUptoRow.domain false) (((Rows.OpenSpec.upto Rows.archiveDecodesSpec).at F).post enc Try.prog Try.f3 false true false false) := by
  refine returnsInHanded_of_cond (C := Try.checked) (s := Rows.OpenSpec.upto Rows.archiveDecodesSpec) (k := Rows.uptoSmall) rfl own started (by kernel_rfl) Try.func3
    (OpenSpec.witness (enc := enc) (C := Try.checked) (s := Rows.OpenSpec.upto Rows.archiveDecodesSpec) (k := Rows.uptoSmall) rfl false ⟨#[], #[.slice none 0 0], []⟩ 8 (by kernel_rfl) (by kernel_rfl) (by kernel_rfl)
      (x := ([.nil], [], [])) (by kernel_rfl) rfl (by kernel_rfl)) ?_
  intro W base args ds gs before hval hW _ hk _
  exact contract H enc W base args ds gs before hval hW hk
theorem over : Rows.ArchiveDecodesUptoSaid :=
  OpenClaim.holds_of_cond 3 Try.f3 rfl rfl rfl rfl rfl rfl rfl ⟨rfl, rfl, rfl, rfl, rfl⟩ rfl rfl rfl rfl rfl (by kernel_rfl) Try.func3 (by kernel_rfl)
    (of_decide_eq_true (by kernel_rfl)) (by unfold Func.isWrapper; first | (rw [if_pos (by decide +kernel)]; kernel_rfl) | (rw [if_neg (by decide +kernel)]; exact ⟨rfl, rfl⟩))
    (fun os started H enc _ F => lifted os started H enc F)
end archiveDecodes_frame

/-- THE STATEMENT. -/
theorem archiveDecodes_holds : Rows.ArchiveDecodesUptoSaid := archiveDecodes_frame.over
#print axioms archiveDecodes_holds
end Go.Proofs.Ytpfjidijecgjcaa
