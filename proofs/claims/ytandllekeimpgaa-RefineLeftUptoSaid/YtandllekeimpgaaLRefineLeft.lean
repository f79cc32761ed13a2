/- gridworklaw11.RefineLeft: whatever the input it tells true, and its arguments read as they did. -/
import Derived.Test.YtandllekeimpgaaRfT
import Derived.Test.YtandllekeimpgaaArg
import Derived.Test.YtandllekeimpgaaExt
namespace Go.Proofs.Ytandllekeimpgaa
open Go.RowKit Go.WideElems Go.Maps Go.Deep Fl Ieee
set_option maxRecDepth 20000
theorem open_zs_argU {H : Type} {enc : TypeId × Value → H} {w : World} {r : Reach} {b0 base : Nat} {held : Bool} {v : Value} {d : DataW H} {p : List MemPlace}
    (hv : Value.okWide Try.prog w r b0 22 v) (h : DataW.Trod enc Try.prog w base (fun _ => true) held 22 v d p) :
    ∃ (A : Option Addr) (l : List Fl.C) (cap : Nat), v = .slice A l.length cap ∧ l.length ≤ cap ∧ cap ≤ maxLen ∧ (A = none → cap = 0) ∧ Reads w w.heap.size A (zcells l) ∧ ltCs l ∧ ZsDatum l.length d := by
  obtain ⟨a, n, c, rfl⟩ := Go.WideShapes.okWide_slice Try.underlying22 hv
  obtain ⟨fuel, hf⟩ := h
  obtain ⟨A, l, cap, e, q1, q2, q3, q4, q5⟩ := open_zs hf
  have e2 : Value.slice a n c = .slice A l.length cap := by simpa [Value.cells] using e
  have hl : n = l.length := by injection e2
  subst hl
  exact ⟨A, l, cap, e2, q1, q2, q3, q4, q5, zs_datum hf⟩
theorem RefineLeft_walk (R0 C0 : Int) (A0 : Option Addr) (l0 : List C) (k0 : Nat) (_ : l0.length ≤ k0) (_ : k0 ≤ maxLen) (_ : A0 = none → k0 = 0) {w0 : World} (hr0 : Reads w0 w0.heap.size A0 (zcells l0)) (lt0 : ltCs l0) (_ : l0.length ≤ 1000000)
    (A1 : Option Addr) (l1 : List C) (k1 : Nat) (_ : l1.length ≤ k1) (_ : k1 ≤ maxLen) (_ : A1 = none → k1 = 0) (hr1 : Reads w0 w0.heap.size A1 (zcells l1)) (lt1 : ltCs l1) (hu1 : l1.length ≤ 1000000)
    (A2 : Option Addr) (l2 : List C) (k2 : Nat) (_ : l2.length ≤ k2) (_ : k2 ≤ maxLen) (_ : A2 = none → k2 = 0) (hr2 : Reads w0 w0.heap.size A2 (zcells l2)) (lt2 : ltCs l2) (hu2 : l2.length ≤ 1000000) (w : World) (hw : w0 = w := by rfl) :
    Calls Try.prog 3 #[mval R0 C0 (.slice A0 l0.length k0), .slice A1 l1.length k1, .slice A2 l2.length k2] w fun e w' => e = .returned (.bool true) ∧ Below w.heap.size w w' := by
  subst hw
  rcases Nat.lt_or_ge 600 l0.length with h | h
  · exact LeftLaw_big R0 C0 A0 A1 A2 l0.length l1.length l2.length k0 k1 k2 _ h
  · exact LeftLaw_small R0 C0 A0 A1 A2 l0 l1 l2 k0 k1 k2 _ h hu1 hu2 hr0 hr1 hr2 lt0 lt1 lt2
/-! ### The row's step -/
namespace refineLeft_frame
open Go.ChangeShapes Go.WideShapes Go.ChangeAt Go.RowKit
theorem own : ownKnob Try.prog.godebug = none := by kernel_rfl
theorem one_le {H : Type} (d : DataW H) : 1 ≤ Rows.uptoBulk d := by
  cases d with
  | lit l => cases l <;> simp [Rows.uptoBulk]
  | nil => simp [Rows.uptoBulk]
  | ptr d => simp [Rows.uptoBulk]
  | slice elems spare => simp [Rows.uptoBulk]
  | agg parts => simp [Rows.uptoBulk]
  | iface t d => simp [Rows.uptoBulk]
  | map entries => simp [Rows.uptoBulk]
  | held h => simp [Rows.uptoBulk]
theorem bulk_part {H : Type} {d : DataW H} {l : List (DataW H)} (h : d ∈ l) (hk : Rows.uptoBulkAll l ≤ 1048576) : Rows.uptoBulk d ≤ 1048576 := by
  induction l with
  | nil => cases h
  | cons x r ih =>
    simp only [Rows.uptoBulkAll] at hk
    rcases List.mem_cons.1 h with e | e
    · subst e; omega
    · exact ih e (by omega)
theorem bulk_pairs {H : Type} (D0 D1 : Nat → DataW H) (L : List Nat) : L.length * 3 ≤ Rows.uptoBulkAll (L.map fun i => .agg [D0 i, D1 i]) := by
  induction L with
  | nil => simp
  | cons x r ih =>
    simp only [List.map_cons, List.length_cons, Rows.uptoBulkAll, Rows.uptoBulk]
    have h0 := one_le (D0 x)
    have h1 := one_le (D1 x)
    omega
theorem bulk_zs {H : Type} {n : Nat} {z : DataW H} (hz : ZsDatum n z) : n * 3 ≤ Rows.uptoBulk z := by
  rcases hz with rfl | ⟨D0, D1, sp, rfl⟩
  · simp
  · have h := bulk_pairs D0 D1 (List.range n)
    rw [List.length_range] at h
    simp only [Rows.uptoBulk]
    omega
theorem bulk_mat {H : Type} {n : Nat} {z : DataW H} (a b : DataW H) (hz : ZsDatum n z) : n * 3 ≤ Rows.uptoBulk (DataW.agg [a, b, z]) := by
  rcases hz with rfl | ⟨D0, D1, sp, rfl⟩
  · simp
  · have h := bulk_pairs D0 D1 (List.range n)
    rw [List.length_range] at h
    simp only [Rows.uptoBulk, Rows.uptoBulkAll]
    omega
theorem contract (H : Type) (enc : TypeId × Value → H) (W : World) (base : Nat) (args : Array Value) (ds gs : List (DataW H)) (before : List MemPlace)
    (hval0 : ∀ (j : Nat) t v, Try.f3.params[j]? = some t → args[j]? = some v → Value.okWide Try.prog W .any base t v)
    (hW : DataW.Whole enc Try.prog Try.f3.params.toList Rows.refineLeftSpec.vars false W args.toList ds gs before) (hk : Rows.uptoSmall H (ds ++ gs) = true) :
    Calls Try.prog 3 args W fun e W' => ∃ v, e = .returned v ∧ Rows.refineLeftSpec.post enc Try.prog Try.f3 false true false false W args v W' := by
  have hbk0 : Rows.uptoBulkAll (ds ++ gs) ≤ 1048576 := of_decide_eq_true hk
  clear hk
  have hval : ∀ (j : Nat) t v, Try.f3.params[j]? = some t → args[j]? = some v → Value.okWide Try.prog W .any base t v := hval0
  have hW' := hW
  obtain ⟨p, q, hA0, hV, rfl, hfz, hnd⟩ := hW
  have hA : DataW.TrodAll enc Try.prog W 0 (fun _ => true) true Try.f3.params.toList args.toList ds p := hA0
  rw [Try.params3] at hA hval
  obtain ⟨v0, vs0, d0, ds0, p0, q0, hargs, rfl, rfl, h0, r0⟩ := trodAll_cons hA
  obtain ⟨v1, vs1, d1, ds1, p1, q1, rfl, rfl, rfl, h1, r1⟩ := trodAll_cons r0
  obtain ⟨v2, vs2, d2, ds2, p2, q2, rfl, rfl, rfl, h2, r2⟩ := trodAll_cons r1
  obtain ⟨rfl, rfl, rfl⟩ := trodAll_nil r2
  obtain rfl : args = #[v0, v1, v2] := by cases args; simp_all
  obtain ⟨rfl, rfl⟩ := trodVars_none hV
  have hbk := hbk0
  rw [List.append_nil] at hbk
  obtain ⟨R0, C0, A0, l0, k0, rfl, wr0, wc0, hk0, hm0, hn0, hrd0, hlt0, xa0, xb0, xz0, rfl, hz0⟩ := open_matU Try.underlying24 rfl rfl rfl (by kernel_rfl) (by kernel_rfl) (hval 0 24 v0 rfl rfl) h0
  have hu0 : l0.length ≤ 1000000 := by
    have h0 := bulk_part (d := .agg [xa0, xb0, xz0]) (by simp) hbk
    have h1 := bulk_mat xa0 xb0 hz0
    omega
  obtain ⟨A1, l1, k1, rfl, hk1, hm1, hn1, hrd1, hlt1, hz1⟩ := open_zs_argU (hval 1 22 v1 rfl rfl) h1
  have hu1 : l1.length ≤ 1000000 := by
    have h0 := bulk_part (d := d1) (by simp) hbk
    have h1 := bulk_zs hz1
    omega
  obtain ⟨A2, l2, k2, rfl, hk2, hm2, hn2, hrd2, hlt2, hz2⟩ := open_zs_argU (hval 2 22 v2 rfl rfl) h2
  have hu2 : l2.length ≤ 1000000 := by
    have h0 := bulk_part (d := d2) (by simp) hbk
    have h1 := bulk_zs hz2
    omega
  clear hval0
  refine (RefineLeft_walk R0 C0 A0 l0 k0 hk0 hm0 hn0 hrd0 hlt0 hu0 A1 l1 k1 hk1 hm1 hn1 hrd1 hlt1 hu1 A2 l2 k2 hk2 hm2 hn2 hrd2 hlt2 hu2 W).mono fun e W' ⟨he, hg⟩ => ?_
  subst he
  have hT : ∀ t ∈ Try.f3.params.toList, t < Try.prog.types.size := fun t ht => of_decide_eq_true (List.all_eq_true.1 (show (Try.f3.params.toList.all fun t => decide (t < Try.prog.types.size)) = true by kernel_rfl) t ht)
  exact ⟨_, rfl, post_of_below (pv := []) hW' (fun _ _ _ => (trodAll_cons_mk (shut_bool Try.underlying4 _) trodAll_mk0)) (fun sp hsp => trodAll_move kidsP slicesP hT hA0 hg (fun p hp => hsp p (List.mem_append_left _ hp))) (fun _ _ => rfl) rfl
    hg (ok_one (by kernel_rfl) rfl (okWide_bool_mk Try.underlying4 _))⟩
set_option maxRecDepth 100000 in
theorem lifted (os : Os) (started : os.Started) (H : Type) (enc : TypeId × Value → H) (F : Stop.Interp) :
    ReturnsInHanded {} Try.checked os 3 .any ((Rows.OpenSpec.upto Rows.refineLeftSpec).pre6 enc Try.prog Try.f3 Rows.refineLeftUptoRow.domain false) (((Rows.OpenSpec.upto Rows.refineLeftSpec).at F).post enc Try.prog Try.f3 false true false false) := by
  refine returnsInHanded_of_cond (C := Try.checked) (s := Rows.OpenSpec.upto Rows.refineLeftSpec) (k := Rows.uptoSmall) rfl own started (by kernel_rfl) Try.func3
    (OpenSpec.witness (enc := enc) (C := Try.checked) (s := Rows.OpenSpec.upto Rows.refineLeftSpec) (k := Rows.uptoSmall) rfl false ⟨#[], #[.agg #[.int .i64 0, .int .i64 0, .slice none 0 0], .slice none 0 0, .slice none 0 0], []⟩ 8 (by kernel_rfl) (by kernel_rfl) (by kernel_rfl)
      (x := ([.agg [.lit (.int .i64 0), .lit (.int .i64 0), .nil], .nil, .nil], [], [])) (by kernel_rfl) rfl (by kernel_rfl)) ?_
  intro W base args ds gs before hval hW _ hk _
  exact contract H enc W base args ds gs before hval hW hk
theorem over : Rows.RefineLeftUptoSaid :=
  OpenClaim.holds_of_cond 3 Try.f3 rfl rfl rfl rfl rfl rfl rfl ⟨rfl, rfl, rfl, rfl, rfl⟩ rfl rfl rfl rfl rfl (by kernel_rfl) Try.func3 (by kernel_rfl)
    (of_decide_eq_true (by kernel_rfl)) (by unfold Func.isWrapper; first | (rw [if_pos (by decide +kernel)]; kernel_rfl) | (rw [if_neg (by decide +kernel)]; exact ⟨rfl, rfl⟩))
    (fun os started H enc _ F => lifted os started H enc F)
end refineLeft_frame

/-- THE STATEMENT. -/
theorem refineLeft_holds : Rows.RefineLeftUptoSaid := refineLeft_frame.over
#print axioms refineLeft_holds
end Go.Proofs.Ytandllekeimpgaa
