/- gridworklaw11.RefineRounds: whatever the input it tells true, and its arguments read as they did. -/
import Derived.Test.YtandllekeimpgaaGreatRfW
import Derived.Test.YtandllekeimpgaaGreatArg
import Derived.Test.YtandllekeimpgaaGreatExt
namespace Go.Proofs.YtandllekeimpgaaGreat
open Go.RowKit Go.WideElems Go.Maps Go.Deep Fl Ieee
set_option maxRecDepth 20000
theorem open_sysU {H : Type} {enc : TypeId × Value → H} {w : World} {r : Reach} {b0 base : Nat} {held : Bool} {t : TypeId} {f0 f1 f2 f3 : Field} {v : Value} {d : DataW H} {p : List MemPlace} (hs : Tryz.prog.underlying t = some (.struct #[f0, f1, f2, f3]))
    (e0 : f0.type = 3) (e1 : f1.type = 22) (e2 : f2.type = 22) (e3 : f3.type = 22) (hone : oneCellFields Tryz.prog #[f0, f1, f2, f3] = true) (hC : Tryz.prog.cellsOf t = 4)
    (hv : Value.okWide Tryz.prog w r b0 t v) (h : DataW.Trod enc Tryz.prog w base (fun _ => true) held t v d p) :
    ∃ (N : Int) (A : Option Addr) (l : List Fl.C) (k : Nat) (B : Option Addr) (m : List Fl.C) (j : Nat) (C : Option Addr) (q : List Fl.C) (i : Nat), v = .agg #[.int .i64 N, .slice A l.length k, .slice B m.length j, .slice C q.length i] ∧
      Reads w w.heap.size A (zcells l) ∧ Reads w w.heap.size B (zcells m) ∧ Reads w w.heap.size C (zcells q) ∧ ltCs l ∧ ltCs m ∧ ltCs q ∧ ∃ a b c e, d = .agg [a, b, c, e] ∧ ZsDatum m.length c ∧ ZsDatum q.length e := by
  obtain ⟨v0, v1, v2, v3, y0, y1, y2, y3, n, rfl, hd, _, h0, h1, h2, h3⟩ := Joins.open_agg4 hs hone hC hv h
  rw [e0] at h0
  rw [e1] at h1
  rw [e2] at h2
  rw [e3] at h3
  obtain ⟨N, g0, _, w0⟩ := DataW.trod_int Tryz.underlying3 h0
  obtain ⟨A, l, k, g1, -, -, -, r1, t1⟩ := open_zs h1
  obtain ⟨B, m, j, g2, -, -, -, r2, t2⟩ := open_zs h2
  obtain ⟨C, q, i, g3, -, -, -, r3, t3⟩ := open_zs h3
  simp at g0 g1 g2 g3
  subst g0 g1 g2 g3
  exact ⟨N, A, l, k, B, m, j, C, q, i, rfl, r1, r2, r3, t1, t2, t3, _, _, _, _, hd, zs_datum h2, zs_datum h3⟩
theorem RefineRounds_walk (n : Int) (A : Option Addr) (l : List Fl.C) (k : Nat) (B : Option Addr) (m : List Fl.C) (j : Nat) (C : Option Addr) (q : List Fl.C) (i : Nat) {w : World} (hr : Reads w w.heap.size A (zcells l)) (hs : Reads w w.heap.size B (zcells m)) (ht : Reads w w.heap.size C (zcells q))
    (lr : ltCs l) (ls : ltCs m) (lt : ltCs q) (um : m.length ≤ 1000000) (uq : q.length ≤ 1000000) (most : Int) (_ : (Lit.int .i64 most).wf = true) (W : World) (hW : W = w := by rfl) :
    Calls Tryz.prog 3 #[.agg #[.int .i64 n, .slice A l.length k, .slice B m.length j, .slice C q.length i], .int .i64 most] W fun e w' => e = .returned (.bool true) ∧ Below W.heap.size W w' := by
  subst hW
  exact Rounds_walk n A B C l m q k j i most W hr hs ht lr ls lt um uq
/-! ### The row's step -/
namespace refineRounds_frame
open Go.ChangeShapes Go.WideShapes Go.ChangeAt Go.RowKit
theorem own : ownKnob Tryz.prog.godebug = none := by kernel_rfl
theorem one_le {H : Type} (d : DataW H) : 1 ≤ Rows.uptoBulk d := by
  cases d with
  | lit l => cases l <;> simp [Rows.uptoBulk]
  | nil => simp [Rows.uptoBulk]
  | ptr d => simp [Rows.uptoBulk]
  | slice elems spare => simp [Rows.uptoBulk]
  | agg parts => simp [Rows.uptoBulk]
  | iface t d => simp [Rows.uptoBulk]
  | map entries => simp [Rows.uptoBulk]
  | held h => simp [Rows.uptoBulk]
theorem bulk_part {H : Type} {d : DataW H} {l : List (DataW H)} (h : d ∈ l) (hk : Rows.uptoBulkAll l ≤ 1048576) : Rows.uptoBulk d ≤ 1048576 := by
  induction l with
  | nil => cases h
  | cons x r ih =>
    simp only [Rows.uptoBulkAll] at hk
    rcases List.mem_cons.1 h with e | e
    · subst e; omega
    · exact ih e (by omega)
theorem bulk_pairs {H : Type} (D0 D1 : Nat → DataW H) (L : List Nat) : L.length * 3 ≤ Rows.uptoBulkAll (L.map fun i => .agg [D0 i, D1 i]) := by
  induction L with
  | nil => simp
  | cons x r ih =>
    simp only [List.map_cons, List.length_cons, Rows.uptoBulkAll, Rows.uptoBulk]
    have h0 := one_le (D0 x)
    have h1 := one_le (D1 x)
    omega
theorem bulk_zs {H : Type} {n : Nat} {z : DataW H} (hz : ZsDatum n z) : n * 3 ≤ Rows.uptoBulk z := by
  rcases hz with rfl | ⟨D0, D1, sp, rfl⟩
  · simp
  · have h := bulk_pairs D0 D1 (List.range n)
    rw [List.length_range] at h
    simp only [Rows.uptoBulk]
    omega
theorem bulk_mat {H : Type} {n : Nat} {z : DataW H} (a b : DataW H) (hz : ZsDatum n z) : n * 3 ≤ Rows.uptoBulk (DataW.agg [a, b, z]) := by
  rcases hz with rfl | ⟨D0, D1, sp, rfl⟩
  · simp
  · have h := bulk_pairs D0 D1 (List.range n)
    rw [List.length_range] at h
    simp only [Rows.uptoBulk, Rows.uptoBulkAll]
    omega
theorem contract (H : Type) (enc : TypeId × Value → H) (W : World) (base : Nat) (args : Array Value) (ds gs : List (DataW H)) (before : List MemPlace)
    (hval0 : ∀ (j : Nat) t v, Tryz.f3.params[j]? = some t → args[j]? = some v → Value.okWide Tryz.prog W .any base t v)
    (hW : DataW.Whole enc Tryz.prog Tryz.f3.params.toList Rows.refineRoundsSpec.vars false W args.toList ds gs before) (hk : Rows.uptoSmall H (ds ++ gs) = true) :
    Calls Tryz.prog 3 args W fun e W' => ∃ v, e = .returned v ∧ Rows.refineRoundsSpec.post enc Tryz.prog Tryz.f3 false true false false W args v W' := by
  have hbk0 : Rows.uptoBulkAll (ds ++ gs) ≤ 1048576 := of_decide_eq_true hk
  clear hk
  have hval : ∀ (j : Nat) t v, Tryz.f3.params[j]? = some t → args[j]? = some v → Value.okWide Tryz.prog W .any base t v := hval0
  have hW' := hW
  obtain ⟨p, q, hA0, hV, rfl, hfz, hnd⟩ := hW
  have hA : DataW.TrodAll enc Tryz.prog W 0 (fun _ => true) true Tryz.f3.params.toList args.toList ds p := hA0
  rw [Tryz.params3] at hA hval
  obtain ⟨v0, vs0, d0, ds0, p0, q0, hargs, rfl, rfl, h0, r0⟩ := trodAll_cons hA
  obtain ⟨v1, vs1, d1, ds1, p1, q1, rfl, rfl, rfl, h1, r1⟩ := trodAll_cons r0
  obtain ⟨rfl, rfl, rfl⟩ := trodAll_nil r1
  obtain rfl : args = #[v0, v1] := by cases args; simp_all
  obtain ⟨rfl, rfl⟩ := trodVars_none hV
  have hbk := hbk0
  rw [List.append_nil] at hbk
  obtain ⟨N0, A0, l0, k0, B0, m0, j0, C0, q0, i0, rfl, hr0, hs0, ht0, lr0, ls0, lt0, xa0, xb0, xc0, xd0, rfl, hz0, hy0⟩ := open_sysU Tryz.underlying24 rfl rfl rfl rfl (by kernel_rfl) (by kernel_rfl) (hval 0 24 v0 rfl rfl) h0
  have hu0 : m0.length ≤ 1000000 ∧ q0.length ≤ 1000000 := by
    have h0 := bulk_part (d := .agg [xa0, xb0, xc0, xd0]) (by simp) hbk
    have h1 := bulk_zs hz0
    have h2 := bulk_zs hy0
    simp only [Rows.uptoBulk, Rows.uptoBulkAll] at h0
    omega
  obtain ⟨a1, rfl, rfl, rfl, w1⟩ := open_int Tryz.underlying3 (hval 1 3 v1 rfl rfl) h1
  clear hval0
  refine (RefineRounds_walk N0 A0 l0 k0 B0 m0 j0 C0 q0 i0 hr0 hs0 ht0 lr0 ls0 lt0 hu0.1 hu0.2 a1 w1 W).mono fun e W' ⟨he, hg⟩ => ?_
  subst he
  have hT : ∀ t ∈ Tryz.f3.params.toList, t < Tryz.prog.types.size := fun t ht => of_decide_eq_true (List.all_eq_true.1 (show (Tryz.f3.params.toList.all fun t => decide (t < Tryz.prog.types.size)) = true by kernel_rfl) t ht)
  exact ⟨_, rfl, post_of_below (pv := []) hW' (fun _ _ _ => (trodAll_cons_mk (shut_bool Tryz.underlying4 _) trodAll_mk0)) (fun sp hsp => trodAll_move kidsP slicesP hT hA0 hg (fun p hp => hsp p (List.mem_append_left _ hp))) (fun _ _ => rfl) rfl
    hg (ok_one (by kernel_rfl) rfl (okWide_bool_mk Tryz.underlying4 _))⟩
set_option maxRecDepth 100000 in
theorem lifted (os : Os) (started : os.Started) (H : Type) (enc : TypeId × Value → H) (F : Stop.Interp) :
    ReturnsInHanded {} Tryz.checked os 3 .any ((Rows.OpenSpec.upto Rows.refineRoundsSpec).pre6 enc Tryz.prog Tryz.f3 Rows.refineRoundsUptoRow.domain false) (((Rows.OpenSpec.upto Rows.refineRoundsSpec).at F).post enc Tryz.prog Tryz.f3 false true false false) := by
  refine returnsInHanded_of_cond (C := Tryz.checked) (s := Rows.OpenSpec.upto Rows.refineRoundsSpec) (k := Rows.uptoSmall) rfl own started (by kernel_rfl) Tryz.func3
    (OpenSpec.witness (enc := enc) (C := Tryz.checked) (s := Rows.OpenSpec.upto Rows.refineRoundsSpec) (k := Rows.uptoSmall) rfl false ⟨#[], #[.agg #[.int .i64 0, .slice none 0 0, .slice none 0 0, .slice none 0 0], .int .i64 0], []⟩ 8 (by kernel_rfl) (by kernel_rfl) (by kernel_rfl)
      (x := ([.agg [.lit (.int .i64 0), .nil, .nil, .nil], .lit (.int .i64 0)], [], [])) (by kernel_rfl) rfl (by kernel_rfl)) ?_
  intro W base args ds gs before hval hW _ hk _
  exact contract H enc W base args ds gs before hval hW hk
theorem over : Rows.RefineRoundsUptoSaid :=
  OpenClaim.holds_of_cond 3 Tryz.f3 rfl rfl rfl rfl rfl rfl rfl ⟨rfl, rfl, rfl, rfl, rfl⟩ rfl rfl rfl rfl rfl (by kernel_rfl) Tryz.func3 (by kernel_rfl)
    (of_decide_eq_true (by kernel_rfl)) (by unfold Func.isWrapper; first | (rw [if_pos (by decide +kernel)]; kernel_rfl) | (rw [if_neg (by decide +kernel)]; exact ⟨rfl, rfl⟩))
    (fun os started H enc _ F => lifted os started H enc F)
end refineRounds_frame

/-- THE STATEMENT. -/
theorem refineRounds_holds : Rows.RefineRoundsUptoSaid := refineRounds_frame.over
#print axioms refineRounds_holds
end Go.Proofs.YtandllekeimpgaaGreat
