/- gridworklaw07.MatrixTurns: whatever the input it tells true, and its arguments read as they did. -/
import Derived.Test.YtdkcdcbbpebgmaaLTurns
import Derived.Test.YtdkcdcbbpebgmaaArg
import Derived.Test.YtdkcdcbbpebgmaaFr
namespace Go.Proofs.Ytdkcdcbbpebgmaa
open Go.RowKit Go.WideElems Go.Maps Go.Deep Fl Ieee
set_option maxRecDepth 20000
theorem MatrixTurns_walk (R0 C0 : Int) (A0 : Option Addr) (l0 : List C) (k0 : Nat) (_ : l0.length ≤ k0) (_ : k0 ≤ maxLen) (_ : A0 = none → k0 = 0) {w0 : World} (hr0 : Reads w0 w0.heap.size A0 (zcells l0)) (lt0 : ltCs l0)
    (R1 C1 : Int) (A1 : Option Addr) (l1 : List C) (k1 : Nat) (_ : l1.length ≤ k1) (_ : k1 ≤ maxLen) (_ : A1 = none → k1 = 0) (hr1 : Reads w0 w0.heap.size A1 (zcells l1)) (lt1 : ltCs l1)
    (i : Int) (_ : (Lit.int .i64 i).wf = true) (j : Int) (_ : (Lit.int .i64 j).wf = true) (w : World) (hw : w0 = w := by rfl) :
    Calls Try.prog 7 #[mval R0 C0 (.slice A0 l0.length k0), mval R1 C1 (.slice A1 l1.length k1), .int .i64 i, .int .i64 j] w fun e w' => e = .returned (.bool true) ∧ Below w.heap.size w w' := by
  subst hw
  rcases Nat.lt_or_ge 4098 l0.length with h | h
  · exact Turns_big0 R0 C0 R1 C1 A0 A1 l0 l1 k0 k1 i j _ h
  · rcases Nat.lt_or_ge 4098 l1.length with h' | h'
    · exact Turns_big1 R0 C0 R1 C1 A0 A1 l0 l1 k0 k1 i j _ h h'
    · exact Turns_small R0 C0 R1 C1 A0 A1 l0 l1 k0 k1 i j _ h h' hr0 hr1 lt0 lt1
/-! ### The row's step -/
namespace matrixTurns_frame
open Go.ChangeShapes Go.WideShapes Go.ChangeAt Go.RowKit
theorem own : ownKnob Try.prog.godebug = none := by kernel_rfl
set_option maxRecDepth 100000 in
theorem lifted (os : Os) (started : os.Started) (H : Type) (enc : TypeId × Value → H) :
    ReturnsInHanded {} Try.checked os 7 .any (Rows.matrixTurnsSpec.pre6 enc Try.prog Try.f7 Rows.matrixTurnsRow.domain false) (Rows.matrixTurnsSpec.post enc Try.prog Try.f7 false true false false) := by
  refine returnsInHanded_of_change (C := Try.checked) own started (by kernel_rfl) Try.func7
    (ChangeSpec.witness6 (enc := enc) (C := Try.checked) false ⟨#[], #[.agg #[.int .i64 0, .int .i64 0, .slice none 0 0], .agg #[.int .i64 0, .int .i64 0, .slice none 0 0], .int .i64 0, .int .i64 0], []⟩ 8 (by kernel_rfl) (by kernel_rfl) (by kernel_rfl) (by kernel_rfl)) ?_
  intro W base args ds gs before hval0 hW hcnd _
  have hval : ∀ (j : Nat) t v, Try.f7.params[j]? = some t → args[j]? = some v → Value.okWide Try.prog W .any base t v := hval0
  have hW' := hW
  obtain ⟨p, q, hA0, hV, rfl, hfz, hnd⟩ := hW
  have hA : DataW.TrodAll enc Try.prog W 0 (fun _ => true) true Try.f7.params.toList args.toList ds p := hA0
  rw [Try.params7] at hA hval
  obtain ⟨v0, vs0, d0, ds0, p0, q0, hargs, rfl, rfl, h0, r0⟩ := trodAll_cons hA
  obtain ⟨v1, vs1, d1, ds1, p1, q1, rfl, rfl, rfl, h1, r1⟩ := trodAll_cons r0
  obtain ⟨v2, vs2, d2, ds2, p2, q2, rfl, rfl, rfl, h2, r2⟩ := trodAll_cons r1
  obtain ⟨v3, vs3, d3, ds3, p3, q3, rfl, rfl, rfl, h3, r3⟩ := trodAll_cons r2
  obtain ⟨rfl, rfl, rfl⟩ := trodAll_nil r3
  obtain rfl : args = #[v0, v1, v2, v3] := by cases args; simp_all
  obtain ⟨rfl, rfl⟩ := trodVars_none hV
  obtain ⟨R0, C0, A0, l0, k0, rfl, wr0, wc0, hk0, hm0, hn0, hrd0, hlt0⟩ := open_mat Try.underlying24 rfl rfl rfl (by kernel_rfl) (by kernel_rfl) (hval 0 24 v0 rfl rfl) h0
  obtain ⟨R1, C1, A1, l1, k1, rfl, wr1, wc1, hk1, hm1, hn1, hrd1, hlt1⟩ := open_mat Try.underlying24 rfl rfl rfl (by kernel_rfl) (by kernel_rfl) (hval 1 24 v1 rfl rfl) h1
  obtain ⟨a2, rfl, rfl, rfl, w2⟩ := open_int Try.underlying3 (hval 2 3 v2 rfl rfl) h2
  obtain ⟨a3, rfl, rfl, rfl, w3⟩ := open_int Try.underlying3 (hval 3 3 v3 rfl rfl) h3
  clear hval0
  refine (MatrixTurns_walk R0 C0 A0 l0 k0 hk0 hm0 hn0 hrd0 hlt0 R1 C1 A1 l1 k1 hk1 hm1 hn1 hrd1 hlt1 a2 w2 a3 w3 W).mono fun e W' ⟨he, hg⟩ => ?_
  subst he
  have hT : ∀ t ∈ Try.f7.params.toList, t < Try.prog.types.size := fun t ht => of_decide_eq_true (List.all_eq_true.1 (show (Try.f7.params.toList.all fun t => decide (t < Try.prog.types.size)) = true by kernel_rfl) t ht)
  exact ⟨_, rfl, post_of_below (pv := []) hW' (fun _ _ _ => (trodAll_cons_mk (shut_bool Try.underlying4 _) trodAll_mk0)) (fun sp hsp => trodAll_move kidsP slicesP hT hA0 hg (fun p hp => hsp p (List.mem_append_left _ hp))) (fun _ _ => rfl) rfl
    hg (ok_one (by kernel_rfl) rfl (okWide_bool_mk Try.underlying4 _))⟩
theorem over : Rows.matrixTurnsRow.holds Try.pinned (OpenSpec.ofChange Rows.matrixTurnsSpec) :=
  OpenClaim.holds_of_wide 7 Try.f7 rfl rfl rfl rfl rfl rfl rfl ⟨rfl, rfl, rfl, rfl, rfl⟩ rfl rfl rfl rfl rfl (by kernel_rfl) Try.func7 (by kernel_rfl)
    (of_decide_eq_true (by kernel_rfl)) (by unfold Func.isWrapper; first | (rw [if_pos (by decide +kernel)]; kernel_rfl) | (rw [if_neg (by decide +kernel)]; exact ⟨rfl, rfl⟩))
    (fun os started H enc _ => lifted os started H enc)
end matrixTurns_frame

/-- THE STATEMENT. -/
theorem matrixTurns_holds : Rows.MatrixTurnsSaid := matrixTurns_frame.over
#print axioms matrixTurns_holds
end Go.Proofs.Ytdkcdcbbpebgmaa
