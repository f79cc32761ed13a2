/- gridworklaw10.SolveAll: whatever the input it tells true, and its arguments read as they did. -/
import Derived.Test.YtglmmidhkpomgaaGreatSaW
import Derived.Test.YtglmmidhkpomgaaGreatArg
import Derived.Test.YtglmmidhkpomgaaGreatExt
namespace Go.Proofs.YtglmmidhkpomgaaGreat
open Go.RowKit Go.WideElems Go.Maps Go.Deep Fl Ieee
set_option maxRecDepth 20000
theorem SolveAll_walk (n : Int) (_ : (Lit.int .i64 n).wf = true) (A : Option Addr) (l : List C) (k : Nat) (_ : l.length ≤ k) (_ : k ≤ maxLen) (_ : A = none → k = 0) {w0 : World} (hr : Reads w0 w0.heap.size A (zcells l)) (hlt : ltCs l)
    (B : Option Addr) (x : List C) (kx : Nat) (_ : x.length ≤ kx) (_ : kx ≤ maxLen) (_ : B = none → kx = 0) (hrx : Reads w0 w0.heap.size B (zcells x)) (hltx : ltCs x) (r : Int) (_ : (Lit.int .i64 r).wf = true) (w : World) (hw : w0 = w := by rfl) :
    Calls Tryz.prog 3 #[.int .i64 n, .slice A l.length k, .slice B x.length kx, .int .i64 r] w fun e w' => e = .returned (.bool true) ∧ Below w.heap.size w w' := by
  subst hw
  exact All10 n A l k B x kx r _ hr hlt hrx hltx
/-! ### The row's step -/
namespace solveAll_frame
open Go.ChangeShapes Go.WideShapes Go.ChangeAt Go.RowKit
theorem own : ownKnob Tryz.prog.godebug = none := by kernel_rfl
set_option maxRecDepth 100000 in
theorem lifted (os : Os) (started : os.Started) (H : Type) (enc : TypeId × Value → H) :
    ReturnsInHanded {} Tryz.checked os 3 .any (Rows.solveAllSpec.pre6 enc Tryz.prog Tryz.f3 Rows.solveAllRow.domain false) (Rows.solveAllSpec.post enc Tryz.prog Tryz.f3 false true false false) := by
  refine returnsInHanded_of_change (C := Tryz.checked) own started (by kernel_rfl) Tryz.func3
    (ChangeSpec.witness6 (enc := enc) (C := Tryz.checked) false ⟨#[], #[.int .i64 0, .slice none 0 0, .slice none 0 0, .int .i64 0], []⟩ 8 (by kernel_rfl) (by kernel_rfl) (by kernel_rfl) (by kernel_rfl)) ?_
  intro W base args ds gs before hval0 hW hcnd _
  have hval : ∀ (j : Nat) t v, Tryz.f3.params[j]? = some t → args[j]? = some v → Value.okWide Tryz.prog W .any base t v := hval0
  have hW' := hW
  obtain ⟨p, q, hA0, hV, rfl, hfz, hnd⟩ := hW
  have hA : DataW.TrodAll enc Tryz.prog W 0 (fun _ => true) true Tryz.f3.params.toList args.toList ds p := hA0
  rw [Tryz.params3] at hA hval
  obtain ⟨v0, vs0, d0, ds0, p0, q0, hargs, rfl, rfl, h0, r0⟩ := trodAll_cons hA
  obtain ⟨v1, vs1, d1, ds1, p1, q1, rfl, rfl, rfl, h1, r1⟩ := trodAll_cons r0
  obtain ⟨v2, vs2, d2, ds2, p2, q2, rfl, rfl, rfl, h2, r2⟩ := trodAll_cons r1
  obtain ⟨v3, vs3, d3, ds3, p3, q3, rfl, rfl, rfl, h3, r3⟩ := trodAll_cons r2
  obtain ⟨rfl, rfl, rfl⟩ := trodAll_nil r3
  obtain rfl : args = #[v0, v1, v2, v3] := by cases args; simp_all
  obtain ⟨rfl, rfl⟩ := trodVars_none hV
  obtain ⟨a0, rfl, rfl, rfl, w0⟩ := open_int Tryz.underlying3 (hval 0 3 v0 rfl rfl) h0
  obtain ⟨A1, l1, k1, rfl, hk1, hm1, hn1, hrd1, hlt1⟩ := open_zs_arg (hval 1 22 v1 rfl rfl) h1
  obtain ⟨A2, l2, k2, rfl, hk2, hm2, hn2, hrd2, hlt2⟩ := open_zs_arg (hval 2 22 v2 rfl rfl) h2
  obtain ⟨a3, rfl, rfl, rfl, w3⟩ := open_int Tryz.underlying3 (hval 3 3 v3 rfl rfl) h3
  clear hval0
  refine (SolveAll_walk a0 w0 A1 l1 k1 hk1 hm1 hn1 hrd1 hlt1 A2 l2 k2 hk2 hm2 hn2 hrd2 hlt2 a3 w3 W).mono fun e W' ⟨he, hg⟩ => ?_
  subst he
  have hT : ∀ t ∈ Tryz.f3.params.toList, t < Tryz.prog.types.size := fun t ht => of_decide_eq_true (List.all_eq_true.1 (show (Tryz.f3.params.toList.all fun t => decide (t < Tryz.prog.types.size)) = true by kernel_rfl) t ht)
  exact ⟨_, rfl, post_of_below (pv := []) hW' (fun _ _ _ => (trodAll_cons_mk (shut_bool Tryz.underlying4 _) trodAll_mk0)) (fun sp hsp => trodAll_move kidsP slicesP hT hA0 hg (fun p hp => hsp p (List.mem_append_left _ hp))) (fun _ _ => rfl) rfl
    hg (ok_one (by kernel_rfl) rfl (okWide_bool_mk Tryz.underlying4 _))⟩
theorem over : Rows.solveAllRow.holds Tryz.pinned (OpenSpec.ofChange Rows.solveAllSpec) :=
  OpenClaim.holds_of_wide 3 Tryz.f3 rfl rfl rfl rfl rfl rfl rfl ⟨rfl, rfl, rfl, rfl, rfl⟩ rfl rfl rfl rfl rfl (by kernel_rfl) Tryz.func3 (by kernel_rfl)
    (of_decide_eq_true (by kernel_rfl)) (by unfold Func.isWrapper; first | (rw [if_pos (by decide +kernel)]; kernel_rfl) | (rw [if_neg (by decide +kernel)]; exact ⟨rfl, rfl⟩))
    (fun os started H enc _ => lifted os started H enc)
end solveAll_frame

/-- THE STATEMENT. -/
theorem solveAll_holds : Rows.SolveAllSaid := solveAll_frame.over
#print axioms solveAll_holds
end Go.Proofs.YtglmmidhkpomgaaGreat
