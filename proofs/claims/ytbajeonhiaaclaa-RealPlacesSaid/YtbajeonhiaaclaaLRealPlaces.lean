/- RealPlaces: of every two reals, by their bits, and every place: the same, kinds, places, what stands there, what stands next, as the reference tells. No condition. -/
import Derived.Test.YtbajeonhiaaclaaR01N
import Derived.Test.YtbajeonhiaaclaaFr
namespace Go.Proofs.Ytbajeonhiaaclaa
open Go.RowKit Fl Ieee
set_option maxRecDepth 20000
theorem float1_c (n : Nat) (_hn : n < 18446744073709551616) (w : World) :
    Calls Try.prog 19 #[.int .u64 n] w fun e w' => e = .returned (.float .f64 n) ∧ w = w' := by
  have h := x_f64frombits
  go_enter Try.func19, Try.ntmps19
  go_wp2
  go_ret; exact ⟨ret_float (by omega), rfl⟩
theorem RealPlaces_walk (a : Nat) (ha : a < 18446744073709551616) (b : Nat) (hb : b < 18446744073709551616) (p : Int) (wp : (Lit.int .i64 p).wf = true) (w : World) :
    Calls Try.prog 4 #[.int .u64 a, .int .u64 b, .int .i64 p] w fun e w' => e = .returned (.bool true) ∧ Grown w w' := by
  have hp := wf_int_i64 wp
  have h1 : decide (cn .f64 (atV p) = cn .f64 (atV p)) = true := by simp
  have h2 : decide (cn .f64 a = cn .f64 a) = true := by simp
  have h3 : decide (cn .f64 (nx a true) = cn .f64 (nx a true)) = true := by simp
  have h4 : decide (cn .f64 (nx a false) = cn .f64 (nx a false)) = true := by simp
  have h5 : (decide (cn .f64 a = cn .f64 b) == decide (cn .f64 a = cn .f64 b)) = true := by simp
  go_enter Try.func4, Try.ntmps4
  go_wp2_with (first
    | (go_at_call 19; refine (float1_c _ (by assumption) _).mono ?_; rintro e w' ⟨rfl, rfl⟩)
    | (go_at_call 20; refine (Place_c _ ha _).mono ?_; rintro e w' ⟨rfl, rfl⟩)
    | (go_at_call 21; refine (RPlace_c _ ha _).mono ?_; rintro e w' ⟨rfl, rfl⟩)
    | (go_at_call 22; refine (At_c _ hp _).mono ?_; rintro e w' ⟨rfl, rfl⟩)
    | (go_at_call 23; refine (RAt_c _ hp _).mono ?_; rintro e w' ⟨rfl, rfl⟩)
    | (go_at_call 25; refine (Kind_c _ ha _).mono ?_; rintro e w' ⟨rfl, rfl⟩)
    | (go_at_call 26; refine (RKind_c _ ha _).mono ?_; rintro e w' ⟨rfl, rfl⟩)
    | (go_at_call 27; refine (Same1_c _ _ _).mono ?_; rintro e w' ⟨rfl, rfl⟩)
    | (go_at_call 24; refine (RSame1_c _ _ _).mono ?_; rintro e w' ⟨rfl, rfl⟩)
    | (go_at_call 28; refine (Next1_c _ _ ha _).mono ?_; rintro e w' ⟨rfl, rfl⟩)
    | (go_at_call 29; refine (RNext1_c _ _ ha _).mono ?_; rintro e w' ⟨rfl, rfl⟩))
  all_goals (go_ret; exact ⟨rfl, Grown.refl _⟩)
/-! ### The row's step -/
namespace realPlaces_frame
open Go.ChangeShapes Go.WideShapes Go.ChangeAt Go.RowKit
theorem own : ownKnob Try.prog.godebug = none := by kernel_rfl
set_option maxRecDepth 100000 in
theorem lifted (os : Os) (started : os.Started) (H : Type) (enc : TypeId × Value → H) :
    ReturnsInHanded {} Try.checked os 4 .any (Rows.realPlacesSpec.pre6 enc Try.prog Try.f4 Rows.realPlacesRow.domain false) (Rows.realPlacesSpec.post enc Try.prog Try.f4 false true false false) := by
  refine returnsInHanded_of_change (C := Try.checked) own started (by kernel_rfl) Try.func4
    (ChangeSpec.witness6 (enc := enc) (C := Try.checked) false ⟨#[], #[.int .u64 0, .int .u64 0, .int .i64 0], []⟩ 8 (by kernel_rfl) (by kernel_rfl) (by kernel_rfl) (by kernel_rfl)) ?_
  intro W base args ds gs before hval0 hW hcnd _
  have hval : ∀ (j : Nat) t v, Try.f4.params[j]? = some t → args[j]? = some v → Value.okWide Try.prog W .any base t v := hval0
  have hW' := hW
  obtain ⟨p, q, hA0, hV, rfl, hfz, hnd⟩ := hW
  have hA : DataW.TrodAll enc Try.prog W 0 (fun _ => true) true Try.f4.params.toList args.toList ds p := hA0
  rw [Try.params4] at hA hval
  obtain ⟨v0, vs0, d0, ds0, p0, q0, hargs, rfl, rfl, h0, r0⟩ := trodAll_cons hA
  obtain ⟨v1, vs1, d1, ds1, p1, q1, rfl, rfl, rfl, h1, r1⟩ := trodAll_cons r0
  obtain ⟨v2, vs2, d2, ds2, p2, q2, rfl, rfl, rfl, h2, r2⟩ := trodAll_cons r1
  obtain ⟨rfl, rfl, rfl⟩ := trodAll_nil r2
  obtain rfl : args = #[v0, v1, v2] := by cases args; simp_all
  obtain ⟨rfl, rfl⟩ := trodVars_none hV
  obtain ⟨a0, rfl, rfl, rfl, w0⟩ := open_int Try.underlying36 (hval 0 36 v0 rfl rfl) h0
  obtain ⟨n0, rfl, b0⟩ := wf_nat_u64 w0
  obtain ⟨a1, rfl, rfl, rfl, w1⟩ := open_int Try.underlying36 (hval 1 36 v1 rfl rfl) h1
  obtain ⟨n1, rfl, b1⟩ := wf_nat_u64 w1
  obtain ⟨a2, rfl, rfl, rfl, w2⟩ := open_int Try.underlying2 (hval 2 2 v2 rfl rfl) h2
  clear hA0 hval0
  simp only [List.append_nil] at hW'
  refine (RealPlaces_walk n0 b0 n1 b1 a2 w2 W).mono fun e W' ⟨he, hg⟩ => ?_
  subst he
  exact ⟨_, rfl, post_of_same (pa := []) (pv := []) hW' (fun _ _ _ => (trodAll_cons_mk (shut_bool Try.underlying4 _) trodAll_mk0)) (fun sp _ => (trodAll_cons_mk (shut_int Try.underlying36 w0) (trodAll_cons_mk (shut_int Try.underlying36 w1) (trodAll_cons_mk (shut_int Try.underlying2 w2) trodAll_mk0)))) (fun _ _ => rfl) rfl
    (hg.frame _) hg.2.1 (ok_one (by kernel_rfl) rfl (okWide_bool_mk Try.underlying4 _))⟩
theorem over : Rows.realPlacesRow.holds Try.pinned (OpenSpec.ofChange Rows.realPlacesSpec) :=
  OpenClaim.holds_of_wide 4 Try.f4 rfl rfl rfl rfl rfl rfl rfl ⟨rfl, rfl, rfl, rfl, rfl⟩ rfl rfl rfl rfl rfl (by kernel_rfl) Try.func4 (by kernel_rfl)
    (of_decide_eq_true (by kernel_rfl)) (by unfold Func.isWrapper; first | (rw [if_pos (by decide +kernel)]; kernel_rfl) | (rw [if_neg (by decide +kernel)]; exact ⟨rfl, rfl⟩))
    (fun os started H enc _ => lifted os started H enc)
end realPlaces_frame

/-- THE STATEMENT. -/
theorem realPlaces_holds : Rows.RealPlacesSaid := realPlaces_frame.over
#print axioms realPlaces_holds
