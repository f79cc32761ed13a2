/- NarrowBits: of every 64 bits, FromBits and Bits of package narrow answer what the reference answers. No condition. -/
import Derived.Test.YtmbjaadhkhhaeaaNar
import Derived.Test.YtmbjaadhkhhaeaaFr
namespace Go.Proofs.Ytmbjaadhkhhaeaa
open Go.RowKit Fl Ieee
theorem sameN_self (a b : Nat) : sameN a b a b = true := by simp [sameN]
theorem NarrowBits_walk (u : Nat) (hu : u < 18446744073709551616) (w : World) :
    Calls Try.prog 3 #[.int .u64 u] w fun e w' => e = .returned (.bool true) ∧ Grown w w' := by
  have h1 : u / 4294967296 < 4294967296 := by omega
  have h2 : u % 4294967296 < 4294967296 := by omega
  have h3 := sameN_self (u / 4294967296) (u % 4294967296)
  go_enter Try.func3, Try.ntmps3
  go_wp2_with (first
    | (go_at_call 10; refine (NFromBits_c _ hu _).mono ?_; rintro e w' ⟨rfl, rfl⟩)
    | (go_at_call 12; refine (RFromBits_c _ hu _).mono ?_; rintro e w' ⟨rfl, rfl⟩)
    | (go_at_call 11; refine (SameNarrow_c _ _ _ _ _).mono ?_; rintro e w' ⟨rfl, rfl⟩)
    | (go_at_call 13; refine (NBits_c _ _ h1 h2 _).mono ?_; rintro e w' ⟨rfl, rfl⟩)
    | (go_at_call 14; refine (RBits_c _ _ h1 h2 _).mono ?_; rintro e w' ⟨rfl, rfl⟩))
  go_ret
  exact ⟨rfl, Grown.refl _⟩
/-! ### The row's step -/
namespace narrowBits_frame
open Go.ChangeShapes Go.WideShapes Go.ChangeAt Go.RowKit
theorem own : ownKnob Try.prog.godebug = none := by kernel_rfl
set_option maxRecDepth 100000 in
theorem lifted (os : Os) (started : os.Started) (H : Type) (enc : TypeId × Value → H) :
    ReturnsInHanded {} Try.checked os 3 .any (Rows.narrowBitsSpec.pre6 enc Try.prog Try.f3 Rows.narrowBitsRow.domain false) (Rows.narrowBitsSpec.post enc Try.prog Try.f3 false true false false) := by
  refine returnsInHanded_of_change (C := Try.checked) own started (by kernel_rfl) Try.func3
    (ChangeSpec.witness6 (enc := enc) (C := Try.checked) false ⟨#[], #[.int .u64 0], []⟩ 8 (by kernel_rfl) (by kernel_rfl) (by kernel_rfl) (by kernel_rfl)) ?_
  intro W base args ds gs before hval0 hW hcnd _
  have hval : ∀ (j : Nat) t v, Try.f3.params[j]? = some t → args[j]? = some v → Value.okWide Try.prog W .any base t v := hval0
  have hW' := hW
  obtain ⟨p, q, hA0, hV, rfl, hfz, hnd⟩ := hW
  have hA : DataW.TrodAll enc Try.prog W 0 (fun _ => true) true Try.f3.params.toList args.toList ds p := hA0
  rw [Try.params3] at hA hval
  obtain ⟨v0, vs0, d0, ds0, p0, q0, hargs, rfl, rfl, h0, r0⟩ := trodAll_cons hA
  obtain ⟨rfl, rfl, rfl⟩ := trodAll_nil r0
  obtain rfl : args = #[v0] := by cases args; simp_all
  obtain ⟨rfl, rfl⟩ := trodVars_none hV
  obtain ⟨a0, rfl, rfl, rfl, w0⟩ := open_int Try.underlying22 (hval 0 22 v0 rfl rfl) h0
  obtain ⟨n0, rfl, b0⟩ := wf_nat_u64 w0
  clear hA0 hval0
  simp only [List.append_nil] at hW'
  refine (NarrowBits_walk n0 b0 W).mono fun e W' ⟨he, hg⟩ => ?_
  subst he
  exact ⟨_, rfl, post_of_same (pa := []) (pv := []) hW' (fun _ _ _ => (trodAll_cons_mk (shut_bool Try.underlying4 _) trodAll_mk0)) (fun sp _ => (trodAll_cons_mk (shut_int Try.underlying22 w0) trodAll_mk0)) (fun _ _ => rfl) rfl
    (hg.frame _) hg.2.1 (ok_one (by kernel_rfl) rfl (okWide_bool_mk Try.underlying4 _))⟩
theorem over : Rows.narrowBitsRow.holds Try.pinned (OpenSpec.ofChange Rows.narrowBitsSpec) :=
  OpenClaim.holds_of_wide 3 Try.f3 rfl rfl rfl rfl rfl rfl rfl ⟨rfl, rfl, rfl, rfl, rfl⟩ rfl rfl rfl rfl rfl (by kernel_rfl) Try.func3 (by kernel_rfl)
    (of_decide_eq_true (by kernel_rfl)) (by unfold Func.isWrapper; first | (rw [if_pos (by decide +kernel)]; kernel_rfl) | (rw [if_neg (by decide +kernel)]; exact ⟨rfl, rfl⟩))
    (fun os started H enc _ => lifted os started H enc)
end narrowBits_frame

/-- THE STATEMENT. -/
theorem narrowBits_holds : Rows.NarrowBitsSaid := narrowBits_frame.over
#print axioms narrowBits_holds
end Go.Proofs.Ytmbjaadhkhhaeaa
