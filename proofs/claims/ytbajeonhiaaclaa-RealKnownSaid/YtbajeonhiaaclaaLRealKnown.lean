/- RealKnown: the document's examples of layer 1. A closed statement. -/
import Derived.Test.YtbajeonhiaaclaaS03
namespace Go.Proofs.Ytbajeonhiaaclaa
open Go.RowKit Fl Ieee
set_option maxRecDepth 20000
attribute [local go_sem] Fl.order_self Fl.order_self' Fl.order_eq Fl.order_ne Fl.order_lt Fl.order_gt Fl.fle_fold Fl.fge_fold
theorem kind_at {x v : Nat} (h : kind x = v) (hx : x < 18446744073709551616) (W : World) :
    Calls Try.prog 25 #[.float .f64 x] W fun e w' => e = .returned (.int .i64 (v : Nat)) ∧ W = w' := h ▸ Kind_c x hx W
theorem same_at {a b : Nat} {r : Bool} (h : decide (cn .f64 a = cn .f64 b) = r) (W : World) :
    Calls Try.prog 27 #[.float .f64 a, .float .f64 b] W fun e w' => e = .returned (.bool r) ∧ W = w' := h ▸ Same1_c a b W
theorem place_at {x : Nat} {p : Int} {b : Bool} (h : plc x = p) (h' : (!isNaN double x) = b) (hx : x < 18446744073709551616) (W : World) :
    Calls Try.prog 20 #[.float .f64 x] W fun e w' => e = .returned (.tuple #[.int .i64 p, .bool b]) ∧ W = w' := h ▸ h' ▸ Place_c x hx W
theorem at_at {p : Int} {v : Nat} {b : Bool} (h : atV p = v) (h' : atOk p = b) (hp : -9223372036854775808 ≤ p ∧ p ≤ 9223372036854775807) (W : World) :
    Calls Try.prog 22 #[.int .i64 p] W fun e w' => e = .returned (.tuple #[.float .f64 v, .bool b]) ∧ W = w' := h ▸ h' ▸ At_c p hp W
theorem next_at {x v : Nat} {up : Bool} (h : nx x up = v) (hx : x < 18446744073709551616) (W : World) :
    Calls Try.prog 28 #[.float .f64 x, .bool up] W fun e w' => e = .returned (.float .f64 v) ∧ W = w' := h ▸ Next1_c x up hx W
theorem great_at (A : Option Addr) (l : List Nat) (n c : Nat) {i : Int} {v : Nat} (W : World) (hn : l.length = n) (hl : n * 8 ≤ 140737488355328) (hr : Reads W W.heap.size A (reals l)) (h : great l n = (i, v)) :
    Calls Try.prog 48 #[.slice A n c] W fun e w' => e = .returned (.tuple #[.int .i64 i, .float .f64 v]) ∧ W = w' := by
  subst hn
  have g := Greatest_c A l c W hl hr
  rw [h] at g; exact g
theorem sum_at (A : Option Addr) (l : List Nat) (n c : Nat) {v : Nat} (W : World) (hn : l.length = n) (hl : n * 8 ≤ 140737488355328) (hr : Reads W W.heap.size A (reals l)) (h : sumL (l.map (cn .f64)) = v) (hv : isNaN FloatKind.f64.format v = false) :
    Calls Try.prog 41 #[.slice A n c] W fun e w' => ∃ n, e = .returned (.float .f64 v) ∧ w' = W.drewN n := by
  subst hn
  refine (Sum_c A l c W hl hr).mono ?_
  rintro e w' ⟨x, n, rfl, hx, _, rfl⟩
  rw [h] at hx
  have := cn_known hx hv
  subst this
  exact ⟨n, rfl, rfl⟩
set_option maxHeartbeats 2000000 in
theorem RealKnown_walk (w : World) : Calls Try.prog 9 #[] w fun e w' => e = .returned (.bool true) ∧ Below w.heap.size w w' := by
  have hbits := x_f64bits
  have hfrom := x_f64frombits
  have g1 : Op.negFloat .f64 9218868437227405312 = 18442240474082181120 := by kernel_rfl
  have g2 : Op.negFloat .f64 1 = 9223372036854775809 := by kernel_rfl
  have n0 : isNaN FloatKind.f64.format 0 = false := by kernel_rfl
  have n9223372036854775809 : isNaN FloatKind.f64.format 9223372036854775809 = false := by kernel_rfl
  have n4607182418800017408 : isNaN FloatKind.f64.format 4607182418800017408 = false := by kernel_rfl
  have n4607182418800017409 : isNaN FloatKind.f64.format 4607182418800017409 = false := by kernel_rfl
  have n9218868437227405312 : isNaN FloatKind.f64.format 9218868437227405312 = false := by kernel_rfl
  have n9218868437227405311 : isNaN FloatKind.f64.format 9218868437227405311 = false := by kernel_rfl
  have n1 : isNaN FloatKind.f64.format 1 = false := by kernel_rfl
  have n4617315517961601024 : isNaN FloatKind.f64.format 4617315517961601024 = false := by kernel_rfl
  have nn : isNaN FloatKind.f64.format 9221120237041090561 = true := by kernel_rfl
  have F0 := Lib.hid ((fun W => (show double.word (sgn double 13830554455654793216) (rung double 0) = 9223372036854775808 from by kernel_rfl) ▸ mCopysign_c 0 13830554455654793216 (by decide) (by decide) W : ∀ W : World, Calls Try.prog 46 #[.float .f64 0, .float .f64 13830554455654793216] W fun e w' => e = .returned (.float .f64 9223372036854775808) ∧ W = w'))
  have F1 := Lib.hid (same_at (a := 0) (b := 9223372036854775808) (r := false) (by kernel_rfl))
  have F2 := Lib.hid (same_at (a := 9221120237041090561) (b := 18444492273895866659) (r := true) (by kernel_rfl))
  have F3 := Lib.hid (same_at (a := 4607182418800017408) (b := 4607182418800017408) (r := true) (by kernel_rfl))
  have F4 := Lib.hid (same_at (a := 9221120237041090561) (b := 4607182418800017408) (r := false) (by kernel_rfl))
  have F5 := Lib.hid (kind_at (x := 9223372036854775808) (v := 0) (by kernel_rfl) (by decide))
  have F6 := Lib.hid (kind_at (x := 1) (v := 1) (by kernel_rfl) (by decide))
  have F7 := Lib.hid (kind_at (x := 4503599627370496) (v := 2) (by kernel_rfl) (by decide))
  have F8 := Lib.hid (kind_at (x := 18442240474082181120) (v := 3) (by kernel_rfl) (by decide))
  have F9 := Lib.hid (kind_at (x := 9221120237041090561) (v := 4) (by kernel_rfl) (by decide))
  have F10 := Lib.hid (kind_at (x := 9218868437227405311) (v := 2) (by kernel_rfl) (by decide))
  have F11 := Lib.hid (place_at (x := 9221120237041090561) (p := 0) (b := false) (by kernel_rfl) (by kernel_rfl) (by decide))
  have F12 := Lib.hid (place_at (x := 9223372036854775808) (p := 0) (b := true) (by kernel_rfl) (by kernel_rfl) (by decide))
  have F13 := Lib.hid (place_at (x := 9218868437227405312) (p := 9218868437227405312) (b := true) (by kernel_rfl) (by kernel_rfl) (by decide))
  have F14 := Lib.hid (at_at (p := 9218868437227405313) (v := 0) (b := false) (by kernel_rfl) (by kernel_rfl) (by decide))
  have F15 := Lib.hid (at_at (p := -9223372036854775808) (v := 0) (b := false) (by kernel_rfl) (by kernel_rfl) (by decide))
  have F16 := Lib.hid (next_at (x := 0) (up := false) (v := 9223372036854775809) (by kernel_rfl) (by decide))
  have F17 := Lib.hid (next_at (x := 9223372036854775809) (up := true) (v := 0) (by kernel_rfl) (by decide))
  have F18 := Lib.hid (next_at (x := 4607182418800017408) (up := true) (v := 4607182418800017409) (by kernel_rfl) (by decide))
  have F19 := Lib.hid (next_at (x := 9218868437227405312) (up := true) (v := 9218868437227405312) (by kernel_rfl) (by decide))
  have F20 := Lib.hid (next_at (x := 9218868437227405312) (up := false) (v := 9218868437227405311) (by kernel_rfl) (by decide))
  have F21 := Lib.hid (next_at (x := 9223372036854775808) (up := true) (v := 1) (by kernel_rfl) (by decide))
  have F22 := Lib.hid (next_at (x := 9221120237041090561) (up := true) (v := 9221120237041090561) (by kernel_rfl) (by decide))
  have F23 := Lib.hid (next_at (x := 9221120237041090561) (up := true) (v := 9221120237041090561) (by kernel_rfl) (by decide))
  have E0 := Lib.hid (show great [9221120237041090561, 4613937818241073152, 4617315517961601024, 4617315517961601024] 4 = ((2 : Int), (4617315517961601024 : Nat)) from by kernel_rfl)
  have E1 := Lib.hid (show great [9223372036854775808, 0] 2 = ((0 : Int), (9223372036854775808 : Nat)) from by kernel_rfl)
  have E2 := Lib.hid (show great [9221120237041090561] 1 = ((-1 : Int), (0 : Nat)) from by kernel_rfl)
  have E3 := Lib.hid (show sumL ([9223372036854775808].map (cn .f64)) = (0 : Nat) from by kernel_rfl)
  have E4 := Lib.hid (show sumL ([4607182418800017408, 4368491638549381120, 4368491638549381120].map (cn .f64)) = (4607182418800017408 : Nat) from by kernel_rfl)
  go_enter Try.func9, Try.ntmps9
  go_wp2_with fail
  refine (mInf_c _).mono ?_
  rintro e w' ⟨rfl, rfl⟩
  go_wp2_with fail
  refine (F0.out _).mono ?_
  rintro e w' ⟨rfl, rfl⟩
  clear F0
  go_wp2_with fail
  refine (mNaN_c _).mono ?_
  rintro e w' ⟨rfl, rfl⟩
  go_wp2_with fail
  refine (F1.out _).mono ?_
  rintro e w' ⟨rfl, rfl⟩
  clear F1
  go_wp2_with fail
  refine (F2.out _).mono ?_
  rintro e w' ⟨rfl, rfl⟩
  clear F2
  go_wp2_with fail
  refine (F3.out _).mono ?_
  rintro e w' ⟨rfl, rfl⟩
  clear F3
  go_wp2_with fail
  refine (F4.out _).mono ?_
  rintro e w' ⟨rfl, rfl⟩
  clear F4
  go_wp2_with fail
  refine (F5.out _).mono ?_
  rintro e w' ⟨rfl, rfl⟩
  clear F5
  go_wp2_with fail
  refine (F6.out _).mono ?_
  rintro e w' ⟨rfl, rfl⟩
  clear F6
  go_wp2_with fail
  refine (F7.out _).mono ?_
  rintro e w' ⟨rfl, rfl⟩
  clear F7
  go_wp2_with fail
  refine (F8.out _).mono ?_
  rintro e w' ⟨rfl, rfl⟩
  clear F8
  go_wp2_with fail
  refine (F9.out _).mono ?_
  rintro e w' ⟨rfl, rfl⟩
  clear F9
  go_wp2_with fail
  refine (F10.out _).mono ?_
  rintro e w' ⟨rfl, rfl⟩
  clear F10
  go_wp2_with fail
  refine (F11.out _).mono ?_
  rintro e w' ⟨rfl, rfl⟩
  clear F11
  go_wp2_with fail
  refine (F12.out _).mono ?_
  rintro e w' ⟨rfl, rfl⟩
  clear F12
  go_wp2_with fail
  refine (F13.out _).mono ?_
  rintro e w' ⟨rfl, rfl⟩
  clear F13
  go_wp2_with fail
  refine (F14.out _).mono ?_
  rintro e w' ⟨rfl, rfl⟩
  clear F14
  go_wp2_with fail
  refine (F15.out _).mono ?_
  rintro e w' ⟨rfl, rfl⟩
  clear F15
  go_wp2_with fail
  refine (F16.out _).mono ?_
  rintro e w' ⟨rfl, rfl⟩
  clear F16
  go_wp2_with fail
  refine (F17.out _).mono ?_
  rintro e w' ⟨rfl, rfl⟩
  clear F17
  go_wp2_with fail
  refine (F18.out _).mono ?_
  rintro e w' ⟨rfl, rfl⟩
  clear F18
  go_wp2_with fail
  refine (F19.out _).mono ?_
  rintro e w' ⟨rfl, rfl⟩
  clear F19
  go_wp2_with fail
  refine (F20.out _).mono ?_
  rintro e w' ⟨rfl, rfl⟩
  clear F20
  go_wp2_with fail
  refine (F21.out _).mono ?_
  rintro e w' ⟨rfl, rfl⟩
  clear F21
  go_wp2_with fail
  refine (F22.out _).mono ?_
  rintro e w' ⟨rfl, rfl⟩
  clear F22
  go_wp2_with fail
  refine (F23.out _).mono ?_
  rintro e w' ⟨rfl, rfl⟩
  clear F23
  go_wp2_with fail
  refine (great_at (some ⟨_, 0, none⟩) [9221120237041090561, 4613937818241073152, 4617315517961601024, 4617315517961601024] 4 4 _ rfl (by decide) ?_ E0.out).mono ?_
  · refine (Reads.newAt _ _ [.float .f64 9221120237041090561, .float .f64 4613937818241073152, .float .f64 4617315517961601024, .float .f64 4617315517961601024] ?_).more ?_ <;> simp
  rintro e w' ⟨rfl, rfl⟩
  go_wp2_with fail
  refine (great_at (some ⟨_, 0, none⟩) [9223372036854775808, 0] 2 2 _ rfl (by decide) ?_ E1.out).mono ?_
  · refine (Reads.newAt _ _ [.float .f64 9223372036854775808, .float .f64 0] ?_).more ?_ <;> simp
  rintro e w' ⟨rfl, rfl⟩
  go_wp2_with fail
  refine (great_at (some ⟨_, 0, none⟩) [9221120237041090561] 1 1 _ rfl (by decide) ?_ E2.out).mono ?_
  · refine (Reads.newAt _ _ [.float .f64 9221120237041090561] ?_).more ?_ <;> simp
  rintro e w' ⟨rfl, rfl⟩
  go_wp2_with fail
  refine (awake_c _).mono ?_
  rintro e w0 ⟨rfl, hbelow⟩
  have HW := Lib.hid hbelow
  clear hbelow
  go_wp2_with fail
  refine (sum_at (some ⟨_, 0, none⟩) [9223372036854775808] 1 1 _ rfl (by decide) ?_ E3.out n0).mono ?_
  · refine (Reads.newAt _ _ [.float .f64 9223372036854775808] ?_).more ?_ <;> simp
  rintro e w' ⟨q0, rfl, rfl⟩
  go_wp2_with fail
  refine (sum_at (some ⟨_, 0, none⟩) [4607182418800017408, 4368491638549381120, 4368491638549381120] 3 3 _ rfl (by decide) ?_ E4.out n4607182418800017408).mono ?_
  · refine (Reads.newAt _ _ [.float .f64 4607182418800017408, .float .f64 4368491638549381120, .float .f64 4368491638549381120] ?_).more ?_ <;> simp
  rintro e w' ⟨q4607182418800017408, rfl, rfl⟩
  go_wp2
  go_ret
  refine ⟨rfl, ?_⟩
  have h1 : Below w.heap.size w w0 := (((((Below.refl _ w).new (Nat.le_refl _) _).new (Nat.le_refl _) _).new (Nat.le_refl _) _)).trans (HW.out.mono (by simp; omega))
  exact below_drewN ((below_drewN (h1.new (Nat.le_refl _) _) _).new (Nat.le_refl _) _) _
/-! ### The row's step -/
namespace realKnown_frame
open Go.ChangeShapes Go.WideShapes Go.ChangeAt Go.RowKit
theorem own : ownKnob Try.prog.godebug = none := by kernel_rfl
set_option maxRecDepth 100000 in
theorem lifted (os : Os) (started : os.Started) (H : Type) (enc : TypeId × Value → H) :
    ReturnsInHanded {} Try.checked os 9 .any (Rows.realKnownSpec.pre6 enc Try.prog Try.f9 Rows.realKnownRow.domain false) (Rows.realKnownSpec.post enc Try.prog Try.f9 false true false false) := by
  refine returnsInHanded_of_change (C := Try.checked) own started (by kernel_rfl) Try.func9
    (ChangeSpec.witness6 (enc := enc) (C := Try.checked) false ⟨#[], #[], []⟩ 8 (by kernel_rfl) (by kernel_rfl) (by kernel_rfl) (by kernel_rfl)) ?_
  intro W base args ds gs before hval0 hW hcnd _
  have hW' := hW
  obtain ⟨p, q, hA0, hV, rfl, hfz, hnd⟩ := hW
  have hA : DataW.TrodAll enc Try.prog W 0 (fun _ => true) true Try.f9.params.toList args.toList ds p := hA0
  rw [Try.params9] at hA
  obtain ⟨hargs, rfl, rfl⟩ := trodAll_nil hA
  obtain rfl : args = #[] := by cases args; simp_all
  obtain ⟨rfl, rfl⟩ := trodVars_none hV
  clear hA0
  simp only [List.append_nil] at hW'
  refine (RealKnown_walk  W).mono fun e W' ⟨he, hg⟩ => ?_
  subst he
  exact ⟨_, rfl, post_of_below (pa := []) (pv := []) hW' (fun _ _ _ => (trodAll_cons_mk (shut_bool Try.underlying4 _) trodAll_mk0)) (fun sp _ => trodAll_mk0) (fun _ _ => rfl) rfl
    hg (ok_one (by kernel_rfl) rfl (okWide_bool_mk Try.underlying4 _))⟩
theorem over : Rows.realKnownRow.holds Try.pinned (OpenSpec.ofChange Rows.realKnownSpec) :=
  OpenClaim.holds_of_wide 9 Try.f9 rfl rfl rfl rfl rfl rfl rfl ⟨rfl, rfl, rfl, rfl, rfl⟩ rfl rfl rfl rfl rfl (by kernel_rfl) Try.func9 (by kernel_rfl)
    (of_decide_eq_true (by kernel_rfl)) (by unfold Func.isWrapper; first | (rw [if_pos (by decide +kernel)]; kernel_rfl) | (rw [if_neg (by decide +kernel)]; exact ⟨rfl, rfl⟩))
    (fun os started H enc _ => lifted os started H enc)
end realKnown_frame

/-- THE STATEMENT. -/
theorem realKnown_holds : Rows.RealKnownSaid := realKnown_frame.over
#print axioms realKnown_holds
