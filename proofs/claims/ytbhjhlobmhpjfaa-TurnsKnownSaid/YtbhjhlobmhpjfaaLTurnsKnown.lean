/- TurnsKnown: the document's examples of layer 4. A closed statement. -/
import Derived.Test.YtbhjhlobmhpjfaaT04B
import Derived.Test.YtbhjhlobmhpjfaaFr
import Derived.Test.YtbhjhlobmhpjfaaMem
namespace Go.Proofs.Ytbhjhlobmhpjfaa
open Go.RowKit Fl Ieee
set_option maxRecDepth 20000
attribute [local go_sem] Fl.order_self Fl.order_self' Fl.order_eq Fl.order_ne Fl.order_lt Fl.order_gt Fl.fle_fold Fl.fge_fold Fl.negFloat_flip run_store_float run_store_complex x_f64frombits x_f64bits
theorem known4 {x c : Nat} (h : cn .f64 x = c) (hc : isNaN double c = false) : x = c := by
  by_cases hx : isNaN double x = true
  · rw [cn_of_nan (k := .f64) hx] at h
    rw [← h] at hc
    have := isNaN_qn .f64
    exact absurd (this.symm.trans hc) (by decide)
  · rw [cn_of_not (k := .f64) (show isNaN FloatKind.f64.format x = false from Bool.eq_false_iff.2 hx)] at h; exact h
theorem angle_at {p q v : Nat} {er : Int} {W : World} (h : Calls Try.prog 17 #[.complex .f64 p q] W (RetRE v er W)) (hv : isNaN double v = false) :
    Calls Try.prog 17 #[.complex .f64 p q] W fun e w' => ∃ n, e = .returned (.tuple #[.float .f64 v, .int .i64 er]) ∧ w' = W.drewN n :=
  h.mono fun e w' ⟨x, n, he, hx, _, hw⟩ => ⟨n, by rw [he, known4 hx hv], hw⟩
theorem angle_of {p q v : Nat} (W : World) (hp : p < 18446744073709551616) (hq : q < 18446744073709551616) (hf : pFinite (cn .f64 p, cn .f64 q) = true) (hz : (feq .f64 p 0 && feq .f64 q 0) = false) (ha : angle p q = v) (hv : isNaN double v = false) :
    Calls Try.prog 17 #[.complex .f64 p q] W fun e w' => ∃ n, e = .returned (.tuple #[.float .f64 v, .int .i64 0]) ∧ w' = W.drewN n :=
  angle_at (ha ▸ Angle_c p q hp hq hf hz W) hv
theorem phasor_of {x u v : Nat} {k : Int} (W : World) (ha : pScale (cn .f64 x) (rootT k) = (u, v)) (hu : isNaN double u = false) (hv : isNaN double v = false) :
    Calls Try.prog 13 #[.float .f64 x, .int .i64 k] W fun e w' => ∃ n, e = .returned (.complex .f64 u v) ∧ w' = W.drewN n :=
  (Phasor_c x k W).mono fun e w' ⟨x1, y1, n, he, g, _, _, hw⟩ => by
    rw [ha] at g
    exact ⟨n, by rw [he, known4 (congrArg Prod.fst g) hu, known4 (congrArg Prod.snd g) hv], hw⟩
def cells7 : Array Value := #[.float .f64 4607182418800017408, .float .f64 4606875505927962389, .float .f64 4605975682916830378, .float .f64 4604544271217802189, .float .f64 4602678819172646912, .float .f64 4598334089338226320, .float .f64 0]
def KnownR (W0 : World) (i : Value) (wr : World) : Prop := ∃ k m : Nat, k ≤ 7 ∧ i = .int .i64 (k : Nat) ∧ wr = W0.drewN m
theorem root_at {k : Int} {u v : Nat} (h : rootT k = (u, v)) (W : World) : Calls Try.prog 11 #[.int .i64 k] W fun e w' => e = .returned (.complex .f64 u v) ∧ W = w' := by
  have g := Root_c k W
  rw [h] at g; exact g
set_option maxHeartbeats 4000000 in
theorem TurnsKnown_walk (w : World) : Calls Try.prog 6 #[] w fun e w' => e = .returned (.bool true) ∧ Grown w w' := by
  have z0 : isNaN FloatKind.f64.format 0 = false := by kernel_rfl
  have z4598334089338226320 : isNaN FloatKind.f64.format 4598334089338226320 = false := by kernel_rfl
  have z4602678819172646912 : isNaN FloatKind.f64.format 4602678819172646912 = false := by kernel_rfl
  have z4604544271217802189 : isNaN FloatKind.f64.format 4604544271217802189 = false := by kernel_rfl
  have z4605975682916830378 : isNaN FloatKind.f64.format 4605975682916830378 = false := by kernel_rfl
  have z4606875505927962389 : isNaN FloatKind.f64.format 4606875505927962389 = false := by kernel_rfl
  have z4607182418800017408 : isNaN FloatKind.f64.format 4607182418800017408 = false := by kernel_rfl
  have z4622945017495814144 : isNaN FloatKind.f64.format 4622945017495814144 = false := by kernel_rfl
  have z9223372036854775808 : isNaN FloatKind.f64.format 9223372036854775808 = false := by kernel_rfl
  have R0 := Lib.hid (root_at (k := 0) (u := 4607182418800017408) (v := 0) (by decide +kernel))
  have R1 := Lib.hid (root_at (k := 1) (u := 4606875505927962389) (v := 4598334089338226320) (by decide +kernel))
  have R2 := Lib.hid (root_at (k := 2) (u := 4605975682916830378) (v := 4602678819172646912) (by decide +kernel))
  have R3 := Lib.hid (root_at (k := 3) (u := 4604544271217802189) (v := 4604544271217802189) (by decide +kernel))
  have R4 := Lib.hid (root_at (k := 4) (u := 4602678819172646912) (v := 4605975682916830378) (by decide +kernel))
  have R5 := Lib.hid (root_at (k := 5) (u := 4598334089338226320) (v := 4606875505927962389) (by decide +kernel))
  have R6 := Lib.hid (root_at (k := 6) (u := 0) (v := 4607182418800017408) (by decide +kernel))
  have R7 := Lib.hid (root_at (k := 7) (u := 13821706126193002128) (v := 4606875505927962389) (by decide +kernel))
  have R8 := Lib.hid (root_at (k := 8) (u := 13826050856027422720) (v := 4605975682916830378) (by decide +kernel))
  have R9 := Lib.hid (root_at (k := 9) (u := 13827916308072577997) (v := 4604544271217802189) (by decide +kernel))
  have R10 := Lib.hid (root_at (k := 10) (u := 13829347719771606186) (v := 4602678819172646912) (by decide +kernel))
  have R11 := Lib.hid (root_at (k := 11) (u := 13830247542782738197) (v := 4598334089338226320) (by decide +kernel))
  have R12 := Lib.hid (root_at (k := 12) (u := 13830554455654793216) (v := 0) (by decide +kernel))
  have q3 : feq .f64 13830554455654793216 13830554455654793216 = true := by decide +kernel
  have q6 : feq .f64 13830247542782738197 13830247542782738197 = true := by decide +kernel
  have q9 : feq .f64 13829347719771606186 13829347719771606186 = true := by decide +kernel
  have q11 : feq .f64 13827916308072577997 13827916308072577997 = true := by decide +kernel
  have q12 : feq .f64 13826050856027422720 13826050856027422720 = true := by decide +kernel
  have q13 : feq .f64 13821706126193002128 13821706126193002128 = true := by decide +kernel
  have q14 : feq .f64 0 9223372036854775808 = true := by decide +kernel
  have n4607182418800017408 : flip double 4607182418800017408 = 13830554455654793216 := by decide +kernel
  have n4606875505927962389 : flip double 4606875505927962389 = 13830247542782738197 := by decide +kernel
  have n4605975682916830378 : flip double 4605975682916830378 = 13829347719771606186 := by decide +kernel
  have n4604544271217802189 : flip double 4604544271217802189 = 13827916308072577997 := by decide +kernel
  have n4602678819172646912 : flip double 4602678819172646912 = 13826050856027422720 := by decide +kernel
  have n4598334089338226320 : flip double 4598334089338226320 = 13821706126193002128 := by decide +kernel
  have n0 : flip double 0 = 9223372036854775808 := by decide +kernel
  have HP := Lib.hid (fun W => phasor_of (x := 13830554455654793216) (k := 6) (u := 9223372036854775808) (v := 13830554455654793216) W (by decide +kernel) (by decide) (by decide))
  have HQ := Lib.hid (fun W => phasor_of (x := 0) (k := 12) (u := 9223372036854775808) (v := 0) W (by decide +kernel) (by decide) (by decide))
  have HC := Lib.hid (fun W => (show double.word (sgn double 13830554455654793216) (rung double 0) = 9223372036854775808 from by decide +kernel) ▸ mCopysign_c 0 13830554455654793216 (by decide) (by decide) W : ∀ W : World, Calls Try.prog 23 #[.float .f64 0, .float .f64 13830554455654793216] W fun e w' => e = .returned (.float .f64 9223372036854775808) ∧ W = w')
  have A1 := Lib.hid (fun W => angle_of (p := 13830554455654793216) (q := 9223372036854775808) (v := 4622945017495814144) W (by decide) (by decide) (by decide +kernel) (by decide +kernel) (by decide +kernel) (by decide))
  have A2 := Lib.hid (fun W => angle_of (p := 13830554455654793216) (q := 0) (v := 4622945017495814144) W (by decide) (by decide) (by decide +kernel) (by decide +kernel) (by decide +kernel) (by decide))
  have A3 := Lib.hid (fun W => angle_of (p := 4607182418800017408) (q := 0) (v := 0) W (by decide) (by decide) (by decide +kernel) (by decide +kernel) (by decide +kernel) (by decide))
  have A6 := Lib.hid (fun W => angle_of (p := 9094988921128908188) (q := 9223372036854775809) (v := 0) W (by decide) (by decide) (by decide +kernel) (by decide +kernel) (by decide +kernel) (by decide))
  have A4 := Lib.hid (fun W => angle_at (Angle_no 9221120237041090561 4607182418800017408 (by decide) (by decide) (by decide +kernel) W) (by decide))
  have A5 := Lib.hid (fun W => angle_at (Angle_no 4607182418800017408 18442240474082181120 (by decide) (by decide) (by decide +kernel) W) (by decide))
  have S1 := Lib.hid (fun W => (show pSame (cn .f64 9223372036854775808, cn .f64 13830554455654793216) (cn .f64 9223372036854775808, cn .f64 13830554455654793216) = true from by decide +kernel) ▸ SameNumber_c 9223372036854775808 13830554455654793216 9223372036854775808 13830554455654793216 W : ∀ W : World, Calls Try.prog 10 #[.complex .f64 9223372036854775808 13830554455654793216, .complex .f64 9223372036854775808 13830554455654793216] W fun e w' => e = .returned (.bool true) ∧ W = w')
  have S2 := Lib.hid (fun W => (show pSame (cn .f64 9223372036854775808, cn .f64 0) (cn .f64 9223372036854775808, cn .f64 0) = true from by decide +kernel) ▸ SameNumber_c 9223372036854775808 0 9223372036854775808 0 W : ∀ W : World, Calls Try.prog 10 #[.complex .f64 9223372036854775808 0, .complex .f64 9223372036854775808 0] W fun e w' => e = .returned (.bool true) ∧ W = w')
  have S3 := Lib.hid (fun W => (show decide (cn .f64 0 = cn .f64 0) = true from by simp) ▸ kSameReal_c 0 0 W : ∀ W : World, Calls Try.prog 19 #[.float .f64 0, .float .f64 0] W fun e w' => e = .returned (.bool true) ∧ W = w')
  have M1 := Lib.hid (root_at (k := -9223372036854775808) (u := 13826050856027422720) (v := 13829347719771606186) (by decide +kernel))
  have M2 := Lib.hid (root_at (k := -8) (u := 13826050856027422720) (v := 13829347719771606186) (by decide +kernel))
  have m0 : feq .f64 13826050856027422720 13826050856027422720 = true := by decide +kernel
  have m1 : feq .f64 13829347719771606186 13829347719771606186 = true := by decide +kernel
  go_enter Try.func6, Try.ntmps6
  go_wp2
  obtain ⟨W0, hW0⟩ : ∃ W0, W0 = w.alloc (.cells cells7 43) := ⟨_, rfl⟩
  have hgr : Grown w W0 := by rw [hW0]; exact (Grown.refl w).alloc _ _
  have HG := Lib.hid hgr
  have hc0 : W0.cell? { block := w.heap.size, off := 0 } = some (.float .f64 4607182418800017408) := by rw [hW0, World.cell?_alloc_new]; rfl
  have hc1 : W0.cell? { block := w.heap.size, off := 1 } = some (.float .f64 4606875505927962389) := by rw [hW0, World.cell?_alloc_new]; rfl
  have hc2 : W0.cell? { block := w.heap.size, off := 2 } = some (.float .f64 4605975682916830378) := by rw [hW0, World.cell?_alloc_new]; rfl
  have hc3 : W0.cell? { block := w.heap.size, off := 3 } = some (.float .f64 4604544271217802189) := by rw [hW0, World.cell?_alloc_new]; rfl
  have hc4 : W0.cell? { block := w.heap.size, off := 4 } = some (.float .f64 4602678819172646912) := by rw [hW0, World.cell?_alloc_new]; rfl
  have hc5 : W0.cell? { block := w.heap.size, off := 5 } = some (.float .f64 4598334089338226320) := by rw [hW0, World.cell?_alloc_new]; rfl
  have hc6 : W0.cell? { block := w.heap.size, off := 6 } = some (.float .f64 0) := by rw [hW0, World.cell?_alloc_new]; rfl
  have HW0 := Lib.hid hW0
  clear hW0 hgr
  go_loopw [2] (fun i wr => KnownR W0 i wr) (fun i _ => 7 - (intOf i).toNat)
  case atStart => exact ⟨0, 0, by omega, rfl, HW0.out.symm⟩
  case round =>
    obtain ⟨k, m, hk, rfl, rfl⟩ := hrel
    obtain rfl | rfl | rfl | rfl | rfl | rfl | rfl | rfl : k = 0 ∨ k = 1 ∨ k = 2 ∨ k = 3 ∨ k = 4 ∨ k = 5 ∨ k = 6 ∨ k = 7 := by omega
    · go_wp2
      go_quiet ((go_at_call 11; first | with_reducible exact quiet_add_left (R0.out _) | with_reducible exact quiet_add_left (R12.out _)))
      go_wp2
      go_roundw
      case rel => exact ⟨1, _, by omega, rfl, rfl⟩
      case measure => simp [intOf]
    · go_wp2
      go_quiet ((go_at_call 11; first | with_reducible exact quiet_add_left (R1.out _) | with_reducible exact quiet_add_left (R11.out _)))
      go_wp2
      go_roundw
      case rel => exact ⟨2, _, by omega, rfl, rfl⟩
      case measure => simp [intOf]
    · go_wp2
      go_quiet ((go_at_call 11; first | with_reducible exact quiet_add_left (R2.out _) | with_reducible exact quiet_add_left (R10.out _)))
      go_wp2
      go_roundw
      case rel => exact ⟨3, _, by omega, rfl, rfl⟩
      case measure => simp [intOf]
    · go_wp2
      go_quiet ((go_at_call 11; first | with_reducible exact quiet_add_left (R3.out _) | with_reducible exact quiet_add_left (R9.out _)))
      go_wp2
      go_roundw
      case rel => exact ⟨4, _, by omega, rfl, rfl⟩
      case measure => simp [intOf]
    · go_wp2
      go_quiet ((go_at_call 11; first | with_reducible exact quiet_add_left (R4.out _) | with_reducible exact quiet_add_left (R8.out _)))
      go_wp2
      go_roundw
      case rel => exact ⟨5, _, by omega, rfl, rfl⟩
      case measure => simp [intOf]
    · go_wp2
      go_quiet ((go_at_call 11; first | with_reducible exact quiet_add_left (R5.out _) | with_reducible exact quiet_add_left (R7.out _)))
      go_wp2
      go_roundw
      case rel => exact ⟨6, _, by omega, rfl, rfl⟩
      case measure => simp [intOf]
    · go_wp2
      go_quiet ((go_at_call 11; first | with_reducible exact quiet_add_left (R6.out _) | with_reducible exact quiet_add_left (R6.out _)))
      go_wp2
      go_roundw
      case rel => exact ⟨7, _, by omega, rfl, rfl⟩
      case measure => simp [intOf]
    · clear R0 R1 R2 R3 R4 R5 R6 R7 R8 R9 R10 R11 R12 hc0 hc1 hc2 hc3 hc4 hc5 hc6
      go_wp2_with fail
      refine (HP.out _).mono ?_
      rintro e w' ⟨d1, rfl, rfl⟩
      go_wp2_with fail
      refine (HQ.out _).mono ?_
      rintro e w' ⟨d2, rfl, rfl⟩
      go_wp2_with fail
      refine (HC.out _).mono ?_
      rintro e w' ⟨rfl, rfl⟩
      go_wp2_with fail
      refine (S1.out _).mono ?_
      rintro e w' ⟨rfl, rfl⟩
      go_wp2_with fail
      refine (HC.out _).mono ?_
      rintro e w' ⟨rfl, rfl⟩
      go_wp2_with fail
      refine (S2.out _).mono ?_
      rintro e w' ⟨rfl, rfl⟩
      go_wp2_with fail
      refine (HC.out _).mono ?_
      rintro e w' ⟨rfl, rfl⟩
      go_wp2_with fail
      refine (A1.out _).mono ?_
      rintro e w' ⟨d3, rfl, rfl⟩
      go_wp2_with fail
      refine (A2.out _).mono ?_
      rintro e w' ⟨d4, rfl, rfl⟩
      go_wp2_with fail
      refine (A3.out _).mono ?_
      rintro e w' ⟨d5, rfl, rfl⟩
      go_wp2_with fail
      refine (mNaN_c _).mono ?_
      rintro e w' ⟨rfl, rfl⟩
      go_wp2_with fail
      refine (A4.out _).mono ?_
      rintro e w' ⟨d6, rfl, rfl⟩
      go_wp2_with fail
      refine (mInfNeg_c _).mono ?_
      rintro e w' ⟨rfl, rfl⟩
      go_wp2_with fail
      refine (A5.out _).mono ?_
      rintro e w' ⟨d7, rfl, rfl⟩
      go_wp2_with fail
      refine (A6.out _).mono ?_
      rintro e w' ⟨d8, rfl, rfl⟩
      go_wp2_with fail
      refine (awake4_c _).mono ?_
      rintro e w' ⟨d9, rfl, rfl⟩
      go_wp2_with fail
      refine (S3.out _).mono ?_
      rintro e w' ⟨rfl, rfl⟩
      go_wp2_with fail
      refine (M1.out _).mono ?_
      rintro e w' ⟨rfl, rfl⟩
      go_wp2_with fail
      refine (M2.out _).mono ?_
      rintro e w' ⟨rfl, rfl⟩
      go_wp2
      go_ret
      exact ⟨rfl, grown_dn HG.out _⟩
/-! ### The row's step -/
namespace turnsKnown_frame
open Go.ChangeShapes Go.WideShapes Go.ChangeAt Go.RowKit
theorem own : ownKnob Try.prog.godebug = none := by kernel_rfl
set_option maxRecDepth 100000 in
theorem lifted (os : Os) (started : os.Started) (H : Type) (enc : TypeId × Value → H) :
    ReturnsInHanded {} Try.checked os 6 .any (Rows.turnsKnownSpec.pre6 enc Try.prog Try.f6 Rows.turnsKnownRow.domain false) (Rows.turnsKnownSpec.post enc Try.prog Try.f6 false true false false) := by
  refine returnsInHanded_of_change (C := Try.checked) own started (by kernel_rfl) Try.func6
    (ChangeSpec.witness6 (enc := enc) (C := Try.checked) false ⟨#[], #[], []⟩ 8 (by kernel_rfl) (by kernel_rfl) (by kernel_rfl) (by kernel_rfl)) ?_
  intro W base args ds gs before hval0 hW hcnd _
  have hW' := hW
  obtain ⟨p, q, hA0, hV, rfl, hfz, hnd⟩ := hW
  have hA : DataW.TrodAll enc Try.prog W 0 (fun _ => true) true Try.f6.params.toList args.toList ds p := hA0
  rw [Try.params6] at hA
  obtain ⟨hargs, rfl, rfl⟩ := trodAll_nil hA
  obtain rfl : args = #[] := by cases args; simp_all
  obtain ⟨rfl, rfl⟩ := trodVars_none hV
  clear hA0
  simp only [List.append_nil] at hW'
  refine (TurnsKnown_walk  W).mono fun e W' ⟨he, hg⟩ => ?_
  subst he
  exact ⟨_, rfl, post_of_same (pa := []) (pv := []) hW' (fun _ _ _ => (trodAll_cons_mk (shut_bool Try.underlying4 _) trodAll_mk0)) (fun sp _ => trodAll_mk0) (fun _ _ => rfl) rfl
    (hg.frame _) hg.2.1 (ok_one (by kernel_rfl) rfl (okWide_bool_mk Try.underlying4 _))⟩
theorem over : Rows.turnsKnownRow.holds Try.pinned (OpenSpec.ofChange Rows.turnsKnownSpec) :=
  OpenClaim.holds_of_wide 6 Try.f6 rfl rfl rfl rfl rfl rfl rfl ⟨rfl, rfl, rfl, rfl, rfl⟩ rfl rfl rfl rfl rfl (by kernel_rfl) Try.func6 (by kernel_rfl)
    (of_decide_eq_true (by kernel_rfl)) (by unfold Func.isWrapper; first | (rw [if_pos (by decide +kernel)]; kernel_rfl) | (rw [if_neg (by decide +kernel)]; exact ⟨rfl, rfl⟩))
    (fun os started H enc _ => lifted os started H enc)
end turnsKnown_frame

/-- THE STATEMENT. -/
theorem turnsKnown_holds : Rows.TurnsKnownSaid := turnsKnown_frame.over
#print axioms turnsKnown_holds
