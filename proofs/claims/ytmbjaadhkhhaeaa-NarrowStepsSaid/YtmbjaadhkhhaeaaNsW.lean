/- Layer 3: NarrowSteps: the walk. -/
import Derived.Test.YtmbjaadhkhhaeaaNsL
import Derived.Test.YtmbjaadhkhhaeaaNxt
import Derived.Test.YtmbjaadhkhhaeaaLdx
namespace Go.Proofs.Ytmbjaadhkhhaeaa
open Go.RowKit Fl Ieee
set_option maxRecDepth 20000
attribute [local go_sem] x_f32frombits
attribute [local go_sem] x_f32bits
attribute [local go_sem] Fl.u32_clear Fl.order_self Fl.order_self' Fl.order_eq Fl.order_ne Fl.order_lt Fl.order_gt Fl.fle_fold Fl.fge_fold
/-- A number that fits is narrowed so, whatever the world. -/
theorem conv_narrow {x r : Nat} (h : floatToFloatBits .f64 x .f32 = some r) (W : World) : (convert 49 41 (.float .f64 x)).run Try.prog W = .ok (.float .f32 r) W :=
  run_convert_float_float W 49 41 .f64 .f32 x r (by kernel_rfl) Try.underlying41 h
theorem conv_wideL {x r : Nat} (h : floatToFloatBits .f32 x .f64 = some r) (W : World) : (convert 41 49 (.float .f32 x)).run Try.prog W = .ok (.float .f64 r) W :=
  run_convert_float_float W 41 49 .f32 .f64 x r (by kernel_rfl) Try.underlying49 h
theorem cn_known3 {x c : Nat} (h : cn .f64 x = c) (hc : isNaN double c = false) : x = c := by
  by_cases hn : isNaN double x = true
  · have h2 := cn_of_nan (k := .f64) hn
    rw [h2] at h
    rw [← h] at hc
    exact absurd (isNaN_qn .f64) (by rw [show isNaN FloatKind.f64.format (qn .f64) = false from hc]; decide)
  · rw [cn_of_not (k := .f64) (Bool.eq_false_iff.2 hn)] at h
    exact h
theorem conv_wide {x : Nat} (h : fin single x) (W : World) : (convert 41 49 (.float .f32 x)).run Try.prog W = .ok (.float .f64 (fwide x)) W :=
  run_convert_float_float W 41 49 .f32 .f64 x _ (by kernel_rfl) Try.underlying49 (fwide_fin h).1
theorem To_c {a b r s : Nat} (ha : floatToFloatBits .f64 a .f32 = some r) (hb : floatToFloatBits .f64 b .f32 = some s) (w : World) :
    Calls Try.prog 16 #[.complex .f64 a b] w fun e w' => e = .returned (.complex .f32 r s) ∧ w = w' := by
  have h1 := conv_narrow ha
  have h2 := conv_narrow hb
  clear ha hb
  go_enter Try.func16, Try.ntmps16
  go_wp2
  go_ret
  exact ⟨rfl, rfl⟩
theorem Back_c {a b : Nat} (ha : fin single a) (hb : fin single b) (w : World) :
    Calls Try.prog 21 #[.complex .f32 a b] w fun e w' => e = .returned (.complex .f64 (fwide a) (fwide b)) ∧ w = w' := by
  have h1 := conv_wide ha
  have h2 := conv_wide hb
  clear ha hb
  go_enter Try.func21, Try.ntmps21
  go_wp2
  go_ret
  exact ⟨rfl, rfl⟩
theorem pow_c (m : Nat) (j : Int) (hj : j + 1023 = m) (h0 : 1 ≤ m) (h1 : m ≤ 2046) (w : World) :
    Calls Try.prog 44 #[.int .i64 j] w (RetR (4503599627370496 * m) w) := by
  have H := Lib.hid (Ldexp1_c m j hj h0 h1 w)
  clear hj h0 h1
  go_enter Try.func44, Try.ntmps44
  go_wp2_with fail
  refine H.out.mono ?_
  rintro e w' ⟨r, n, rfl, hr, hl, rfl⟩
  go_wp2
  go_ret
  exact ⟨r, n, rfl, hr, hl, rfl⟩
theorem narrowed_t {a b r s x y : Nat} (ha : floatToFloatBits .f64 a .f32 = some r) (hb : floatToFloatBits .f64 b .f32 = some s) (fr : fin single r) (fs : fin single s) (hx : fwide r = cn .f64 x) (hy : fwide s = cn .f64 y) (w : World) :
    Calls Try.prog 46 #[.complex .f64 a b, .float .f64 x, .float .f64 y] w fun e w' => e = .returned (.bool true) ∧ w = w' := by
  have H1 := Lib.hid (fun W => To_c ha hb W)
  have H2 := Lib.hid (fun W => Back_c fr fs W)
  have H3 := Lib.hid (fun W => SameNumber_t (a := fwide r) (b := fwide s) (c := x) (d := y) (v := (fwide r, fwide s)) (Lib.hid (by rw [cn_fwide, cn_fwide])) (Lib.hid (by rw [hx, hy])) W)
  clear ha hb fr fs hx hy
  go_enter Try.func46, Try.ntmps46
  go_wp2_with fail
  refine (H1.out _).mono ?_
  rintro e w' ⟨rfl, rfl⟩
  go_wp2_with fail
  refine (H2.out _).mono ?_
  rintro e w' ⟨rfl, rfl⟩
  go_wp2_with fail
  refine (H3.out _).mono ?_
  rintro e w' ⟨rfl, rfl⟩
  go_wp2
  go_ret
  exact ⟨rfl, rfl⟩
theorem op32 {op : BinOp} {x y r v : Nat} (h : IsOp op .f32 x y r) (hv : fop op .f32 (cn .f32 x) (cn .f32 y) = v) (hn : isNaN single v = false) : r = v := by
  have h1 : cn .f32 r = v := h.1.trans hv
  by_cases hr : isNaN single r = true
  · have h2 := cn_of_nan (k := .f32) hr
    rw [h2] at h1
    rw [← h1] at hn
    exact absurd (isNaN_qn .f32) (by rw [show isNaN FloatKind.f32.format (qn .f32) = false from hn]; decide)
  · rw [cn_of_not (k := .f32) (Bool.eq_false_iff.2 hr)] at h1
    exact h1
theorem op64 {op : BinOp} {x y r v : Nat} (h : IsOp op .f64 x y r) (hv : fop op .f64 (cn .f64 x) (cn .f64 y) = v) (hn : isNaN double v = false) : r = v := by
  have h1 : cn .f64 r = v := h.1.trans hv
  by_cases hr : isNaN double r = true
  · have h2 := cn_of_nan (k := .f64) hr
    rw [h2] at h1
    rw [← h1] at hn
    exact absurd (isNaN_qn .f64) (by rw [show isNaN FloatKind.f64.format (qn .f64) = false from hn]; decide)
  · rw [cn_of_not (k := .f64) (Bool.eq_false_iff.2 hr)] at h1
    exact h1
def RetN (v : Value) (w : World) (e : Ending) (w' : World) : Prop := e = .returned v ∧ ∃ n, w' = w.drewN n
theorem Mul_k (w : World) : Calls Try.prog 33 #[.complex .f32 1065353216 1073741824, .complex .f32 1077936128 1082130432] w (RetN (.complex .f32 3231711232 1092616192) w) := by
  go_enter Try.func33, Try.ntmps33
  go_wp2_with fail
  refine upon_mul _ _ _ _ ?_
  intro r1 n1 h1
  obtain rfl := op32 h1 (v := 1077936128) (by decide +kernel) (by decide +kernel)
  go_wp2_with fail
  refine upon_mul _ _ _ _ ?_
  intro r2 n2 h2
  obtain rfl := op32 h2 (v := 1090519040) (by decide +kernel) (by decide +kernel)
  go_wp2_with fail
  refine upon_mul _ _ _ _ ?_
  intro r3 n3 h3
  obtain rfl := op32 h3 (v := 1082130432) (by decide +kernel) (by decide +kernel)
  go_wp2_with fail
  refine upon_mul _ _ _ _ ?_
  intro r4 n4 h4
  obtain rfl := op32 h4 (v := 1086324736) (by decide +kernel) (by decide +kernel)
  go_wp2_with fail
  refine upon_sub _ _ _ _ ?_
  intro r5 n5 h5
  obtain rfl := op32 h5 (v := 3231711232) (by decide +kernel) (by decide +kernel)
  go_wp2_with fail
  refine upon_add _ _ _ _ ?_
  intro r6 n6 h6
  obtain rfl := op32 h6 (v := 1092616192) (by decide +kernel) (by decide +kernel)
  go_wp2
  go_ret
  exact ⟨rfl, _, rfl⟩
theorem size32_c (x : Nat) (hx : x < 4294967296) (v : Nat) (hv : x % 2147483648 = v) (w : World) : Calls Try.prog 67 #[.float .f32 x] w fun e w' => e = .returned (.float .f32 v) ∧ w = w' := by
  go_enter Try.func67, Try.ntmps67
  go_wp2
  go_ret
  exact ⟨ret_float (by first | exact hv | (rw [← hv]; rfl) | (rw [← hv]; simp)), rfl⟩
theorem Abs_k (w : World) : Calls Try.prog 35 #[.complex .f32 1077936128 3229614080] w (RetN (.float .f32 1084227584) w) := by
  have H1 := Lib.hid (fun W => size32_c 1077936128 (by decide) 1077936128 (by decide) W)
  have H2 := Lib.hid (fun W => size32_c 3229614080 (by decide) 1082130432 (by decide) W)
  have HI := Lib.hid (fun W => mInf_c W)
  have c1 := conv_narrow (x := 9218868437227405312) (r := 2139095040) (by decide +kernel)
  have k1 : feq .f32 1077936128 2139095040 = false := by decide +kernel
  have k2 : feq .f32 1082130432 2139095040 = false := by decide +kernel
  have k3 : feq .f32 1077936128 1077936128 = true := by decide +kernel
  have k4 : feq .f32 1082130432 1082130432 = true := by decide +kernel
  have k5 : flt .f32 1077936128 1082130432 = true := by decide +kernel
  have k6 : feq .f32 1082130432 0 = false := by decide +kernel
  have c2 := conv_wideL (x := 1070071808) (r := 4609715693590413312) (by decide +kernel)
  have c3 := conv_narrow (x := 4608308318706860032) (r := 1067450368) (by decide +kernel)
  have HS := Lib.hid (fun W => mSqrt_c 4609715693590413312 W)
  go_enter Try.func35, Try.ntmps35
  go_wp2_with fail
  refine (H1.out _).mono ?_
  rintro e w' ⟨rfl, rfl⟩
  go_wp2_with fail
  refine (H2.out _).mono ?_
  rintro e w' ⟨rfl, rfl⟩
  go_wp2_with fail
  refine (HI.out _).mono ?_
  rintro e w' ⟨rfl, rfl⟩
  go_wp2_with fail
  refine upon_quo _ _ _ _ ?_
  intro r1 n1 h1
  obtain rfl := op32 h1 (v := 1061158912) (by decide +kernel) (by decide +kernel)
  go_wp2_with fail
  refine upon_mul _ _ _ _ ?_
  intro r2 n2 h2
  obtain rfl := op32 h2 (v := 1058013184) (by decide +kernel) (by decide +kernel)
  go_wp2_with fail
  refine upon_add _ _ _ _ ?_
  intro r3 n3 h3
  obtain rfl := op32 h3 (v := 1070071808) (by decide +kernel) (by decide +kernel)
  go_wp2_with fail
  refine (HS.out _).mono ?_
  rintro e w' ⟨r, n, rfl, hr, hl, rfl⟩
  obtain rfl := cn_known3 (hr.trans (show fsqrt (cn .f64 4609715693590413312) = 4608308318706860032 by decide +kernel)) (by decide +kernel)
  go_wp2_with fail
  refine upon_mul _ _ _ _ ?_
  intro r5 n5 h5
  obtain rfl := op32 h5 (v := 1084227584) (by decide +kernel) (by decide +kernel)
  go_wp2
  go_ret
  exact ⟨rfl, _, rfl⟩
theorem fin3_c (x : Nat) (hx : x < 18446744073709551616) (b : Bool) (hb : isFin double x = b) (w : World) :
    Calls Try.prog 39 #[.float .f64 x] w (RetB b w) := by
  subst hb
  go_enter Try.func39, Try.ntmps39
  go_wp2_with fail
  refine upon_sub _ _ _ _ ?_
  intro r1 n1 h1
  have f1 := fin_of_sub hx h1
  cases hd : isFin double x
  · rw [hd] at f1
    go_wp2
    go_ret; exact closeB hd.symm
  · rw [hd] at f1
    go_wp2
    go_ret; exact closeB hd.symm
/-- (1 + 2^-24, 2^-150): what is lost of it. -/
theorem Lost_k (w : World) : Calls Try.prog 18 #[.complex .f64 4607182419068452864 3931642474694443008] w (RetN (.tuple #[.complex .f64 4499096027743125504 3931642474694443008, .int .i64 0]) w) := by
  have H1 := Lib.hid (fun W => Finite_c 4607182419068452864 3931642474694443008 (by decide) (by decide) W)
  have H2 := Lib.hid (fun W => To_c (a := 4607182419068452864) (b := 3931642474694443008) (r := 1065353216) (s := 0) (by decide +kernel) (by decide +kernel) W)
  have H3 := Lib.hid (fun W => Back_c (a := 1065353216) (b := 0) (by unfold fin; decide +kernel) (by unfold fin; decide +kernel) W)
  have e1 : fwide 1065353216 = 4607182418800017408 := by decide +kernel
  have e2 : fwide 0 = 0 := by decide +kernel
  rw [e1, e2] at H3
  have H4 := Lib.hid (fun W => Finite_c 4607182418800017408 0 (by decide) (by decide) W)
  have H5 := Lib.hid (fun W => Sub_c 4607182419068452864 3931642474694443008 4607182418800017408 0 W)
  have k1 : pFinite (cn .f64 4607182419068452864, cn .f64 3931642474694443008) = true := by decide +kernel
  have k2 : pFinite (cn .f64 4607182418800017408, cn .f64 0) = true := by decide +kernel
  have k3 : pSub (cn .f64 4607182419068452864, cn .f64 3931642474694443008) (cn .f64 4607182418800017408, cn .f64 0) = (4499096027743125504, 3931642474694443008) := by decide +kernel
  rw [k1] at H1
  rw [k2] at H4
  rw [k3] at H5
  clear k1 k2 k3 e1 e2
  go_enter Try.func18, Try.ntmps18
  go_wp2_with fail
  refine (H1.out _).mono ?_
  rintro e w' ⟨n1, rfl, rfl⟩
  go_wp2_with fail
  refine (H2.out _).mono ?_
  rintro e w' ⟨rfl, rfl⟩
  go_wp2_with fail
  refine (H3.out _).mono ?_
  rintro e w' ⟨rfl, rfl⟩
  go_wp2_with fail
  refine (H4.out _).mono ?_
  rintro e w' ⟨n2, rfl, rfl⟩
  go_wp2_with fail
  refine (H5.out _).mono ?_
  rintro e w' ⟨x, y, n3, rfl, hx, hlx, hly, rfl⟩
  have HX := Lib.hid hx
  clear hx hlx hly
  go_wp2
  go_ret2
  have h := HX.out
  rw [cn_known3 (congrArg Prod.fst h) (by decide +kernel), cn_known3 (congrArg Prod.snd h) (by decide +kernel)]
  exact ⟨rfl, _, rfl⟩
theorem pow24_c (w : World) : Calls Try.prog 44 #[.int .i64 (-24)] w (RetN (.float .f64 4499096027743125504) w) := by
  refine (pow_c 999 (-24) (by decide) (by decide) (by decide) w).mono ?_
  rintro e w' ⟨r, n, rfl, hr, -, rfl⟩
  rw [cn_known3 hr (by decide +kernel)]
  exact ⟨rfl, n, rfl⟩
theorem pow150_c (w : World) : Calls Try.prog 44 #[.int .i64 (-150)] w (RetN (.float .f64 3931642474694443008) w) := by
  refine (pow_c 873 (-150) (by decide) (by decide) (by decide) w).mono ?_
  rintro e w' ⟨r, n, rfl, hr, -, rfl⟩
  rw [cn_known3 hr (by decide +kernel)]
  exact ⟨rfl, n, rfl⟩
theorem pow22_c (w : World) : Calls Try.prog 44 #[.int .i64 (-22)] w (RetN (.float .f64 4508103226997866496) w) := by
  refine (pow_c 1001 (-22) (by decide) (by decide) (by decide) w).mono ?_
  rintro e w' ⟨r, n, rfl, hr, -, rfl⟩
  rw [cn_known3 hr (by decide +kernel)]
  exact ⟨rfl, n, rfl⟩
theorem quiet_n {P : Program} {f : FuncId} {args : Array Value} {w : World} {n : Nat} {v : Value} (h : ∀ W, Calls P f args W (RetN v W)) :
    Calls P f args (w.drewN n) fun e w'' => e = .returned v ∧ ∃ m, w'' = w.drewN m :=
  (h (w.drewN n)).mono fun _ _ ⟨he, d, hm⟩ => ⟨he, n + d, by rw [hm, World.drewN_drewN]⟩
theorem quiet_s {P : Program} {f : FuncId} {args : Array Value} {w : World} {n : Nat} {v : Value} (h : ∀ W, Calls P f args W fun e w' => e = .returned v ∧ W = w') :
    Calls P f args (w.drewN n) fun e w'' => e = .returned v ∧ ∃ m, w'' = w.drewN m :=
  (h (w.drewN n)).mono fun _ _ ⟨he, hm⟩ => ⟨he, n, hm.symm⟩
theorem awake3_c (w : World) : Calls Try.prog 40 #[] w (RetN (.bool true) w) := by
  have HP := Lib.hid pow24_c
  have HQ := Lib.hid pow150_c
  have HR := Lib.hid pow22_c
  have HL := Lib.hid Lost_k
  have HN := Lib.hid (fun W => narrowed_t (a := 4607182419068452864) (b := 4607182419605323776) (r := 1065353216) (s := 1065353218) (x := 4607182418800017408) (y := 4607182419873759232) (by decide +kernel) (by decide +kernel) (by unfold fin; decide +kernel) (by unfold fin; decide +kernel) (by decide +kernel) (by decide +kernel) W)
  have HS := Lib.hid (fun W => SameNumber_t (a := 4499096027743125504) (b := 3931642474694443008) (c := 4499096027743125504) (d := 3931642474694443008) (v := (4499096027743125504, 3931642474694443008)) (Lib.hid (by decide +kernel)) (Lib.hid (by decide +kernel)) W)
  have HM := Lib.hid Mul_k
  have HA := Lib.hid Abs_k
  have k1 : isNaN FloatKind.f32.format 3231711232 = false := by decide +kernel
  have k2 : isNaN FloatKind.f32.format 1092616192 = false := by decide +kernel
  have k3 : isNaN FloatKind.f32.format 1084227584 = false := by decide +kernel
  go_enter Try.func40, Try.ntmps40
  go_wp2_with fail
  refine (HP.out _).mono ?_
  rintro e w' ⟨rfl, n1, rfl⟩
  go_wp2_with fail
  refine upon_add _ _ _ _ ?_
  intro r11 n11 h11
  obtain rfl := op64 h11 (v := 4607182419068452864) (by decide +kernel) (by decide +kernel)
  go_wp2_with fail
  refine (HQ.out _).mono ?_
  rintro e w' ⟨rfl, n2, rfl⟩
  go_wp2_with fail
  refine (HL.out _).mono ?_
  rintro e w' ⟨rfl, n3, rfl⟩
  go_wp2_with fail
  refine (HP.out _).mono ?_
  rintro e w' ⟨rfl, n4, rfl⟩
  go_wp2_with fail
  refine upon_add _ _ _ _ ?_
  intro r12 n12 h12
  obtain rfl := op64 h12 (v := 4607182419068452864) (by decide +kernel) (by decide +kernel)
  go_wp2_with fail
  refine (HP.out _).mono ?_
  rintro e w' ⟨rfl, n5, rfl⟩
  go_wp2_with fail
  refine upon_mul _ _ _ _ ?_
  intro r13 n13 h13
  obtain rfl := op64 h13 (v := 4505851427184181248) (by decide +kernel) (by decide +kernel)
  go_wp2_with fail
  refine upon_add _ _ _ _ ?_
  intro r14 n14 h14
  obtain rfl := op64 h14 (v := 4607182419605323776) (by decide +kernel) (by decide +kernel)
  go_wp2_with fail
  refine (HR.out _).mono ?_
  rintro e w' ⟨rfl, n6, rfl⟩
  go_wp2_with fail
  refine upon_add _ _ _ _ ?_
  intro r15 n15 h15
  obtain rfl := op64 h15 (v := 4607182419873759232) (by decide +kernel) (by decide +kernel)
  go_wp2_with fail
  refine (HN.out _).mono ?_
  rintro e w' ⟨rfl, rfl⟩
  go_wp2_with fail
  refine (HP.out _).mono ?_
  rintro e w' ⟨rfl, n7, rfl⟩
  go_wp2_with fail
  refine (HQ.out _).mono ?_
  rintro e w' ⟨rfl, n8, rfl⟩
  go_wp2_with fail
  refine (HS.out _).mono ?_
  rintro e w' ⟨rfl, rfl⟩
  go_wp2_with fail
  refine (HM.out _).mono ?_
  rintro e w' ⟨rfl, n9, rfl⟩
  go_wp2_with fail
  refine (HA.out _).mono ?_
  rintro e w' ⟨rfl, n10, rfl⟩
  go_wp2
  go_ret
  exact ⟨rfl, _, rfl⟩
theorem Steps3 (u : Nat) (hu : u < 4294967296) (w : World) :
    Calls Try.prog 7 #[.int .u32 u] w (RetN (.bool true) w) := by
  have HAw := Lib.hid awake3_c
  have HU := Lib.hid (fun W => Next_c u true hu W)
  have HD := Lib.hid (fun W => Next_c u false hu W)
  by_cases hx : fin single u
  · by_cases hU : fin single (nxt u true)
    · by_cases hD : fin single (nxt u false)
      · have lU := nxt_lt true hu hx
        have lD := nxt_lt false hu hx
        have kU := key_up hu hx
        have kD := key_down hu hx
        have kUD := key_down lU hU
        have kDU := key_up lD hD
        have f1 := flt_key hx hU (by omega)
        have f2 := flt_key hD hx (by omega)
        have nUD : isNaN single (nxt (nxt u true) false) = false := not_nan_fin (fin_key (by have := key_fin hx; omega) (by have := key_fin hx; omega))
        have nDU : isNaN single (nxt (nxt u false) true) = false := not_nan_fin (fin_key (by have := key_fin hx; omega) (by have := key_fin hx; omega))
        have f3 := feq_key nUD (not_nan_fin hx) (by omega)
        have f4 := feq_key nDU (not_nan_fin hx) (by omega)
        obtain ⟨n1, n2, r, hr, hor⟩ := mid_steps ex_two hu hx hU
        have HUD := Lib.hid (fun W => Next_c (nxt u true) false lU W)
        have HDU := Lib.hid (fun W => Next_c (nxt u false) true lD W)
        have HF1 := Lib.hid (fun W => fin3_c (fwide u) (fwide_lt _) true (decide_eq_true (fwide_fin hx).2.1) W)
        have HF2 := Lib.hid (fun W => fin3_c (fwide (nxt u true)) (fwide_lt _) true (decide_eq_true (fwide_fin hU).2.1) W)
        have HF3 := Lib.hid (fun W => fin3_c (fwide (nxt u false)) (fwide_lt _) true (decide_eq_true (fwide_fin hD).2.1) W)
        have c1 := conv_wide hx
        have c2 := conv_wide hU
        have c3 := conv_wide hD
        have HT := Lib.hid (fun W => To_c hr (show floatToFloatBits .f64 0 .f32 = some 0 by decide +kernel) W)
        have HN := Lib.hid (And.intro n1 n2)
        clear lU lD kU kD kUD kDU nUD nDU hr n1 n2 hu
        obtain ⟨m, hm⟩ : ∃ m, m = fdiv (fadd (fwide u) (fwide (nxt u true))) 4611686018427387904 := ⟨_, rfl⟩
        rw [← hm] at HT HN
        have Hm := Lib.hid hm
        clear hm
        go_enter Try.func7, Try.ntmps7
        go_wp2_with fail
        refine (HU.out _).mono ?_
        rintro e w' ⟨a1, rfl, rfl⟩
        go_wp2_with fail
        refine (HD.out _).mono ?_
        rintro e w' ⟨a2, rfl, rfl⟩
        go_wp2_with fail
        refine (HF1.out _).mono ?_
        rintro e w' ⟨a3, rfl, rfl⟩
        go_wp2_with fail
        refine (HF2.out _).mono ?_
        rintro e w' ⟨a4, rfl, rfl⟩
        go_wp2_with fail
        refine (HF3.out _).mono ?_
        rintro e w' ⟨a5, rfl, rfl⟩
        go_wp2_with fail
        refine upon_add _ _ _ _ ?_
        intro r1 n1 h1
        obtain rfl := op64 h1 (v := fadd (fwide u) (fwide (nxt u true))) (by rw [cn_fwide, cn_fwide]) HN.out.1
        go_wp2_with fail
        refine upon_quo _ _ _ _ ?_
        intro r2 n2 h2
        obtain rfl := op64 h2 (v := m) (by rw [cn_of_not (k := .f64) (x := fadd (fwide u) (fwide (nxt u true))) HN.out.1, Hm.out]; exact congrArg _ (by decide +kernel)) HN.out.2
        go_wp2_with fail
        refine (HT.out _).mono ?_
        rintro e w' ⟨rfl, rfl⟩
        go_wp2_with fail
        refine (HAw.out _).mono ?_
        rintro e w' ⟨rfl, a6, rfl⟩
        go_wp2_with fail
        refine (HUD.out _).mono ?_
        rintro e w' ⟨a7, rfl, rfl⟩
        go_wp2_with fail
        refine (HDU.out _).mono ?_
        rintro e w' ⟨a8, rfl, rfl⟩
        cases hru : feq .f32 r u with
        | true =>
          go_wp2
          go_ret
          exact ⟨rfl, _, rfl⟩
        | false =>
          have hrU : feq .f32 r (nxt u true) = true := by
            rcases hor with h | h
            · rw [hru] at h; cases h
            · exact h
          clear hor
          go_wp2
          go_ret
          exact ⟨rfl, _, rfl⟩
      · have hDf : isFin single (nxt u false) = false := decide_eq_false hD
        have c1 := conv_wide hx
        have c2 := conv_wide hU
        have HF1 := Lib.hid (fun W => fin3_c (fwide u) (fwide_lt _) true (decide_eq_true (fwide_fin hx).2.1) W)
        have HF2 := Lib.hid (fun W => fin3_c (fwide (nxt u true)) (fwide_lt _) true (decide_eq_true (fwide_fin hU).2.1) W)
        clear hD hx hU hu
        go_enter Try.func7, Try.ntmps7
        go_wp2_with fail
        refine (HU.out _).mono ?_
        rintro e w' ⟨a1, rfl, rfl⟩
        go_wp2_with fail
        refine (HD.out _).mono ?_
        rintro e w' ⟨a2, rfl, rfl⟩
        go_wp2_with fail
        refine (HF1.out _).mono ?_
        rintro e w' ⟨a3, rfl, rfl⟩
        go_wp2_with fail
        refine (HF2.out _).mono ?_
        rintro e w' ⟨a4, rfl, rfl⟩
        go_wp2_with fail
        refine upon_widen (by kernel_rfl) Try.underlying49 _ ?_
        intro r3 n3 hw3
        have HF3 := Lib.hid (fun W => fin3_c r3 hw3.2 false ((wide_fin hw3).trans hDf) W)
        go_wp2_with fail
        refine (HF3.out _).mono ?_
        rintro e w' ⟨a5, rfl, rfl⟩
        go_wp2_with fail
        refine (HAw.out _).mono ?_
        rintro e w' ⟨rfl, a6, rfl⟩
        go_wp2
        go_ret
        exact ⟨rfl, _, rfl⟩
    · have hUf : isFin single (nxt u true) = false := decide_eq_false hU
      have c1 := conv_wide hx
      have HF1 := Lib.hid (fun W => fin3_c (fwide u) (fwide_lt _) true (decide_eq_true (fwide_fin hx).2.1) W)
      clear hx hU hu
      go_enter Try.func7, Try.ntmps7
      go_wp2_with fail
      refine (HU.out _).mono ?_
      rintro e w' ⟨a1, rfl, rfl⟩
      go_wp2_with fail
      refine (HD.out _).mono ?_
      rintro e w' ⟨a2, rfl, rfl⟩
      go_wp2_with fail
      refine (HF1.out _).mono ?_
      rintro e w' ⟨a3, rfl, rfl⟩
      go_wp2_with fail
      refine upon_widen (by kernel_rfl) Try.underlying49 _ ?_
      intro r3 n3 hw3
      have HF3 := Lib.hid (fun W => fin3_c r3 hw3.2 false ((wide_fin hw3).trans hUf) W)
      go_wp2_with fail
      refine (HF3.out _).mono ?_
      rintro e w' ⟨a5, rfl, rfl⟩
      go_wp2_with fail
      refine (HAw.out _).mono ?_
      rintro e w' ⟨rfl, a6, rfl⟩
      go_wp2
      go_ret
      exact ⟨rfl, _, rfl⟩
  · have hxf : isFin single u = false := decide_eq_false hx
    clear hx hu
    go_enter Try.func7, Try.ntmps7
    go_wp2_with fail
    refine (HU.out _).mono ?_
    rintro e w' ⟨a1, rfl, rfl⟩
    go_wp2_with fail
    refine (HD.out _).mono ?_
    rintro e w' ⟨a2, rfl, rfl⟩
    go_wp2_with fail
    refine upon_widen (by kernel_rfl) Try.underlying49 _ ?_
    intro r3 n3 hw3
    have HF3 := Lib.hid (fun W => fin3_c r3 hw3.2 false ((wide_fin hw3).trans hxf) W)
    go_wp2_with fail
    refine (HF3.out _).mono ?_
    rintro e w' ⟨a5, rfl, rfl⟩
    go_wp2_with fail
    refine (HAw.out _).mono ?_
    rintro e w' ⟨rfl, a6, rfl⟩
    go_wp2
    go_ret
    exact ⟨rfl, _, rfl⟩
end Go.Proofs.Ytmbjaadhkhhaeaa
