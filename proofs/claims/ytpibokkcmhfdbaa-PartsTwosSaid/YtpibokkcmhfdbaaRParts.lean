/- Contracts of the reference of layer 2. -/
import Derived.Test.YtpibokkcmhfdbaaParts2
namespace Go.Proofs.Ytpibokkcmhfdbaa
open Go.RowKit Fl Ieee
set_option maxRecDepth 20000
attribute [local go_sem] x_f64frombits
attribute [local go_sem] x_f64bits
attribute [local go_sem] Fl.order_self Fl.order_self' Fl.order_eq Fl.order_ne Fl.order_lt Fl.order_gt Fl.fle_fold Fl.fge_fold Fl.u64_clear Fl.u64_sign Fl.u64_flip Fl.u64_or_sign Fl.u32_clear Fl.negFloat_flip
theorem rsize_c (x : Nat) (hx : x < 18446744073709551616) (w : World) :
    Calls Try.prog 66 #[.float .f64 x] w fun e w' => e = .returned (.float .f64 (rung double x)) ∧ w = w' := by
  go_enter Try.func66, Try.ntmps66
  go_wp2
  go_ret; exact ⟨ret_float (by simp), rfl⟩
theorem rturned_c (x : Nat) (hx : x < 18446744073709551616) (w : World) :
    Calls Try.prog 67 #[.float .f64 x] w fun e w' => e = .returned (.float .f64 (flip double x)) ∧ w = w' := by
  go_enter Try.func67, Try.ntmps67
  go_wp2
  go_ret; exact ⟨ret_float (by simp), rfl⟩
theorem rSame_c (a b c d : Nat) (w : World) :
    Calls Try.prog 21 #[.complex .f64 a b, .complex .f64 c d] w fun e w' => e = .returned (.bool (pSame (cn .f64 a, cn .f64 b) (cn .f64 c, cn .f64 d))) ∧ w = w' := by
  unfold pSame
  cases hd : decide (cn .f64 a = cn .f64 c)
  · go_enter Try.func21, Try.ntmps21
    go_wp2_with (go_at_call 13; refine (r2SameReal_c _ _ _).mono ?_; rintro e w' ⟨rfl, rfl⟩)
    go_ret; exact ⟨ret_bool (by rfl), rfl⟩
  · go_enter Try.func21, Try.ntmps21
    go_wp2_with (go_at_call 13; refine (r2SameReal_c _ _ _).mono ?_; rintro e w' ⟨rfl, rfl⟩)
    go_ret; exact ⟨ret_bool (by rfl), rfl⟩
theorem rSame_t {a b c d : Nat} {v : C} (h : (cn .f64 a, cn .f64 b) = v) (h' : (cn .f64 c, cn .f64 d) = v) (w : World) :
    Calls Try.prog 21 #[.complex .f64 a b, .complex .f64 c d] w fun e w' => e = .returned (.bool true) ∧ w = w' := by
  have := rSame_c a b c d w
  rw [h, h'] at this
  have e : pSame v v = true := by simp [pSame]
  rw [e] at this; exact this
theorem rEqual_c (a b c d : Nat) (w : World) :
    Calls Try.prog 23 #[.complex .f64 a b, .complex .f64 c d] w fun e w' => e = .returned (.bool (pEqual (cn .f64 a, cn .f64 b) (cn .f64 c, cn .f64 d))) ∧ w = w' := by
  unfold pEqual
  rw [feq_cn, feq_cn]
  cases hd : feq .f64 a c
  · go_enter Try.func23, Try.ntmps23
    go_wp2
    go_ret; exact ⟨ret_bool (by rfl), rfl⟩
  · go_enter Try.func23, Try.ntmps23
    go_wp2
    go_ret; exact ⟨ret_bool (by rfl), rfl⟩
theorem rZero_c (a b : Nat) (w : World) :
    Calls Try.prog 26 #[.complex .f64 a b] w fun e w' => e = .returned (.bool (pZero (cn .f64 a, cn .f64 b))) ∧ w = w' := by
  rw [pZero_cn]
  cases hd : feq .f64 a 0
  · go_enter Try.func26, Try.ntmps26
    go_wp2
    go_ret; exact ⟨ret_bool (by rfl), rfl⟩
  · go_enter Try.func26, Try.ntmps26
    go_wp2
    go_ret; exact ⟨ret_bool (by rfl), rfl⟩
theorem rFiniteReal_c (a : Nat) (ha : a < 18446744073709551616) (w : World) :
    Calls Try.prog 64 #[.float .f64 a] w (RetB (isFin double a) w) := by
  go_enter Try.func64, Try.ntmps64
  go_wp2_with fail
  refine upon_sub _ _ _ _ ?_
  intro r1 n1 h1
  have f1 : feq .f64 r1 0 = isFin double a := fin_of_sub ha h1
  go_wp2
  go_ret; exact closeB rfl
theorem rFinite_c (a b : Nat) (ha : a < 18446744073709551616) (hb : b < 18446744073709551616) (w : World) :
    Calls Try.prog 24 #[.complex .f64 a b] w (RetB (pFinite (cn .f64 a, cn .f64 b)) w) := by
  have e : pFinite (cn .f64 a, cn .f64 b) = (isFin double a && isFin double b) := by
    unfold pFinite
    have h1 := isFin_cn .f64 a
    have h2 := isFin_cn .f64 b
    exact congr (congrArg and h1) h2
  rw [e]; clear e
  cases hd : isFin double a
  · go_enter Try.func24, Try.ntmps24
    go_wp2_with (go_at_call 64; refine (rFiniteReal_c _ (by assumption) _).mono ?_; rintro e w' ⟨n, rfl, rfl⟩)
    go_ret; exact closeB rfl
  · go_enter Try.func24, Try.ntmps24
    go_wp2_with (go_at_call 64; refine (rFiniteReal_c _ (by assumption) _).mono ?_; rintro e w' ⟨n, rfl, rfl⟩)
    go_ret; exact closeB rfl
theorem rNeg_c (p q : Nat) (hp : p < 18446744073709551616) (hq : q < 18446744073709551616) (w : World) :
    Calls Try.prog 39 #[.complex .f64 p q] w fun e w' => e = .returned (.complex .f64 (flip double p) (flip double q)) ∧ w = w' := by
  go_enter Try.func39, Try.ntmps39
  go_wp2_with (first | (go_at_call 67; refine (rturned_c _ (by assumption) _).mono ?_; rintro e w' ⟨rfl, rfl⟩) | go_in)
  go_ret; exact ⟨rfl, rfl⟩
theorem rConj_c (p q : Nat) (hq : q < 18446744073709551616) (w : World) :
    Calls Try.prog 40 #[.complex .f64 p q] w fun e w' => e = .returned (.complex .f64 p (flip double q)) ∧ w = w' := by
  go_enter Try.func40, Try.ntmps40
  go_wp2_with (first | (go_at_call 67; refine (rturned_c _ (by assumption) _).mono ?_; rintro e w' ⟨rfl, rfl⟩) | go_in)
  go_ret; exact ⟨rfl, rfl⟩
theorem rSize1_c (p q : Nat) (hp : p < 18446744073709551616) (hq : q < 18446744073709551616) (w : World) :
    Calls Try.prog 44 #[.complex .f64 p q] w (RetR (pSize1 (cn .f64 p, cn .f64 q)) w) := by
  go_enter Try.func44, Try.ntmps44
  go_wp2_with (go_at_call 66; refine (rsize_c _ (by assumption) _).mono ?_; rintro e w' ⟨rfl, rfl⟩)
  refine upon_add _ _ _ _ ?_
  intro r1 n1 h1
  go_wp2
  go_ret; exact closeR (by rw [h1.1, cn_rung, cn_rung]; rfl) h1.2
theorem rSize2_c (p q : Nat) (w : World) :
    Calls Try.prog 46 #[.complex .f64 p q] w (RetR (pSize2 (cn .f64 p, cn .f64 q)) w) := by
  go_enter Try.func46, Try.ntmps46
  go_wp2_with fail
  refine upon_mul _ _ _ _ ?_
  intro r1 n1 h1
  go_wp2_with fail
  refine upon_mul _ _ _ _ ?_
  intro r2 n2 h2
  go_wp2_with fail
  refine upon_add _ _ _ _ ?_
  intro r3 n3 h3
  go_wp2
  go_ret; exact closeR (by rw [h3.1, h1.1, h2.1]; rfl) h3.2
theorem rDiv_c (p q c d : Nat) (hc : c < 18446744073709551616) (hd : d < 18446744073709551616) (w : World) :
    Calls Try.prog 35 #[.complex .f64 p q, .complex .f64 c d] w (RetC (pDiv (cn .f64 p, cn .f64 q) (cn .f64 c, cn .f64 d)) w) := by
  have hf : fle .f64 (fabs (cn .f64 d)) (fabs (cn .f64 c)) = fle .f64 (rung double d) (rung double c) := by
    rw [← cn_rung, ← cn_rung, fle_cn]
  cases hg : fle .f64 (rung double d) (rung double c)
  · have hv : pDiv (cn .f64 p, cn .f64 q) (cn .f64 c, cn .f64 d) =
        (let r := fdiv (cn .f64 c) (cn .f64 d)
         let t := fadd (fmul (cn .f64 c) r) (cn .f64 d)
         (fdiv (fadd (fmul (cn .f64 p) r) (cn .f64 q)) t, fdiv (fsub (fmul (cn .f64 q) r) (cn .f64 p)) t)) := by
      unfold pDiv; rw [hf, hg]; rfl
    rw [hv]; clear hv hf
    go_enter Try.func35, Try.ntmps35
    go_wp2_with (go_at_call 66; refine (rsize_c _ (by assumption) _).mono ?_; rintro e w' ⟨rfl, rfl⟩)
    refine upon_quo _ _ _ _ ?_
    intro r1 n1 h1
    go_wp2_with fail
    refine upon_mul _ _ _ _ ?_
    intro r2 n2 h2
    go_wp2_with fail
    refine upon_add _ _ _ _ ?_
    intro r3 n3 h3
    go_wp2_with fail
    refine upon_mul _ _ _ _ ?_
    intro r4 n4 h4
    go_wp2_with fail
    refine upon_mul _ _ _ _ ?_
    intro r6 n6 h6
    go_wp2_with fail
    refine upon_add _ _ _ _ ?_
    intro r5 n5 h5
    go_wp2_with fail
    refine upon_sub _ _ _ _ ?_
    intro r7 n7 h7
    go_wp2_with fail
    refine upon_quo _ _ _ _ ?_
    intro r8 n8 h8
    go_wp2_with fail
    refine upon_quo _ _ _ _ ?_
    intro r9 n9 h9
    go_wp2_with go_in
    go_ret; exact closeC (by rw [h8.1, h5.1, h4.1, h3.1, h2.1, h1.1]) (by rw [h9.1, h7.1, h6.1, h3.1, h2.1, h1.1]) h8.2 h9.2
  · have hv : pDiv (cn .f64 p, cn .f64 q) (cn .f64 c, cn .f64 d) =
        (let r := fdiv (cn .f64 d) (cn .f64 c)
         let t := fadd (cn .f64 c) (fmul (cn .f64 d) r)
         (fdiv (fadd (cn .f64 p) (fmul (cn .f64 q) r)) t, fdiv (fsub (cn .f64 q) (fmul (cn .f64 p) r)) t)) := by
      unfold pDiv; rw [hf, hg]; rfl
    rw [hv]; clear hv hf
    go_enter Try.func35, Try.ntmps35
    go_wp2_with (go_at_call 66; refine (rsize_c _ (by assumption) _).mono ?_; rintro e w' ⟨rfl, rfl⟩)
    refine upon_quo _ _ _ _ ?_
    intro r1 n1 h1
    go_wp2_with fail
    refine upon_mul _ _ _ _ ?_
    intro r2 n2 h2
    go_wp2_with fail
    refine upon_add _ _ _ _ ?_
    intro r3 n3 h3
    go_wp2_with fail
    refine upon_mul _ _ _ _ ?_
    intro r4 n4 h4
    go_wp2_with fail
    refine upon_mul _ _ _ _ ?_
    intro r6 n6 h6
    go_wp2_with fail
    refine upon_add _ _ _ _ ?_
    intro r5 n5 h5
    go_wp2_with fail
    refine upon_sub _ _ _ _ ?_
    intro r7 n7 h7
    go_wp2_with fail
    refine upon_quo _ _ _ _ ?_
    intro r8 n8 h8
    go_wp2_with fail
    refine upon_quo _ _ _ _ ?_
    intro r9 n9 h9
    go_wp2_with go_in
    go_ret; exact closeC (by rw [h8.1, h5.1, h4.1, h3.1, h2.1, h1.1]) (by rw [h9.1, h7.1, h6.1, h3.1, h2.1, h1.1]) h8.2 h9.2
theorem rInv_c (p q : Nat) (hp : p < 18446744073709551616) (hq : q < 18446744073709551616) (w : World) :
    Calls Try.prog 41 #[.complex .f64 p q] w (RetC (pInv (cn .f64 p, cn .f64 q)) w) := by
  have h0 : cn .f64 0 = 0 := cn_of_not (isNaN_zero .f64)
  have h1 : cn .f64 4607182418800017408 = fone := by decide
  have hv : pInv (cn .f64 p, cn .f64 q) = pDiv (cn .f64 4607182418800017408, cn .f64 0) (cn .f64 p, cn .f64 q) := by rw [h0, h1]; rfl
  rw [hv]; clear hv h0 h1
  go_enter Try.func41, Try.ntmps41
  go_wp2_with (first
    | (go_at_call 35; refine (rDiv_c _ _ _ _ hp hq _).mono ?_; rintro e w' ⟨x, y, n, rfl, hv, hx, hy, rfl⟩; have HV : Hid _ := hv; clear hv)
    | go_in)
  go_ret; exact ⟨_, _, _, rfl, by assumption, by assumption, by assumption, rfl⟩
theorem feq_inf (x : Nat) : feq .f64 (rung double x) 9218868437227405312 = isInf double x := by
  have h1 : isNaN double 9218868437227405312 = false := by decide
  have h2 : key double 9218868437227405312 = 9218868437227405312 := by decide
  have h3 : double.infRung = 9218868437227405312 := by decide
  have e := feq_def .f64 (rung double x) 9218868437227405312
  rw [e]
  show (!isNaN double (rung double x) && !isNaN double 9218868437227405312 && decide (key double (rung double x) = key double 9218868437227405312)) = isInf double x
  rw [h1, h2, key_rung]
  unfold isNaN isInf
  rw [rung_rung, h3, Bool.eq_iff_iff]
  simp; omega
theorem rinfinite_c (x : Nat) (hx : x < 18446744073709551616) (w : World) :
    Calls Try.prog 68 #[.float .f64 x] w fun e w' => e = .returned (.bool (isInf double x)) ∧ w = w' := by
  have hi := feq_inf x
  go_enter Try.func68, Try.ntmps68
  go_wp2_with (first
    | (go_at_call 66; refine (rsize_c _ (by assumption) _).mono ?_; rintro e w' ⟨rfl, rfl⟩)
    | (go_at_call 49; refine (mInf_c _).mono ?_; rintro e w' ⟨rfl, rfl⟩))
  go_ret; exact ⟨rfl, rfl⟩
theorem isInf_rung64 (x : Nat) : isInf double (rung double x) = isInf double x := isInf_rung double x
theorem isNaN_rung64 (x : Nat) : isNaN FloatKind.f64.format (rung double x) = isNaN double x := isNaN_rung double x
theorem rAbs_c (p q : Nat) (hp : p < 18446744073709551616) (hq : q < 18446744073709551616) (w : World) :
    Calls Try.prog 47 #[.complex .f64 p q] w (RetR (pAbs (cn .f64 p, cn .f64 q)) w) := by
  have hv := abs_core _ p q rfl
  have r1 := rung_lt64' p
  have r2 := rung_lt64' q
  have s1 := isInf_rung64 p
  have s2 := isInf_rung64 q
  have t1 := isNaN_rung64 p
  have t2 := isNaN_rung64 q
  obtain ⟨v, ev⟩ : ∃ v, v = pAbs (cn .f64 p, cn .f64 q) := ⟨_, rfl⟩
  rw [← ev] at hv ⊢
  have HV : Hid _ := hv
  clear hv ev
  have k1 := feq_rung0 p
  have k2 := feq_rung0 q
  by_cases hi : (isInf double p || isInf double q) = true
  · have e : v = finf := by rw [HV.out, if_pos hi]
    have ei : cn .f64 9218868437227405312 = v := by rw [e]; decide
    clear HV e k1 k2
    have EI : Hid _ := ei
    clear ei
    have hi' : (isInf double p = true) ∨ (isInf double p = false ∧ isInf double q = true) := by
      cases h : isInf double p
      · rw [h] at hi; exact .inr ⟨rfl, by simpa using hi⟩
      · exact .inl rfl
    clear hi
    rcases hi' with h1 | ⟨h1, h2⟩
    all_goals
      go_enter Try.func47, Try.ntmps47
      go_wp2_with (first
        | (go_at_call 66; refine (rsize_c _ (by assumption) _).mono ?_; rintro e w' ⟨rfl, rfl⟩)
        | (go_at_call 68; refine (rinfinite_c _ (by assumption) _).mono ?_; rintro e w' ⟨rfl, rfl⟩)
        | (go_at_call 49; refine (mInf_c _).mono ?_; rintro e w' ⟨rfl, rfl⟩))
      go_ret; exact closeR0 EI.out (by omega)
  · have ⟨h1, h2⟩ : isInf double p = false ∧ isInf double q = false := by simpa using hi
    have HV1 : Hid (v = if isNaN double p || isNaN double q then qn .f64
      else if rung double p = 0 ∧ rung double q = 0 then 0
      else if flt .f64 (rung double p) (rung double q) then absOf (rung double q) (rung double p) else absOf (rung double p) (rung double q)) := by
      have := HV.out; rw [if_neg hi] at this; exact this
    clear HV hi
    by_cases hz : (feq .f64 (rung double p) 0 && feq .f64 (rung double q) 0) = true
    · have ⟨z1, z2⟩ : feq .f64 (rung double p) 0 = true ∧ feq .f64 (rung double q) 0 = true := by simpa using hz
      have ev : cn .f64 0 = v := by
        rw [HV1.out]
        rw [k1] at z1; rw [k2] at z2
        simp only [Bool.and_eq_true, Bool.not_eq_true', decide_eq_true_eq] at z1 z2
        rw [if_neg (by simp [z1.1, z2.1]), if_pos ⟨z1.2, z2.2⟩]
        decide
      clear HV1 k1 k2 hz
      have EV : Hid _ := ev
      clear ev
      go_enter Try.func47, Try.ntmps47
      go_wp2_with (first
        | (go_at_call 66; refine (rsize_c _ (by assumption) _).mono ?_; rintro e w' ⟨rfl, rfl⟩)
        | (go_at_call 68; refine (rinfinite_c _ (by assumption) _).mono ?_; rintro e w' ⟨rfl, rfl⟩))
      go_ret; exact closeR0 EV.out (by omega)
    · have hz0 : (feq .f64 (rung double p) 0 && feq .f64 (rung double q) 0) = false := Bool.eq_false_iff.2 hz
      have zz : (feq .f64 (rung double p) 0 = false) ∨ (feq .f64 (rung double p) 0 = true ∧ feq .f64 (rung double q) 0 = false) := by
        cases h : feq .f64 (rung double p) 0
        · exact .inl rfl
        · refine .inr ⟨rfl, ?_⟩; rw [h] at hz0; simpa using hz0
      by_cases hn : (isNaN double p || isNaN double q) = true
      · have e1 : v = qn .f64 := by rw [HV1.out, if_pos hn]
        have E1 : Hid _ := e1
        clear e1 HV1 k1 k2 hz hz0
        have hn' : (isNaN double p = true) ∨ (isNaN double p = false ∧ isNaN double q = true) := by
          cases h : isNaN double p
          · rw [h] at hn; exact .inr ⟨rfl, by simpa using hn⟩
          · exact .inl rfl
        have hfin : ∀ r, IsOp .add .f64 (rung double p) (rung double q) r → cn .f64 r = qn .f64 := by
          intro r hr
          rw [hr.1, fop_cn]
          rcases hn' with h | ⟨_, h⟩
          · exact fop_nan_l (k := .f64) ((isNaN_rung double p).trans h)
          · exact fop_nan_r (k := .f64) ((isNaN_rung double q).trans h)
        have HF : Hid _ := hfin
        clear hn hfin
        rcases zz with z1 | ⟨z1, z2⟩
        all_goals
          rcases hn' with n1 | ⟨n1, n2⟩
          all_goals
            go_enter Try.func47, Try.ntmps47
            go_wp2_with (first
              | (go_at_call 66; refine (rsize_c _ (by assumption) _).mono ?_; rintro e w' ⟨rfl, rfl⟩)
              | (go_at_call 68; refine (rinfinite_c _ (by assumption) _).mono ?_; rintro e w' ⟨rfl, rfl⟩))
            refine upon_add _ _ _ _ ?_
            intro x1 m1 g1
            go_wp2
            go_ret; exact closeR ((HF.out _ g1).trans E1.out.symm) g1.2
      · have ⟨n1, n2⟩ : isNaN double p = false ∧ isNaN double q = false := by simpa using hn
        have c1 : cn .f64 (rung double p) = rung double p := cn_of_not (k := .f64) ((isNaN_rung double p).trans n1)
        have c2 : cn .f64 (rung double q) = rung double q := cn_of_not (k := .f64) ((isNaN_rung double q).trans n2)
        have key : v = if flt .f64 (rung double p) (rung double q) then absOf (cn .f64 (rung double q)) (cn .f64 (rung double p)) else absOf (cn .f64 (rung double p)) (cn .f64 (rung double q)) := by
          rw [HV1.out, if_neg hn, c1, c2, if_neg]
          intro h
          rw [k1, k2, n1, n2, h.1, h.2] at hz0
          simp at hz0
        clear HV1 k1 k2 hz hz0 hn c1 c2
        cases hs : flt .f64 (rung double p) (rung double q)
        all_goals
          rw [hs] at key
          have KEY : Hid _ := key
          clear key
          rcases zz with z1 | ⟨z1, z2⟩
          all_goals
            go_enter Try.func47, Try.ntmps47
            go_wp2_with (first
              | (go_at_call 66; refine (rsize_c _ (by assumption) _).mono ?_; rintro e w' ⟨rfl, rfl⟩)
              | (go_at_call 68; refine (rinfinite_c _ (by assumption) _).mono ?_; rintro e w' ⟨rfl, rfl⟩))
            refine upon_quo _ _ _ _ ?_
            intro x1 n1 g1
            go_wp2_with fail
            refine upon_mul _ _ _ _ ?_
            intro x2 n2 g2
            go_wp2_with fail
            refine upon_add _ _ _ _ ?_
            intro x3 n3 g3
            go_wp2_with fail
            refine (mSqrt_c _ _).mono ?_
            rintro e w' ⟨x4, n4, rfl, g4, l4, rfl⟩
            have G4 : Hid _ := g4
            clear g4
            go_wp2_with fail
            refine upon_mul _ _ _ _ ?_
            intro x5 n5 g5
            go_wp2
            go_ret; exact closeR ((absOf_cn _ _ _ _ _ _ _ g1 g2 g3 G4.out g5).trans KEY.out.symm) g5.2
theorem shr63 (q : Nat) (hq : q < 18446744073709551616) : ((q : Int) / 9223372036854775808 == 1) = sgn double q := by
  unfold sgn; rw [sw64, Bool.eq_iff_iff]; simp; omega
theorem sgn_of_lt0 {p : Nat} (h : fle .f64 0 p = false) (hn : isNaN double p = false) : sgn double p = true := by
  have h1 := fle_def .f64 0 p
  rw [h] at h1
  have h2 : isNaN FloatKind.f64.format 0 = false := isNaN_zero .f64
  have h3 : isNaN FloatKind.f64.format p = false := hn
  rw [h2, h3, key_zero] at h1
  simp only [Bool.not_false, Bool.true_and] at h1
  have h4 : ¬ (0 ≤ key FloatKind.f64.format p) := by simpa using h1.symm
  have h5 : ¬ (0 ≤ key double p) := h4
  unfold key at h5
  cases hs : sgn double p
  · rw [hs] at h5; simp at h5
  · rfl
theorem rSqrt_c (p q : Nat) (hp : p < 18446744073709551616) (hq : q < 18446744073709551616) (w : World) :
    Calls Try.prog 48 #[.complex .f64 p q] w (RetC (pSqrt (cn .f64 p, cn .f64 q)) w) := by
  obtain ⟨v, ev⟩ : ∃ v, v = pSqrt (cn .f64 p, cn .f64 q) := ⟨_, rfl⟩
  rw [← ev]
  unfold pSqrt at ev
  rw [isNaN_cn64, isNaN_cn64, pZero_cn, fle_cn0] at ev
  by_cases hn : (isNaN double p || isNaN double q) = true
  · have e1 : v = (qn .f64, qn .f64) := by rw [ev, if_pos hn]
    have c1 : cn .f64 9221120237041090561 = v.1 := by rw [e1]; decide
    have c2 : cn .f64 9221120237041090561 = v.2 := by rw [e1]; decide
    have C1 : Hid _ := c1
    have C2 : Hid _ := c2
    clear c1 c2 e1 ev
    have hn' : (isNaN FloatKind.f64.format p = true) ∨ (isNaN FloatKind.f64.format p = false ∧ isNaN FloatKind.f64.format q = true) := by
      show (isNaN double p = true) ∨ (isNaN double p = false ∧ isNaN double q = true)
      cases h : isNaN double p
      · rw [h] at hn; exact .inr ⟨rfl, by simpa using hn⟩
      · exact .inl rfl
    clear hn
    rcases hn' with n1 | ⟨n1, n2⟩
    all_goals
      go_enter Try.func48, Try.ntmps48
      go_wp2_with (first | (go_at_call 50; refine (mNaN_c _).mono ?_; rintro e w' ⟨rfl, rfl⟩) | go_in)
      go_ret; exact closeC0 C1.out C2.out (by omega) (by omega)
  · have ⟨m1, m2⟩ : isNaN double p = false ∧ isNaN double q = false := by simpa using hn
    have n1 : isNaN FloatKind.f64.format p = false := m1
    have n2 : isNaN FloatKind.f64.format q = false := m2
    have qc : cn .f64 q = q := cn_of_not (k := .f64) m2
    have pc : cn .f64 p = p := cn_of_not (k := .f64) m1
    rw [if_neg hn] at ev
    have hz : pZero (cn .f64 p, cn .f64 q) = (feq .f64 p 0 && feq .f64 q 0) := pZero_cn p q
    cases hzz : (feq .f64 p 0 && feq .f64 q 0)
    · rw [hzz] at ev hz
      rw [if_neg (by simp)] at ev
      clear hzz
      cases hpos : fle .f64 0 p
      · rw [hpos, if_neg (by simp)] at ev
        have EV : Hid _ := ev
        have QC : Hid _ := qc
        have sp := sgn_of_lt0 hpos m1
        have pv : pos (fsqrt (fsub (fdiv (pAbs (cn .f64 p, cn .f64 q)) ftwo) (fdiv (cn .f64 p) ftwo))) := by
          refine pos_sqrt (pos_sub (pos_div (pos_pAbs _) pos_two) (fun h => ?_) (fop_lt .quo .f64 _ _))
          rw [sgn_fop (.inr rfl) h, pc, sp]; decide
        have PV : Hid _ := pv
        have hsh := shr63 q hq
        clear ev qc pc hn m1 m2 sp pv
        cases hsq : sgn double q
        all_goals
          rw [hsq] at hsh
          go_enter Try.func48, Try.ntmps48
          go_wp2_with (first
            | (go_at_call 26; refine (rZero_c _ _ _).mono ?_; rintro e w' ⟨rfl, rfl⟩)
            | (go_at_call 47; refine (rAbs_c _ _ hp hq _).mono ?_; rintro e w' ⟨m, n, rfl, hm, lm, rfl⟩; have HM : Hid _ := hm; clear hm))
          refine upon_quo _ _ _ _ ?_
          intro x1 k1 g1
          go_wp2_with fail
          refine upon_quo _ _ _ _ ?_
          intro r2 n2 h2
          go_wp2_with fail
          refine upon_sub _ _ _ _ ?_
          intro r3 n3 h3
          go_wp2_with fail
          refine (mSqrt_c _ _).mono ?_
          rintro e w' ⟨x4, k4, rfl, g4, l4, rfl⟩
          have G4 : Hid _ := g4
          clear g4
          go_wp2_with fail
          refine upon_mul _ _ _ _ ?_
          intro r5 n5 h5
          go_wp2_with fail
          refine upon_quo _ _ _ _ ?_
          intro r6 n6 h6
          have l6 : r6 < 18446744073709551616 := h6.2
          go_wp2_with (first
            | (go_at_call 66; refine (rsize_c _ l6 _).mono ?_; rintro e w' ⟨rfl, rfl⟩)
            | (go_at_call 67; refine (rturned_c _ l4 _).mono ?_; rintro e w' ⟨rfl, rfl⟩)
            | go_in)
          have e4 : cn .f64 x4 = fsqrt (fsub (fdiv (pAbs (cn .f64 p, cn .f64 q)) ftwo) (fdiv (cn .f64 p) ftwo)) := by
            rw [G4.out, h3.1, g1.1, h2.1, HM.out, cn2]
          have p4 : pos x4 := by
            have := PV.out; rw [← e4] at this
            intro h
            have h' := this ((isNaN_cn64 x4).trans h)
            rwa [cn_of_not (k := .f64) h] at h'
          go_ret
          refine closeC ?_ ?_ (rung_lt64' _) (by first | exact l4 | exact flip_lt64 l4)
          · rw [EV.out, cn_rung, h6.1, h5.1, e4, cn2]
          · rw [EV.out]
            show _ = if isNaN double (fsqrt (fsub (fdiv (pAbs (cn .f64 p, cn .f64 q)) ftwo) (fdiv (cn .f64 p) ftwo))) = true then qn .f64 else
              double.word (sgn double (cn .f64 q)) (rung double (fsqrt (fsub (fdiv (pAbs (cn .f64 p, cn .f64 q)) ftwo) (fdiv (cn .f64 p) ftwo))))
            rw [← e4, isNaN_cn64, QC.out, hsq]
            by_cases hh : isNaN double x4 = true
            · rw [if_pos hh]
              first
                | exact cn_of_nan (k := .f64) hh
                | exact cn_of_nan (k := .f64) ((isNaN_flip l4).trans hh)
            · have h0 := Bool.eq_false_iff.2 hh
              rw [if_neg hh, cn_of_not (k := .f64) h0]
              have s4 := p4 h0
              first
                | (rw [cn_of_not (k := .f64) ((isNaN_flip l4).trans h0)]
                   have := flip_eq (f := double) (x := x4) l4
                   rw [s4] at this; exact this)
                | (have := word_split (f := double) (x := x4) l4
                   rw [s4] at this; exact this)
      · rw [hpos, if_pos rfl] at ev
        have EV : Hid _ := ev
        clear ev qc pc hn m1 m2
        go_enter Try.func48, Try.ntmps48
        go_wp2_with (first
          | (go_at_call 26; refine (rZero_c _ _ _).mono ?_; rintro e w' ⟨rfl, rfl⟩)
          | (go_at_call 47; refine (rAbs_c _ _ hp hq _).mono ?_; rintro e w' ⟨m, n, rfl, hm, lm, rfl⟩; have HM : Hid _ := hm; clear hm))
        refine upon_quo _ _ _ _ ?_
        intro x1 k1 g1
        go_wp2_with fail
        refine upon_quo _ _ _ _ ?_
        intro r2 n2 h2
        go_wp2_with fail
        refine upon_add _ _ _ _ ?_
        intro r3 n3 h3
        go_wp2_with fail
        refine (mSqrt_c _ _).mono ?_
        rintro e w' ⟨x4, k4, rfl, g4, l4, rfl⟩
        have G4 : Hid _ := g4
        clear g4
        go_wp2_with fail
        refine upon_mul _ _ _ _ ?_
        intro r5 n5 h5
        go_wp2_with fail
        refine upon_quo _ _ _ _ ?_
        intro r6 n6 h6
        go_wp2_with go_in
        have e4 : cn .f64 x4 = fsqrt (fadd (fdiv (pAbs (cn .f64 p, cn .f64 q)) ftwo) (fdiv (cn .f64 p) ftwo)) := by
          rw [G4.out, h3.1, g1.1, h2.1, HM.out, cn2]
        go_ret
        refine closeC ?_ ?_ l4 h6.2
        · rw [EV.out]; exact e4
        · rw [EV.out, h6.1, h5.1, e4, cn2]
    · rw [hzz] at ev hz
      rw [if_pos rfl] at ev
      have EV : Hid _ := ev
      clear ev qc pc hzz hn m1 m2
      go_enter Try.func48, Try.ntmps48
      go_wp2_with (first | (go_at_call 26; refine (rZero_c _ _ _).mono ?_; rintro e w' ⟨rfl, rfl⟩) | go_in)
      go_ret; exact closeC0 (by rw [EV.out]; exact cn0) (by rw [EV.out]) (by omega) hq
end Go.Proofs.Ytpibokkcmhfdbaa
