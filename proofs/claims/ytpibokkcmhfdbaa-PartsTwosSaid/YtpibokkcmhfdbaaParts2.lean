/- Contracts of layer 2, and the reference's, second half: what is asked, sizes, roots. -/
import Derived.Test.YtpibokkcmhfdbaaParts
import Derived.Test.YtpibokkcmhfdbaaFlN
import Derived.Deep.QuietTactic
import Derived.BigQuiet
namespace Go.Proofs.Ytpibokkcmhfdbaa
open Go.RowKit Fl Ieee
set_option maxRecDepth 20000
attribute [local go_sem] x_f64frombits
attribute [local go_sem] x_f64bits
attribute [local go_sem] Fl.order_self Fl.order_self' Fl.order_eq Fl.order_ne Fl.order_lt Fl.order_gt Fl.fle_fold Fl.fge_fold Fl.u64_clear Fl.u64_sign Fl.u64_flip Fl.u64_or_sign Fl.u32_clear Fl.negFloat_flip
def RetNum (a b : Nat) (w : World) (e : Ending) (w' : World) : Prop :=
  ∃ n, e = .returned (.complex .f64 a b) ∧ w' = (w.alloc (.cells #[.int .u64 a, .int .u64 b] 24)).drewN n
theorem Number_c (a b : Nat) (w : World) :
    Calls Try.prog 10 #[.agg #[.int .u64 a, .int .u64 b]] w (RetNum a b w) := by
  go_enter Try.func10, Try.ntmps10
  go_wp2
  go_quiet (fail)
  go_wp2
  go_ret; exact ⟨_, rfl, rfl⟩
theorem Equal_c (a b c d : Nat) (w : World) :
    Calls Try.prog 22 #[.complex .f64 a b, .complex .f64 c d] w fun e w' => e = .returned (.bool (pEqual (cn .f64 a, cn .f64 b) (cn .f64 c, cn .f64 d))) ∧ w = w' := by
  unfold pEqual
  rw [feq_cn, feq_cn]
  cases hd : feq .f64 a c
  · go_enter Try.func22, Try.ntmps22
    go_wp2
    go_ret; exact ⟨ret_bool (by rfl), rfl⟩
  · go_enter Try.func22, Try.ntmps22
    go_wp2
    go_ret; exact ⟨ret_bool (by rfl), rfl⟩
theorem Zero_c (a b : Nat) (w : World) :
    Calls Try.prog 25 #[.complex .f64 a b] w fun e w' => e = .returned (.bool (pZero (cn .f64 a, cn .f64 b))) ∧ w = w' := by
  have e : pZero (cn .f64 a, cn .f64 b) = (feq .f64 a 0 && feq .f64 b 0) := by
    unfold pZero
    have h1 := feq_cn .f64 a 0
    have h2 := feq_cn .f64 b 0
    have h0 : cn .f64 0 = 0 := cn_of_not (isNaN_zero .f64)
    rw [h0] at h1 h2
    rw [h1, h2]
  rw [e]; clear e
  cases hd : feq .f64 a 0
  · go_enter Try.func25, Try.ntmps25
    go_wp2
    go_ret; exact ⟨ret_bool (by rfl), rfl⟩
  · go_enter Try.func25, Try.ntmps25
    go_wp2
    go_ret; exact ⟨ret_bool (by rfl), rfl⟩
theorem feq_cn0 (r : Nat) : feq .f64 r 0 = feq .f64 (cn .f64 r) 0 := by
  have h1 := feq_cn .f64 r 0
  have h0 : cn .f64 0 = 0 := cn_of_not (isNaN_zero .f64)
  rw [h0] at h1; exact h1.symm
theorem isNaN_cn64 (x : Nat) : isNaN double (cn .f64 x) = isNaN double x := isNaN_cn .f64 x
theorem pZero_cn (a b : Nat) : pZero (cn .f64 a, cn .f64 b) = (feq .f64 a 0 && feq .f64 b 0) := by
  unfold pZero
  rw [← feq_cn0, ← feq_cn0]
theorem cn0 : cn .f64 0 = 0 := cn_of_not (isNaN_zero .f64)
theorem cn2 : cn .f64 4611686018427387904 = ftwo := by decide
theorem fle_cn0 (r : Nat) : fle .f64 0 (cn .f64 r) = fle .f64 0 r := by
  have h1 := fle_cn .f64 0 r
  rw [cn0] at h1; exact h1
theorem fin_of_sub {a r : Nat} (ha : a < 18446744073709551616) (h : IsOp .sub .f64 a a r) : feq .f64 r 0 = isFin double a := by
  rw [feq_cn0, h.1, fop_cn, sub_self_eq a ha]
theorem Finite_c (a b : Nat) (ha : a < 18446744073709551616) (hb : b < 18446744073709551616) (w : World) :
    Calls Try.prog 19 #[.complex .f64 a b] w (RetB (pFinite (cn .f64 a, cn .f64 b)) w) := by
  have e : pFinite (cn .f64 a, cn .f64 b) = (isFin double a && isFin double b) := by
    unfold pFinite
    have h1 := isFin_cn .f64 a
    have h2 := isFin_cn .f64 b
    exact congr (congrArg and h1) h2
  rw [e]; clear e
  cases hd : isFin double a
  · go_enter Try.func19, Try.ntmps19
    go_wp2_with fail
    refine upon_sub _ _ _ _ ?_
    intro r1 n1 h1
    have f1 : feq .f64 r1 0 = false := (fin_of_sub ha h1).trans hd
    go_wp2
    go_ret; exact closeB rfl
  · go_enter Try.func19, Try.ntmps19
    go_wp2_with fail
    refine upon_sub _ _ _ _ ?_
    intro r1 n1 h1
    have f1 : feq .f64 r1 0 = true := (fin_of_sub ha h1).trans hd
    go_wp2_with fail
    refine upon_sub _ _ _ _ ?_
    intro r2 n2 h2
    have f2 : feq .f64 r2 0 = isFin double b := fin_of_sub hb h2
    go_wp2
    go_ret; exact closeB rfl
theorem Inv_c (p q : Nat) (hp : p < 18446744073709551616) (hq : q < 18446744073709551616) (w : World) :
    Calls Try.prog 36 #[.complex .f64 p q] w (RetC (pInv (cn .f64 p, cn .f64 q)) w) := by
  have h0 : cn .f64 0 = 0 := cn_of_not (isNaN_zero .f64)
  have h1 : cn .f64 4607182418800017408 = fone := by decide
  have hv : pInv (cn .f64 p, cn .f64 q) = pDiv (cn .f64 4607182418800017408, cn .f64 0) (cn .f64 p, cn .f64 q) := by rw [h0, h1]; rfl
  rw [hv]; clear hv h0 h1
  go_enter Try.func36, Try.ntmps36
  go_wp2_with fail
  refine (Div_c _ _ _ _ hp hq _).mono ?_
  rintro e w' ⟨x, y, n, rfl, hv, hx, hy, rfl⟩
  have HV : Hid _ := hv
  clear hv
  go_wp2
  go_ret; exact ⟨_, _, _, rfl, HV.out, hx, hy, rfl⟩
theorem abs_core (z : C) (a b : Nat) (h : z = (cn .f64 a, cn .f64 b)) : pAbs z =
    if isInf double a || isInf double b then finf
    else if isNaN double a || isNaN double b then qn .f64
    else if rung double a = 0 ∧ rung double b = 0 then 0
    else if flt .f64 (rung double a) (rung double b) then absOf (rung double b) (rung double a) else absOf (rung double a) (rung double b) := by
  subst h
  have i1 : isInf double (cn .f64 a) = isInf double a := isInf_cn .f64 a
  have i2 : isInf double (cn .f64 b) = isInf double b := isInf_cn .f64 b
  have n1 : isNaN double (cn .f64 a) = isNaN double a := isNaN_cn .f64 a
  have n2 : isNaN double (cn .f64 b) = isNaN double b := isNaN_cn .f64 b
  unfold pAbs
  simp only [i1, i2, n1, n2]
  split
  · rfl
  · split
    · rfl
    · rename_i hn
      have h1 : isNaN double a = false := by
        cases h : isNaN double a
        · rfl
        · exact absurd (by simp [h]) hn
      have h2 : isNaN double b = false := by
        cases h : isNaN double b
        · rfl
        · exact absurd (by simp [h]) hn
      have e1 : fabs (cn .f64 a) = rung double a := by
        rw [fabs_cn]; exact cn_of_not (k := .f64) ((isNaN_rung double a).trans h1)
      have e2 : fabs (cn .f64 b) = rung double b := by
        rw [fabs_cn]; exact cn_of_not (k := .f64) ((isNaN_rung double b).trans h2)
      rw [e1, e2]
theorem feq_rung0 (a : Nat) : feq .f64 (rung double a) 0 = (!isNaN double a && decide (rung double a = 0)) := by
  have h := feq_zero .f64 (rung double a)
  have e1 : isNaN FloatKind.f64.format (rung double a) = isNaN double a := isNaN_rung double a
  have e2 : rung FloatKind.f64.format (rung double a) = rung double a := rung_rung double a
  rw [e1, e2] at h; exact h
/-- What the walk of a size comes to behind the exchange. -/
theorem absOf_cn (g l r1 r2 r3 r4 r5 : Nat) (h1 : IsOp .quo .f64 l g r1) (h2 : IsOp .mul .f64 r1 r1 r2) (h3 : IsOp .add .f64 4607182418800017408 r2 r3) (h4 : cn .f64 r4 = fsqrt (cn .f64 r3)) (h5 : IsOp .mul .f64 g r4 r5) :
    cn .f64 r5 = absOf (cn .f64 g) (cn .f64 l) := by
  have ho : cn .f64 4607182418800017408 = fone := by decide
  rw [h5.1, h4, h3.1, h2.1, h1.1, ho]; rfl
theorem Abs_c (p q : Nat) (hp : p < 18446744073709551616) (hq : q < 18446744073709551616) (w : World) :
    Calls Try.prog 14 #[.complex .f64 p q] w (RetR (pAbs (cn .f64 p, cn .f64 q)) w) := by
  have hv := abs_core _ p q rfl
  have r1 := rung_lt64' p
  have r2 := rung_lt64' q
  obtain ⟨v, ev⟩ : ∃ v, v = pAbs (cn .f64 p, cn .f64 q) := ⟨_, rfl⟩
  rw [← ev] at hv ⊢
  have HV : Hid _ := hv
  clear hv ev
  have k1 := feq_rung0 p
  have k2 := feq_rung0 q
  have tail : ∀ (g l : Nat) (W : World) (v : Nat), v = absOf (cn .f64 g) (cn .f64 l) → True := fun _ _ _ _ _ => trivial
  by_cases hi : (isInf double p || isInf double q) = true
  · -- an infinity
    have e : v = finf := by rw [HV.out, if_pos hi]
    have ei : cn .f64 9218868437227405312 = v := by rw [e]; decide
    clear HV e k1 k2 tail
    have EI : Hid _ := ei
    clear ei
    cases h1 : isInf double p
    · have h2 : isInf double q = true := by rw [h1] at hi; simpa using hi
      clear hi
      cases hs : flt .f64 (rung double p) (rung double q)
      all_goals
        go_enter Try.func14, Try.ntmps14
        go_wp2_with (first
          | (go_at_call 60; refine (size_c _ (by assumption) _).mono ?_; rintro e w' ⟨rfl, rfl⟩)
          | (go_at_call 61; refine (mIsInf_c _ (by assumption) _).mono ?_; rintro e w' ⟨rfl, rfl⟩)
          | (go_at_call 49; refine (mInf_c _).mono ?_; rintro e w' ⟨rfl, rfl⟩))
        go_ret; exact closeR0 EI.out (by omega)
    · clear hi
      cases hs : flt .f64 (rung double p) (rung double q)
      all_goals
        go_enter Try.func14, Try.ntmps14
        go_wp2_with (first
          | (go_at_call 60; refine (size_c _ (by assumption) _).mono ?_; rintro e w' ⟨rfl, rfl⟩)
          | (go_at_call 61; refine (mIsInf_c _ (by assumption) _).mono ?_; rintro e w' ⟨rfl, rfl⟩)
          | (go_at_call 49; refine (mInf_c _).mono ?_; rintro e w' ⟨rfl, rfl⟩))
        go_ret; exact closeR0 EI.out (by omega)
  · have h1 : isInf double p = false := by
      cases h : isInf double p
      · rfl
      · exact absurd (by simp [h]) hi
    have h2 : isInf double q = false := by
      cases h : isInf double q
      · rfl
      · exact absurd (by simp [h]) hi
    have HV1 : Hid (v = if isNaN double p || isNaN double q then qn .f64
      else if rung double p = 0 ∧ rung double q = 0 then 0
      else if flt .f64 (rung double p) (rung double q) then absOf (rung double q) (rung double p) else absOf (rung double p) (rung double q)) := by
      have := HV.out; rw [if_neg hi] at this; exact this
    clear HV hi tail
    by_cases hz : (feq .f64 (rung double p) 0 && feq .f64 (rung double q) 0) = true
    · -- both are noughts
      have ⟨z1, z2⟩ : feq .f64 (rung double p) 0 = true ∧ feq .f64 (rung double q) 0 = true := by simpa using hz
      have ev : cn .f64 0 = v := by
        rw [HV1.out]
        rw [k1] at z1; rw [k2] at z2
        simp only [Bool.and_eq_true, Bool.not_eq_true', decide_eq_true_eq] at z1 z2
        rw [if_neg (by simp [z1.1, z2.1]), if_pos ⟨z1.2, z2.2⟩]
        decide
      have s0 : flt .f64 (rung double p) (rung double q) = false := by
        have h := flt_def .f64 (rung double p) (rung double q)
        rw [k1] at z1; rw [k2] at z2
        simp only [Bool.and_eq_true, Bool.not_eq_true', decide_eq_true_eq] at z1 z2
        rw [z1.2, z2.2]; decide
      clear HV1 k1 k2 hz
      have EV : Hid _ := ev
      clear ev
      go_enter Try.func14, Try.ntmps14
      go_wp2_with (first
        | (go_at_call 60; refine (size_c _ (by assumption) _).mono ?_; rintro e w' ⟨rfl, rfl⟩)
        | (go_at_call 61; refine (mIsInf_c _ (by assumption) _).mono ?_; rintro e w' ⟨rfl, rfl⟩))
      go_ret; exact closeR0 EV.out (by omega)
    · have hz0 : (feq .f64 (rung double p) 0 && feq .f64 (rung double q) 0) = false := Bool.eq_false_iff.2 hz
      have key : v = if flt .f64 (rung double p) (rung double q) then absOf (cn .f64 (rung double q)) (cn .f64 (rung double p)) else absOf (cn .f64 (rung double p)) (cn .f64 (rung double q)) := by
        rw [HV1.out]
        by_cases hn : (isNaN double p || isNaN double q) = true
        · rw [if_pos hn]
          have hn' : isNaN double (cn .f64 (rung double p)) = true ∨ isNaN double (cn .f64 (rung double q)) = true := by
            have a1 : isNaN double (cn .f64 (rung double p)) = isNaN double p := (isNaN_cn .f64 _).trans (isNaN_rung double p)
            have a2 : isNaN double (cn .f64 (rung double q)) = isNaN double q := (isNaN_cn .f64 _).trans (isNaN_rung double q)
            rw [a1, a2]
            cases h : isNaN double p
            · right; rw [h] at hn; simpa using hn
            · left; rfl
          split
          · rw [absOf_nan hn'.symm]
          · rw [absOf_nan hn']
        · rw [if_neg hn]
          have ⟨n1, n2⟩ : isNaN double p = false ∧ isNaN double q = false := by simpa using hn
          have c1 : cn .f64 (rung double p) = rung double p := cn_of_not (k := .f64) ((isNaN_rung double p).trans n1)
          have c2 : cn .f64 (rung double q) = rung double q := cn_of_not (k := .f64) ((isNaN_rung double q).trans n2)
          rw [c1, c2]
          rw [if_neg]
          intro h
          rw [k1, k2, n1, n2, h.1, h.2] at hz0
          simp at hz0
      clear HV1 k1 k2 hz
      have zz : (feq .f64 (rung double p) 0 = false) ∨ (feq .f64 (rung double p) 0 = true ∧ feq .f64 (rung double q) 0 = false) := by
        cases h : feq .f64 (rung double p) 0
        · exact .inl rfl
        · refine .inr ⟨rfl, ?_⟩; rw [h] at hz0; simpa using hz0
      clear hz0
      have zz' : (feq .f64 (rung double q) 0 = false) ∨ (feq .f64 (rung double q) 0 = true ∧ feq .f64 (rung double p) 0 = false) := by
        rcases zz with h | ⟨h, h'⟩
        · cases h2 : feq .f64 (rung double q) 0
          · exact .inl rfl
          · exact .inr ⟨rfl, h⟩
        · exact .inl h'
      cases hs : flt .f64 (rung double p) (rung double q)
      · rw [hs] at key
        have KEY : Hid _ := key
        clear key zz'
        rcases zz with z1 | ⟨z1, z2⟩
        all_goals
          go_enter Try.func14, Try.ntmps14
          go_wp2_with (first
            | (go_at_call 60; refine (size_c _ (by assumption) _).mono ?_; rintro e w' ⟨rfl, rfl⟩)
            | (go_at_call 61; refine (mIsInf_c _ (by assumption) _).mono ?_; rintro e w' ⟨rfl, rfl⟩))
          refine upon_quo _ _ _ _ ?_
          intro x1 n1 g1
          go_wp2_with fail
          refine upon_mul _ _ _ _ ?_
          intro x2 n2 g2
          go_wp2_with fail
          refine upon_add _ _ _ _ ?_
          intro x3 n3 g3
          go_wp2_with fail
          refine (mSqrt_c _ _).mono ?_
          rintro e w' ⟨x4, n4, rfl, g4, l4, rfl⟩
          have G4 : Hid _ := g4
          clear g4
          go_wp2_with fail
          refine upon_mul _ _ _ _ ?_
          intro x5 n5 g5
          go_wp2
          go_ret; exact closeR ((absOf_cn _ _ _ _ _ _ _ g1 g2 g3 G4.out g5).trans KEY.out.symm) g5.2
      · rw [hs] at key
        have KEY : Hid _ := key
        clear key zz
        rcases zz' with z1 | ⟨z1, z2⟩
        all_goals
          go_enter Try.func14, Try.ntmps14
          go_wp2_with (first
            | (go_at_call 60; refine (size_c _ (by assumption) _).mono ?_; rintro e w' ⟨rfl, rfl⟩)
            | (go_at_call 61; refine (mIsInf_c _ (by assumption) _).mono ?_; rintro e w' ⟨rfl, rfl⟩))
          refine upon_quo _ _ _ _ ?_
          intro x1 n1 g1
          go_wp2_with fail
          refine upon_mul _ _ _ _ ?_
          intro x2 n2 g2
          go_wp2_with fail
          refine upon_add _ _ _ _ ?_
          intro x3 n3 g3
          go_wp2_with fail
          refine (mSqrt_c _ _).mono ?_
          rintro e w' ⟨x4, n4, rfl, g4, l4, rfl⟩
          have G4 : Hid _ := g4
          clear g4
          go_wp2_with fail
          refine upon_mul _ _ _ _ ?_
          intro x5 n5 g5
          go_wp2
          go_ret; exact closeR ((absOf_cn _ _ _ _ _ _ _ g1 g2 g3 G4.out g5).trans KEY.out.symm) g5.2
theorem Sqrt_c (p q : Nat) (hp : p < 18446744073709551616) (hq : q < 18446744073709551616) (w : World) :
    Calls Try.prog 16 #[.complex .f64 p q] w (RetC (pSqrt (cn .f64 p, cn .f64 q)) w) := by
  obtain ⟨v, ev⟩ : ∃ v, v = pSqrt (cn .f64 p, cn .f64 q) := ⟨_, rfl⟩
  rw [← ev]
  unfold pSqrt at ev
  rw [isNaN_cn64, isNaN_cn64, pZero_cn, fle_cn0] at ev
  by_cases hn : (isNaN double p || isNaN double q) = true
  · have e1 : v = (qn .f64, qn .f64) := by rw [ev, if_pos hn]
    have c1 : cn .f64 9221120237041090561 = v.1 := by rw [e1]; decide
    have c2 : cn .f64 9221120237041090561 = v.2 := by rw [e1]; decide
    have C1 : Hid _ := c1
    have C2 : Hid _ := c2
    clear c1 c2 e1 ev
    have hn' : (isNaN FloatKind.f64.format p = true) ∨ (isNaN FloatKind.f64.format p = false ∧ isNaN FloatKind.f64.format q = true) := by
      show (isNaN double p = true) ∨ (isNaN double p = false ∧ isNaN double q = true)
      cases h : isNaN double p
      · rw [h] at hn; exact .inr ⟨rfl, by simpa using hn⟩
      · exact .inl rfl
    clear hn
    rcases hn' with n1 | ⟨n1, n2⟩
    all_goals
      go_enter Try.func16, Try.ntmps16
      go_wp2_with (go_at_call 50; refine (mNaN_c _).mono ?_; rintro e w' ⟨rfl, rfl⟩)
      go_ret; exact closeC0 C1.out C2.out (by omega) (by omega)
  · have ⟨m1, m2⟩ : isNaN double p = false ∧ isNaN double q = false := by simpa using hn
    have n1 : isNaN FloatKind.f64.format p = false := m1
    have n2 : isNaN FloatKind.f64.format q = false := m2
    have qc : cn .f64 q = q := cn_of_not (k := .f64) m2
    have pc : cn .f64 p = p := cn_of_not (k := .f64) m1
    rw [if_neg hn] at ev
    clear hn m1 m2
    have hz : pZero (cn .f64 p, cn .f64 q) = (feq .f64 p 0 && feq .f64 q 0) := pZero_cn p q
    cases hzz : (feq .f64 p 0 && feq .f64 q 0)
    · rw [hzz] at ev hz
      rw [if_neg (by simp)] at ev
      clear hzz
      cases hpos : fle .f64 0 p
      · rw [hpos, if_neg (by simp)] at ev
        have EV : Hid _ := ev
        have QC : Hid _ := qc
        clear ev qc pc
        go_enter Try.func16, Try.ntmps16
        go_wp2_with (first
          | (go_at_call 25; refine (Zero_c _ _ _).mono ?_; rintro e w' ⟨rfl, rfl⟩)
          | (go_at_call 14; refine (Abs_c _ _ hp hq _).mono ?_; rintro e w' ⟨m, n, rfl, hm, lm, rfl⟩; have HM : Hid _ := hm; clear hm))
        refine upon_quo _ _ _ _ ?_
        intro x1 k1 g1
        go_wp2_with fail
        refine upon_quo _ _ _ _ ?_
        intro r2 n2 h2
        go_wp2_with fail
        refine upon_sub _ _ _ _ ?_
        intro r3 n3 h3
        go_wp2_with fail
        refine (mSqrt_c _ _).mono ?_
        rintro e w' ⟨x4, k4, rfl, g4, l4, rfl⟩
        have G4 : Hid _ := g4
        clear g4
        go_wp2_with fail
        refine upon_mul _ _ _ _ ?_
        intro r5 n5 h5
        go_wp2_with fail
        refine upon_quo _ _ _ _ ?_
        intro r6 n6 h6
        have l6 : r6 < 18446744073709551616 := h6.2
        go_wp2_with (first
          | (go_at_call 60; refine (size_c _ l6 _).mono ?_; rintro e w' ⟨rfl, rfl⟩)
          | (go_at_call 51; refine (mCopysign_c _ _ l4 hq _).mono ?_; rintro e w' ⟨rfl, rfl⟩))
        have e4 : cn .f64 x4 = fsqrt (fsub (fdiv (pAbs (cn .f64 p, cn .f64 q)) ftwo) (fdiv (cn .f64 p) ftwo)) := by
          rw [G4.out, h3.1, g1.1, h2.1, HM.out, cn2]
        go_ret
        refine closeC ?_ ?_ (rung_lt64' _) (word_lt _ (rung_lt double _))
        · rw [EV.out, cn_rung, h6.1, h5.1, e4, cn2]
        · rw [EV.out, cn_word]
          show _ = if isNaN double (fsqrt (fsub (fdiv (pAbs (cn .f64 p, cn .f64 q)) ftwo) (fdiv (cn .f64 p) ftwo))) = true then qn .f64 else
            double.word (sgn double (cn .f64 q)) (rung double (fsqrt (fsub (fdiv (pAbs (cn .f64 p, cn .f64 q)) ftwo) (fdiv (cn .f64 p) ftwo))))
          rw [← e4, isNaN_cn64, QC.out]
          split
          · rfl
          · rename_i hh
            rw [cn_of_not (k := .f64) (Bool.eq_false_iff.2 hh)]
      · rw [hpos, if_pos rfl] at ev
        have EV : Hid _ := ev
        clear ev qc pc
        go_enter Try.func16, Try.ntmps16
        go_wp2_with (first
          | (go_at_call 25; refine (Zero_c _ _ _).mono ?_; rintro e w' ⟨rfl, rfl⟩)
          | (go_at_call 14; refine (Abs_c _ _ hp hq _).mono ?_; rintro e w' ⟨m, n, rfl, hm, lm, rfl⟩; have HM : Hid _ := hm; clear hm))
        refine upon_quo _ _ _ _ ?_
        intro x1 k1 g1
        go_wp2_with fail
        refine upon_quo _ _ _ _ ?_
        intro r2 n2 h2
        go_wp2_with fail
        refine upon_add _ _ _ _ ?_
        intro r3 n3 h3
        go_wp2_with fail
        refine (mSqrt_c _ _).mono ?_
        rintro e w' ⟨x4, k4, rfl, g4, l4, rfl⟩
        have G4 : Hid _ := g4
        clear g4
        go_wp2_with fail
        refine upon_mul _ _ _ _ ?_
        intro r5 n5 h5
        go_wp2_with fail
        refine upon_quo _ _ _ _ ?_
        intro r6 n6 h6
        go_wp2
        have e4 : cn .f64 x4 = fsqrt (fadd (fdiv (pAbs (cn .f64 p, cn .f64 q)) ftwo) (fdiv (cn .f64 p) ftwo)) := by
          rw [G4.out, h3.1, g1.1, h2.1, HM.out, cn2]
        go_ret
        refine closeC ?_ ?_ l4 h6.2
        · rw [EV.out]; exact e4
        · rw [EV.out, h6.1, h5.1, e4, cn2]
    · rw [hzz] at ev hz
      rw [if_pos rfl] at ev
      have EV : Hid _ := ev
      clear ev qc pc hzz
      go_enter Try.func16, Try.ntmps16
      go_wp2_with (go_at_call 25; refine (Zero_c _ _ _).mono ?_; rintro e w' ⟨rfl, rfl⟩)
      go_ret; exact closeC0 (by rw [EV.out]; exact cn0) (by rw [EV.out]) (by omega) hq
end Go.Proofs.Ytpibokkcmhfdbaa
