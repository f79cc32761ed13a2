/- Layer 10: Frexp, Ldexp and home of any finite number. -/
import Derived.Test.YtglmmidhkpomgaaGreatLdA
import Derived.Test.YtglmmidhkpomgaaGreatT14
namespace Go.Proofs.YtglmmidhkpomgaaGreat
open Go.RowKit Fl Ieee
set_option maxRecDepth 20000
attribute [local go_sem] Fl.order_self Fl.order_self' Fl.order_eq Fl.order_ne Fl.order_lt Fl.order_gt Fl.fle_fold Fl.fge_fold
theorem w52_f : cn .f64 4841369599423283200 = w52 := by decide
/-- What is asked of a word: it is finite and no nought. -/
structure Some0 (x : Nat) : Prop where
  lt : x < 18446744073709551616
  fn : fin double x
  nz : rung double x ≠ 0
theorem Some0.facts {x : Nat} (h : Some0 x) : feq .f64 x 0 = false ∧ isInf double x = false ∧ isNaN FloatKind.f64.format x = false := by
  have hn : isNaN double x = false := decide_eq_false (by have := h.fn; unfold fin at this; omega)
  refine ⟨?_, ?_, hn⟩
  · rw [feq_zero]
    simp only [Bool.and_eq_false_iff]
    exact .inr (decide_eq_false h.nz)
  · unfold isInf
    exact decide_eq_false (by have := h.fn; unfold fin at this; omega)
def RetNrm (x : Nat) (w : World) (e : Ending) (w' : World) : Prop := ∃ d, e = .returned (.tuple #[.float .f64 (nrmW x), .int .i64 (nrmE x)]) ∧ w' = w.drewN d
theorem normalize_any (x : Nat) (h : Some0 x) (w : World) : Calls Tryz.prog 106 #[.float .f64 x] w (RetNrm x w) := by
  have lx := h.lt
  have hi : double.infRung = 9218868437227405312 := by decide
  have hc : flt .f64 (rung double x) 4503599627370496 = decide (rung double x < 4503599627370496) := flt_rungs (by have := h.fn; unfold fin at this; omega) (by rw [hi]; omega)
  have hxn : cn .f64 x = x := cn_of_not (k := .f64) h.facts.2.2
  have HNf := Lib.hid (nrm_facts lx h.fn h.nz)
  by_cases hs : rung double x < 4503599627370496
  · rw [decide_eq_true hs] at hc
    have HW := Lib.hid (show nrmW x = fmul x w52 by unfold nrmW; rw [if_pos hs])
    have HE := Lib.hid (show nrmE x = -52 by unfold nrmE; rw [if_pos hs])
    have HX := Lib.hid hxn
    clear h hi hs hxn
    go_enter Tryz.func106, Tryz.ntmps106
    go_wp2_with (go_at_call 74; refine (mAbs_c _ (by assumption) _).mono ?_; rintro e w' ⟨rfl, rfl⟩)
    refine upon_mul _ _ _ _ ?_
    intro r n hr
    have hrv : r = nrmW x := by
      have h1 : cn .f64 r = nrmW x := by rw [HW.out, hr.1, HX.out, w52_f]
      exact cn_only' h1 (decide_eq_false (by have := HNf.out.2.1; unfold fin at this; omega))
    subst hrv
    go_wp2
    go_ret2
    refine ⟨n, ?_, rfl⟩
    rw [HE.out]; rfl
  · rw [decide_eq_false hs] at hc
    have HW := Lib.hid (show nrmW x = x by unfold nrmW; rw [if_neg hs])
    have HE := Lib.hid (show nrmE x = 0 by unfold nrmE; rw [if_neg hs])
    clear h hi hs hxn
    go_enter Tryz.func106, Tryz.ntmps106
    go_wp2_with (go_at_call 74; refine (mAbs_c _ (by assumption) _).mono ?_; rintro e w' ⟨rfl, rfl⟩)
    go_ret2
    refine ⟨0, ?_, rfl⟩
    rw [HW.out, HE.out]; rfl
theorem frexp_any (x : Nat) (h : Some0 x) (w : World) :
    Calls Tryz.prog 95 #[.float .f64 x] w fun e w' => ∃ y d, e = .returned (.tuple #[.float .f64 y, .int .i64 (expo x - 1022)]) ∧ w' = w.drewN d := by
  have lx := h.lt
  obtain ⟨f0, f1, f2⟩ := h.facts
  have hx := x_f64frombits
  have hb := x_f64bits
  have HN := Lib.hid (normalize_any x h)
  obtain ⟨l1, -, -, -⟩ := nrm_facts h.lt h.fn h.nz
  obtain ⟨b1, b2, -, -⟩ := fld_bounds h.lt h.fn h.nz
  obtain ⟨n, hn⟩ : ∃ n, n = nrmW x := ⟨_, rfl⟩
  obtain ⟨m, hm⟩ : ∃ m, m = fld x := ⟨_, rfl⟩
  obtain ⟨E, hE⟩ : ∃ E, E = nrmE x := ⟨_, rfl⟩
  have hE0 : -52 ≤ E := by rw [hE]; unfold nrmE; split <;> omega
  have hE1 : E ≤ 0 := by rw [hE]; unfold nrmE; split <;> omega
  have b3 := u64_and_2047' n (by rw [hn]; exact l1)
  rw [show rung double n / 4503599627370496 = m by rw [hn, hm]; rfl] at b3
  have b4 := u64_keep n (by rw [hn]; exact l1)
  obtain ⟨y0, hy0⟩ : ∃ y0, y0 = double.word (sgn double n) (rung double n % 4503599627370496) := ⟨_, rfl⟩
  rw [← hy0] at b4
  have HNr := Lib.hid (fun V => (HN.out V).mono fun e w' h => (show ∃ d, e = .returned (.tuple #[.float .f64 n, .int .i64 E]) ∧ w' = V.drewN d from by rw [hn, hE]; exact h))
  have HX := Lib.hid (show expo x = E + m by rw [hE, hm]; rfl)
  have hmi : (m : Int) ≤ 2046 := by omega
  have hm1 : 1 ≤ (m : Int) := by omega
  have HL := Lib.hid (show n < 18446744073709551616 by rw [hn]; exact l1)
  clear h HN l1 b1 b2 hn hm hE hy0
  go_enter Tryz.func95, Tryz.ntmps95
  go_wp2_with (first
    | (go_at_call 104; refine (mIsInf_c _ (by assumption) _).mono ?_; rintro e w' ⟨rfl, rfl⟩)
    | (go_at_call 106; refine (HNr.out _).mono ?_; rintro e w' ⟨d, rfl, rfl⟩)
    | go_in)
  go_ret2
  refine ⟨(bits .or .u64 (y0 : Int) 4602678819172646912).toNat, d, ?_, rfl⟩
  rw [HX.out]
  show Ending.returned (.tuple #[.float .f64 _, .int .i64 (E + ((m : Int) - 1023 + 1))]) = _
  rw [show E + ((m : Int) - 1023 + 1) = E + m - 1022 by omega]
theorem Frexp_any (x : Nat) (h : Some0 x) (w : World) :
    Calls Tryz.prog 73 #[.float .f64 x] w fun e w' => ∃ y d, e = .returned (.tuple #[.float .f64 y, .int .i64 (expo x - 1022)]) ∧ w' = w.drewN d := by
  have HF := Lib.hid (frexp_any x h)
  clear h
  go_enter Tryz.func73, Tryz.ntmps73
  go_wp2_with (go_at_call 95; refine (HF.out _).mono ?_; rintro e w' ⟨y, d, rfl, rfl⟩)
  go_ret2
  exact ⟨y, d, rfl, rfl⟩
theorem ldexp_any (x : Nat) (j : Int) (h : Some0 x) (hk : j + expo x ≤ 2046) (hj : -20000 ≤ j) (w : World) :
    Calls Tryz.prog 97 #[.float .f64 x, .int .i64 j] w (RetR (ldN x (j + expo x)) w) := by
  have lx := h.lt
  obtain ⟨f0, f1, f2⟩ := h.facts
  have hx := x_f64frombits
  have hb := x_f64bits
  have HN := Lib.hid (normalize_any x h)
  obtain ⟨l1, -, -, -⟩ := nrm_facts h.lt h.fn h.nz
  obtain ⟨b1, b2, b5, b6⟩ := fld_bounds h.lt h.fn h.nz
  obtain ⟨n, hn⟩ : ∃ n, n = nrmW x := ⟨_, rfl⟩
  obtain ⟨m, hm⟩ : ∃ m, m = fld x := ⟨_, rfl⟩
  obtain ⟨E, hE⟩ : ∃ E, E = nrmE x := ⟨_, rfl⟩
  have hE0 : -52 ≤ E := by rw [hE]; unfold nrmE; split <;> omega
  have hE1 : E ≤ 0 := by rw [hE]; unfold nrmE; split <;> omega
  have hX : expo x = E + m := by rw [hE, hm]; rfl
  obtain ⟨K, hK⟩ : ∃ K, K = j + expo x := ⟨_, rfl⟩
  have HKe := Lib.hid hK
  have b3 := i64_and_2047 n (by rw [hn]; exact l1)
  rw [show rung double n / 4503599627370496 = m by rw [hn, hm]; rfl] at b3
  have b4 := u64_keep n (by rw [hn]; exact l1)
  obtain ⟨f, hf⟩ : ∃ f, f = frc x := ⟨_, rfl⟩
  obtain ⟨s, hs⟩ : ∃ s, s = sgn double n := ⟨_, rfl⟩
  rw [show rung double n % 4503599627370496 = f by rw [hn, hf]; rfl, ← hs] at b4
  obtain ⟨y0, hy0⟩ : ∃ y0, y0 = double.word s f := ⟨_, rfl⟩
  rw [← hy0] at b4
  have HNr := Lib.hid (fun V => (HN.out V).mono fun e w' h => (show ∃ d, e = .returned (.tuple #[.float .f64 n, .int .i64 E]) ∧ w' = V.drewN d from by rw [hn, hE]; exact h))
  have hmi : (m : Int) ≤ 2046 := by omega
  have hm1 : 1 ≤ (m : Int) := by omega
  have ej : j = K - m - E := by omega
  have hkl : -22000 ≤ K := by omega
  have hku : K ≤ 2046 := by omega
  have ln : n < 18446744073709551616 := by rw [hn]; exact l1
  have HL := Lib.hid ln
  have HV := Lib.hid (show ldN x K = if K < -52 then double.word s 0 else if K ≤ 0 then fmul wm53 (double.word s ((K + 53).toNat * 4503599627370496 + f)) else double.word s (K.toNat * 4503599627370496 + f) by
    rw [hs, hn, hf]; rfl)
  have HFl := Lib.hid (show f < 4503599627370496 by rw [hf]; exact b5)
  have HY := Lib.hid hy0
  have HSn := Lib.hid hs
  rw [← hK]
  clear h HN l1 b1 b2 b5 b6 hn hm hE hf hs hy0 hX hK hk hj
  subst ej
  have e1 : K - (m : Int) - E + E = K - m := by omega
  have e2 : K - (m : Int) + ((m : Int) - 1023) = K - 1023 := by omega
  have hi : double.infRung = 9218868437227405312 := by decide
  by_cases h1 : K < -52
  · have HVV := Lib.hid (show ldN x K = double.word s 0 by rw [HV.out, if_pos h1])
    have hd : K - 1023 < -1075 := by omega
    clear HV
    go_enter Tryz.func97, Tryz.ntmps97
    go_wp2_with (first
      | (go_at_call 104; refine (mIsInf_c _ (by assumption) _).mono ?_; rintro e w' ⟨rfl, rfl⟩)
      | (go_at_call 106; refine (HNr.out _).mono ?_; rintro e w' ⟨d, rfl, rfl⟩)
      | (go_at_call 107; refine (mCopysign_c _ _ (by decide) HL.out _).mono ?_; rintro e w' ⟨rfl, rfl⟩)
      | go_in)
    go_ret
    refine closeR ?_ (show double.word (sgn double n) (rung double 0) < 18446744073709551616 by cases (sgn double n) <;> decide +kernel)
    rw [HVV.out, ← HSn.out]
    cases s <;> decide +kernel
  · by_cases h2 : K ≤ 0
    · obtain ⟨kk, hkk⟩ : ∃ kk : Nat, kk = (K + 53).toNat := ⟨_, rfl⟩
      have hki : (kk : Int) = K + 53 := by omega
      have hk3 : kk ≤ 53 := by omega
      have b5 := u64_expo s f kk HFl.out (by omega)
      obtain ⟨y, hy⟩ : ∃ y, y = double.word s (kk * 4503599627370496 + f) := ⟨_, rfl⟩
      rw [← HY.out, ← hy, hki] at b5
      have hyn : cn .f64 y = y := cn_of_not (k := .f64) (show isNaN double y = false by rw [hy]; have := HFl.out; unfold isNaN; rw [rung_word s (by rw [sw64]; omega)]; exact decide_eq_false (by rw [hi]; omega))
      have HYy := Lib.hid hyn
      have HVV := Lib.hid (show ldN x K = fmul wm53 y by rw [HV.out, if_neg h1, if_pos h2, hy, hkk])
      have hd1 : ¬ K - 1023 < -1075 := by omega
      have hd2 : ¬ K - 1023 > 1023 := by omega
      have hd3 : K - 1023 < -1022 := by omega
      have e3 : K - 1023 + 53 = (kk : Int) - 1023 := by omega
      clear HV hkk hy hyn
      go_enter Tryz.func97, Tryz.ntmps97
      go_wp2_with (first
        | (go_at_call 104; refine (mIsInf_c _ (by assumption) _).mono ?_; rintro e w' ⟨rfl, rfl⟩)
        | (go_at_call 106; refine (HNr.out _).mono ?_; rintro e w' ⟨d, rfl, rfl⟩)
        | go_in)
      refine upon_mul _ _ _ _ ?_
      intro r nn hr
      go_wp2
      go_ret
      refine closeR ?_ hr.2
      rw [HVV.out, hr.1, HYy.out]
      rfl
    · obtain ⟨kk, hkk⟩ : ∃ kk : Nat, kk = K.toNat := ⟨_, rfl⟩
      have hki : K = (kk : Int) := by omega
      have hk3 : kk ≤ 2046 := by omega
      have b5 := u64_expo s f kk HFl.out (by omega)
      obtain ⟨y, hy⟩ : ∃ y, y = double.word s (kk * 4503599627370496 + f) := ⟨_, rfl⟩
      rw [← HY.out, ← hy] at b5
      have hyf : fin double y := by rw [hy]; exact fin_word s (by have := HFl.out; rw [hi]; omega)
      have hyl : y < 18446744073709551616 := by rw [hy]; exact word_lt (f := double) _ (by have := HFl.out; rw [sw64]; omega)
      have hyn : cn .f64 y = y := cn_of_not (k := .f64) (show isNaN double y = false by unfold fin at hyf; exact decide_eq_false (by omega))
      have HYf := Lib.hid hyf
      have HYl := Lib.hid hyl
      have HYy := Lib.hid hyn
      have HVV := Lib.hid (show ldN x K = y by rw [HV.out, if_neg h1, if_neg h2, hy, hkk])
      clear hyf hyl
      subst hki
      have hd1 : ¬ (kk : Int) - 1023 < -1075 := by omega
      have hd2 : ¬ (kk : Int) - 1023 > 1023 := by omega
      have hd3 : ¬ (kk : Int) - 1023 < -1022 := by omega
      clear HV hkk hy hyn
      go_enter Tryz.func97, Tryz.ntmps97
      go_wp2_with (first
        | (go_at_call 104; refine (mIsInf_c _ (by assumption) _).mono ?_; rintro e w' ⟨rfl, rfl⟩)
        | (go_at_call 106; refine (HNr.out _).mono ?_; rintro e w' ⟨d, rfl, rfl⟩)
        | go_in)
      refine upon_mul _ _ _ _ ?_
      intro r nn hr
      go_wp2
      go_ret
      refine closeR ?_ hr.2
      rw [HVV.out, hr.1, HYy.out]
      show fmul fone y = y
      rw [fmul_comm, fmul_one HYl.out HYf.out]
theorem Ldexp_any (x : Nat) (j : Int) (lx : x < 18446744073709551616) (fx : fin double x) (hk : rung double x ≠ 0 → j + expo x ≤ 2046) (hj : -20000 ≤ j) (w : World) :
    Calls Tryz.prog 75 #[.float .f64 x, .int .i64 j] w (RetR (ldW x j) w) := by
  by_cases h0 : rung double x = 0
  · have hn : isNaN double x = false := decide_eq_false (by unfold fin at fx; omega)
    have hz : feq .f64 x 0 = true := by
      rw [feq_zero]
      show (!isNaN double x && decide (rung double x = 0)) = true
      rw [hn, decide_eq_true h0]; rfl
    have h := Ldexp_z x j lx hz w
    rw [cn_of_not (k := .f64) hn] at h
    have e : ldW x j = x := by unfold ldW; rw [if_pos h0]
    rw [e]; exact h
  · have e : ldW x j = ldN x (j + expo x) := by unfold ldW; rw [if_neg h0]
    rw [e]
    have HF := Lib.hid (ldexp_any x j ⟨lx, fx, h0⟩ (hk h0) hj)
    clear h0 hk hj fx e
    go_enter Tryz.func75, Tryz.ntmps75
    go_wp2_with (go_at_call 97; refine (HF.out _).mono ?_; rintro e w' ⟨x, n, rfl, g, b, rfl⟩)
    go_ret
    exact closeR g b
/-- The power of two of a number that does not equal 0; the number brought home. -/
def hbig (z : C) : Nat := max (rung double z.1) (rung double z.2)
def hpow (z : C) : Int := expo (hbig z) - 1023
def hval (z : C) : C := (ldW z.1 (-hpow z), ldW z.2 (-hpow z))
structure HomeIn (z : C) : Prop where
  lt : ltC z
  fn : pFinite z = true
  nz : pZero z = false
theorem fin_of_pFinite {z : C} (h : pFinite z = true) : fin double z.1 ∧ fin double z.2 := by
  unfold pFinite at h
  rw [Bool.and_eq_true] at h
  exact ⟨of_decide_eq_true (p := rung double z.1 < double.infRung) h.1, of_decide_eq_true (p := rung double z.2 < double.infRung) h.2⟩
theorem big_facts {z : C} (h : HomeIn z) : hbig z < 9218868437227405312 ∧ hbig z ≠ 0 ∧ rung double (hbig z) = hbig z ∧ Some0 (hbig z) := by
  obtain ⟨f1, f2⟩ := fin_of_pFinite h.fn
  have hi : double.infRung = 9218868437227405312 := by decide
  have a1 : rung double z.1 < 9218868437227405312 := by unfold fin at f1; omega
  have a2 : rung double z.2 < 9218868437227405312 := by unfold fin at f2; omega
  have hb : hbig z < 9218868437227405312 := by unfold hbig; omega
  have h0 : hbig z ≠ 0 := fun e => by
    have e1 : rung double z.1 = 0 := by unfold hbig at e; omega
    have e2 : rung double z.2 = 0 := by unfold hbig at e; omega
    have hz := h.nz
    unfold pZero at hz
    rw [feq_zero, feq_zero] at hz
    change ((!isNaN double z.1 && decide (rung double z.1 = 0)) && (!isNaN double z.2 && decide (rung double z.2 = 0))) = false at hz
    rw [decide_eq_true e1, decide_eq_true e2, show isNaN double z.1 = false from decide_eq_false (by rw [e1]; omega), show isNaN double z.2 = false from decide_eq_false (by rw [e2]; omega)] at hz
    cases hz
  have e0 : double.word false (hbig z) = hbig z := by unfold Format.word; simp
  have hr : rung double (hbig z) = hbig z := by
    have := rung_word (f := double) false (r := hbig z) (by rw [sw64]; omega)
    rwa [e0] at this
  exact ⟨hb, h0, hr, ⟨by omega, by unfold fin; rw [hr, hi]; exact hb, by rw [hr]; exact h0⟩⟩
theorem max10_any {P : Program} {x y : Nat} (hx : x < 9218868437227405312) (hy : y < 9218868437227405312) (ts : Array TypeId) (t : TypeId) (W : World) :
    (Builtin.max_ ts t #[.float .f64 x, .float .f64 y]).run P W = .ok (.float .f64 (max x y)) W := by
  have hi : double.infRung = 9218868437227405312 := by decide
  have a := flt_rungs (x := x) (y := y) (by omega) (by omega)
  have b := flt_rungs (x := y) (y := x) (by omega) (by omega)
  rcases Nat.lt_trichotomy x y with h | h | h
  · rw [decide_eq_true h] at a
    have e : FloatKind.f64.format.order x y = some .lt := eq_of_beq (show (FloatKind.f64.format.order x y == some .lt) = true from a)
    simp [Builtin.max_, Builtin.max2, e, Nat.max_eq_right (Nat.le_of_lt h)]
  · subst h
    have hn : isNaN double x = false := by
      unfold isNaN
      rw [(sgn_rung' (show x ≤ double.infRung by omega)).2]
      exact decide_eq_false (by omega)
    have c := feq_self .f64 x
    rw [show isNaN FloatKind.f64.format x = false from hn] at c
    have e : FloatKind.f64.format.order x x = some .eq := eq_of_beq (show (FloatKind.f64.format.order x x == some .eq) = true from c)
    simp [Builtin.max_, Builtin.max2, e]
  · rw [decide_eq_true h] at b
    have e1 : FloatKind.f64.format.order y x = some .lt := eq_of_beq (show (FloatKind.f64.format.order y x == some .lt) = true from b)
    have e : FloatKind.f64.format.order x y = some .gt := eq_of_beq (by rw [order_gt]; exact b)
    simp [Builtin.max_, Builtin.max2, e, Nat.max_eq_left (Nat.le_of_lt h)]
theorem home_d (z v : C) (p : Int) (big : Nat) (lz : ltC z) (hp1 : -10000 < p) (hp2 : p < 10000)
    (hmax : ∀ W, (Builtin.max_ #[87, 87] 87 #[.float .f64 (rung double z.1), .float .f64 (rung double z.2)]).run Tryz.prog W = .ok (.float .f64 big) W)
    (HF : ∀ V, Calls Tryz.prog 73 #[.float .f64 big] V fun e w' => ∃ y d, e = .returned (.tuple #[.float .f64 y, .int .i64 (p + 1)]) ∧ w' = V.drewN d)
    (HR : ∀ V, Calls Tryz.prog 75 #[.float .f64 z.1, .int .i64 (-p)] V (RetR v.1 V))
    (HI : ∀ V, Calls Tryz.prog 75 #[.float .f64 z.2, .int .i64 (-p)] V (RetR v.2 V)) (w : World) :
    Calls Tryz.prog 39 #[.complex .f64 z.1 z.2] w (RetHome v p w) := by
  have HF := Lib.hid HF
  have HR := Lib.hid HR
  have HI := Lib.hid HI
  obtain ⟨lz1, lz2⟩ := lz
  go_enter Tryz.func39, Tryz.ntmps39
  go_wp2_with (first
    | (go_at_call 74; refine (mAbs_c _ (by assumption) _).mono ?_; rintro e w' ⟨rfl, rfl⟩)
    | (go_at_call 73; refine (HF.out _).mono ?_; rintro e w' ⟨y, d, rfl, rfl⟩))
  refine (HR.out _).mono ?_
  rintro e w1 ⟨x1, n1, rfl, g1, l1, rfl⟩
  go_wp2_with fail
  refine (HI.out _).mono ?_
  rintro e w2 ⟨x2, n2, rfl, g2, l2, rfl⟩
  go_wp2
  go_ret2
  exact ⟨(x1, x2), d + n1 + n2, rfl, by show (cn .f64 x1, cn .f64 x2) = v; rw [g1, g2], ⟨l1, l2⟩, rfl⟩
theorem part_expo {z : C} (h : HomeIn z) {x : Nat} (hx : x = z.1 ∨ x = z.2) : x < 18446744073709551616 ∧ fin double x ∧ (rung double x ≠ 0 → expo x ≤ expo (hbig z)) := by
  obtain ⟨f1, f2⟩ := fin_of_pFinite h.fn
  obtain ⟨-, -, hr, -⟩ := big_facts h
  rcases hx with rfl | rfl
  · exact ⟨h.lt.1, f1, fun h0 => expo_mono h0 (by rw [hr]; unfold hbig; omega)⟩
  · exact ⟨h.lt.2, f2, fun h0 => expo_mono h0 (by rw [hr]; unfold hbig; omega)⟩
theorem hpow_bounds {z : C} (h : HomeIn z) : -1074 ≤ hpow z ∧ hpow z ≤ 1023 := by
  obtain ⟨-, -, -, hs⟩ := big_facts h
  have := expo_bounds hs.lt hs.fn hs.nz
  unfold hpow; omega
/-- Home of any number. -/
theorem home_any (z : C) (h : HomeIn z) : HomeOk z (hval z) (hpow z) := fun V => by
  obtain ⟨f1, f2⟩ := fin_of_pFinite h.fn
  obtain ⟨-, -, -, hs⟩ := big_facts h
  obtain ⟨p1, p2⟩ := hpow_bounds h
  obtain ⟨x1, x2, x3⟩ := part_expo h (x := z.1) (.inl rfl)
  obtain ⟨y1, y2, y3⟩ := part_expo h (x := z.2) (.inr rfl)
  have hi : double.infRung = 9218868437227405312 := by decide
  have a1 : rung double z.1 < 9218868437227405312 := by unfold fin at f1; omega
  have a2 : rung double z.2 < 9218868437227405312 := by unfold fin at f2; omega
  refine home_d z (hval z) (hpow z) (hbig z) h.lt (by omega) (by omega) (fun W => max10_any a1 a2 _ _ W) (fun V => ?_) (fun V => ?_) (fun V => ?_) V
  · have hf := Frexp_any (hbig z) hs V
    rw [show expo (hbig z) - 1022 = hpow z + 1 by unfold hpow; omega] at hf
    exact hf
  · exact Ldexp_any z.1 (-hpow z) x1 x2 (fun h0 => by have := x3 h0; unfold hpow; omega) (by omega) V
  · exact Ldexp_any z.2 (-hpow z) y1 y2 (fun h0 => by have := y3 h0; unfold hpow; omega) (by omega) V
end Go.Proofs.YtglmmidhkpomgaaGreat
