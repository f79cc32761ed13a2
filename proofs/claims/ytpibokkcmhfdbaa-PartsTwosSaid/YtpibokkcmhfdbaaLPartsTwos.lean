/- PartsTwos: numbers whose parts are whole and small are reckoned exactly: sums, differences, products, quotients by the units; powers of two go in and out. No condition. -/
import Derived.Test.YtpibokkcmhfdbaaLdx
import Derived.Test.YtpibokkcmhfdbaaFlTx
namespace Go.Proofs.Ytpibokkcmhfdbaa
open Go.RowKit Fl Ieee
set_option maxRecDepth 20000
attribute [local go_sem] Fl.order_self Fl.order_self' Fl.order_eq Fl.order_ne Fl.order_lt Fl.order_gt Fl.fle_fold Fl.fge_fold Fl.negFloat_flip
theorem wf_i16 {a : Int} (h : (Lit.int .i16 a).wf = true) : -32768 ≤ a ∧ a ≤ 32767 := by
  simpa [Lit.wf, IntKind.min, IntKind.max, IntKind.signed, IntKind.bits] using h
theorem wrap_in (n : Int) (h : -9223372036854775808 ≤ n ∧ n ≤ 9223372036854775807) : wrap64 n = n := by unfold wrap64; omega
theorem foi (z : Int) (h : z.natAbs < 9007199254740992) : Ex (floatOfInt .f64 z) z 1074 := ex_nearest h
theorem prod_le {a b : Int} (ha : a.natAbs ≤ 32768) (hb : b.natAbs ≤ 32768) : (a * b).natAbs ≤ 1073741824 := by
  rw [Int.natAbs_mul]
  exact Nat.mul_le_mul ha hb
theorem known2 {x c : Nat} (h : cn .f64 x = c) (hc : isNaN double c = false) : x = c := by
  by_cases hx : isNaN double x = true
  · rw [cn_of_nan (k := .f64) hx] at h
    rw [← h] at hc
    have := isNaN_qn .f64
    exact absurd (this.symm.trans hc) (by decide)
  · rw [cn_of_not (k := .f64) (show isNaN FloatKind.f64.format x = false from Bool.eq_false_iff.2 hx)] at h; exact h
theorem RetC.known {v : C} {w w' : World} {e : Ending} {a b : Nat} (h : RetC v w e w') (hv : v = (a, b)) (ha : isNaN double a = false) (hb : isNaN double b = false) :
    ∃ n, e = .returned (.complex .f64 a b) ∧ w' = w.drewN n := by
  obtain ⟨x, y, n, rfl, h1, _, _, rfl⟩ := h
  rw [hv] at h1
  exact ⟨n, by rw [known2 (congrArg Prod.fst h1) ha, known2 (congrArg Prod.snd h1) hb], rfl⟩
theorem fin_nan {x : Nat} (h : fin double x) : isNaN double x = false := by unfold fin at h; unfold isNaN; simp; omega
theorem add_at {p q c d a b : Nat} (h1 : cn .f64 p = p) (h2 : cn .f64 q = q) (h3 : cn .f64 c = c) (h4 : cn .f64 d = d) (e1 : pAdd (p, q) (c, d) = (a, b)) (n1 : isNaN double a = false) (n2 : isNaN double b = false) (W : World) :
    Calls Try.prog 28 #[.complex .f64 p q, .complex .f64 c d] W fun e w' => ∃ n, e = .returned (.complex .f64 a b) ∧ w' = W.drewN n :=
  (Add_c p q c d W).mono fun _ _ h => h.known (by rw [h1, h2, h3, h4]; exact e1) n1 n2
theorem sub_at {p q c d a b : Nat} (h1 : cn .f64 p = p) (h2 : cn .f64 q = q) (h3 : cn .f64 c = c) (h4 : cn .f64 d = d) (e1 : pSub (p, q) (c, d) = (a, b)) (n1 : isNaN double a = false) (n2 : isNaN double b = false) (W : World) :
    Calls Try.prog 30 #[.complex .f64 p q, .complex .f64 c d] W fun e w' => ∃ n, e = .returned (.complex .f64 a b) ∧ w' = W.drewN n :=
  (Sub_c p q c d W).mono fun _ _ h => h.known (by rw [h1, h2, h3, h4]; exact e1) n1 n2
theorem mul_at {p q c d a b : Nat} (h1 : cn .f64 p = p) (h2 : cn .f64 q = q) (h3 : cn .f64 c = c) (h4 : cn .f64 d = d) (e1 : pMul (p, q) (c, d) = (a, b)) (n1 : isNaN double a = false) (n2 : isNaN double b = false) (W : World) :
    Calls Try.prog 32 #[.complex .f64 p q, .complex .f64 c d] W fun e w' => ∃ n, e = .returned (.complex .f64 a b) ∧ w' = W.drewN n :=
  (Mul_c p q c d W).mono fun _ _ h => h.known (by rw [h1, h2, h3, h4]; exact e1) n1 n2
theorem scale_at {x p q a b : Nat} (h0 : cn .f64 x = x) (h1 : cn .f64 p = p) (h2 : cn .f64 q = q) (e1 : pScale x (p, q) = (a, b)) (n1 : isNaN double a = false) (n2 : isNaN double b = false) (W : World) :
    Calls Try.prog 42 #[.float .f64 x, .complex .f64 p q] W fun e w' => ∃ n, e = .returned (.complex .f64 a b) ∧ w' = W.drewN n :=
  (Scale_c x p q W).mono fun _ _ h => h.known (by rw [h0, h1, h2]; exact e1) n1 n2
theorem div_at {p q c d a b : Nat} (h1 : cn .f64 p = p) (h2 : cn .f64 q = q) (h3 : cn .f64 c = c) (h4 : cn .f64 d = d) (hc : c < 18446744073709551616) (hd : d < 18446744073709551616) (e1 : pDiv (p, q) (c, d) = (a, b)) (n1 : isNaN double a = false) (n2 : isNaN double b = false) (W : World) :
    Calls Try.prog 34 #[.complex .f64 p q, .complex .f64 c d] W fun e w' => ∃ n, e = .returned (.complex .f64 a b) ∧ w' = W.drewN n :=
  (Div_c p q c d hc hd W).mono fun _ _ h => h.known (by rw [h1, h2, h3, h4]; exact e1) n1 n2
theorem flip_ex {x k : Nat} {a : Int} (h : Ex x a k) : Ex (flip double x) (-a) k := by
  have h1 := h.neg
  rw [fneg_of_not h.nan] at h1; exact h1
theorem pair_ex {f : C} : ∃ a b, f = (a, b) := ⟨f.1, f.2, rfl⟩
set_option maxHeartbeats 8000000 in
theorem PartsTwos_walk (p : Int) (wp : (Lit.int .i16 p).wf = true) (q : Int) (wq : (Lit.int .i16 q).wf = true) (c : Int) (wc : (Lit.int .i16 c).wf = true) (d : Int) (wd : (Lit.int .i16 d).wf = true) (n : Nat) (hn : n < 256) (w : World) :
    Calls Try.prog 9 #[.int .i16 p, .int .i16 q, .int .i16 c, .int .i16 d, .int .u8 n] w fun e w' => e = .returned (.bool true) ∧ Grown w w' := by
  have bp := wf_i16 wp
  have bq := wf_i16 wq
  have bc := wf_i16 wc
  have bd := wf_i16 wd
  clear wp wq wc wd
  have e15 : (2 : Nat) ^ 15 = 32768 := by decide
  obtain ⟨P, hP⟩ : ∃ P, floatOfInt .f64 p = P := ⟨_, rfl⟩
  obtain ⟨Q, hQ⟩ : ∃ P, floatOfInt .f64 q = P := ⟨_, rfl⟩
  obtain ⟨D, hD⟩ : ∃ P, floatOfInt .f64 c = P := ⟨_, rfl⟩
  obtain ⟨E, hE⟩ : ∃ P, floatOfInt .f64 d = P := ⟨_, rfl⟩
  obtain ⟨S1, hS1⟩ : ∃ P, floatOfInt .f64 (p + c) = P := ⟨_, rfl⟩
  obtain ⟨S2, hS2⟩ : ∃ P, floatOfInt .f64 (q + d) = P := ⟨_, rfl⟩
  obtain ⟨R1, hR1⟩ : ∃ P, floatOfInt .f64 (p - c) = P := ⟨_, rfl⟩
  obtain ⟨R2, hR2⟩ : ∃ P, floatOfInt .f64 (q - d) = P := ⟨_, rfl⟩
  obtain ⟨M1, hM1⟩ : ∃ P, floatOfInt .f64 (p * c - q * d) = P := ⟨_, rfl⟩
  obtain ⟨M2, hM2⟩ : ∃ P, floatOfInt .f64 (p * d + q * c) = P := ⟨_, rfl⟩
  have pc := prod_le (a := p) (b := c) (by omega) (by omega)
  have qd := prod_le (a := q) (b := d) (by omega) (by omega)
  have pd := prod_le (a := p) (b := d) (by omega) (by omega)
  have qc := prod_le (a := q) (b := c) (by omega) (by omega)
  have w1 : wrap64 (wrap64 (p * c) - wrap64 (q * d)) = p * c - q * d := by
    generalize p * c = x at *
    generalize q * d = y at *
    rw [wrap_in x (by omega), wrap_in y (by omega), wrap_in _ (by omega)]
  have w2 : wrap64 (wrap64 (p * d) + wrap64 (q * c)) = p * d + q * c := by
    generalize p * d = x at *
    generalize q * c = y at *
    rw [wrap_in x (by omega), wrap_in y (by omega), wrap_in _ (by omega)]
  have eP : Ex P p 1074 := hP ▸ foi p (by omega)
  have eQ : Ex Q q 1074 := hQ ▸ foi q (by omega)
  have eD : Ex D c 1074 := hD ▸ foi c (by omega)
  have eE : Ex E d 1074 := hE ▸ foi d (by omega)
  have eS1 : Ex S1 (p + c) 1074 := hS1 ▸ foi _ (by omega)
  have eS2 : Ex S2 (q + d) 1074 := hS2 ▸ foi _ (by omega)
  have eR1 : Ex R1 (p - c) 1074 := hR1 ▸ foi _ (by omega)
  have eR2 : Ex R2 (q - d) 1074 := hR2 ▸ foi _ (by omega)
  have bM1 : (p * c - q * d).natAbs < 9007199254740992 := by omega
  have bM2 : (p * d + q * c).natAbs < 9007199254740992 := by omega
  have eM1 : Ex M1 (p * c - q * d) 1074 := hM1 ▸ foi _ bM1
  have eM2 : Ex M2 (p * d + q * c) 1074 := hM2 ▸ foi _ bM2
  -- T
  obtain ⟨T, hT⟩ : ∃ T, T = 4503599627370496 * (n + 895) := ⟨_, rfl⟩
  have eT : Ex T 1 (n + 946) := by
    have h := ex_two (n := n + 894) (by omega)
    rw [binade64] at h
    have e1 : n + 894 + 1 = n + 895 := by omega
    have e2 : n + 894 + 52 = n + 946 := by omega
    rw [e1, e2, ← hT] at h; exact h
  -- sums
  have a1 := eP.add eD (by omega) (by omega)
  have a2 := eQ.add eE (by omega) (by omega)
  have s1 := eP.sub eD (by omega) (by omega)
  have s2 := eQ.sub eE (by omega) (by omega)
  have m1 := (eP.mul eD (n := 1074) (by omega) (by omega) (by omega)).sub (eQ.mul eE (n := 1074) (by omega) (by omega) (by omega)) bM1 (by omega)
  have m2 := (eP.mul eE (n := 1074) (by omega) (by omega) (by omega)).add (eQ.mul eD (n := 1074) (by omega) (by omega) (by omega)) bM2 (by omega)
  have tp : Ex (fmul T P) p (n + 946) := (eT.mul eP (n := n + 946) (by omega) (by rw [Int.one_mul]; omega) (by omega)).at (Int.one_mul _)
  have tq : Ex (fmul T Q) q (n + 946) := (eT.mul eQ (n := n + 946) (by omega) (by rw [Int.one_mul]; omega) (by omega)).at (Int.one_mul _)
  have tm1 := (tp.mul eD (n := n + 946) (by omega) (by omega) (by omega)).sub (tq.mul eE (n := n + 946) (by omega) (by omega) (by omega)) bM1 (by omega)
  have tm2 := (tp.mul eE (n := n + 946) (by omega) (by omega) (by omega)).add (tq.mul eD (n := n + 946) (by omega) (by omega) (by omega)) bM2 (by omega)
  have um1 : Ex (fmul T M1) (p * c - q * d) (n + 946) := (eT.mul eM1 (n := n + 946) (by omega) (by rw [Int.one_mul]; omega) (by omega)).at (Int.one_mul _)
  have um2 : Ex (fmul T M2) (p * d + q * c) (n + 946) := (eT.mul eM2 (n := n + 946) (by omega) (by rw [Int.one_mul]; omega) (by omega)).at (Int.one_mul _)
  have cadd := Lib.hid (add_at (a := fadd P D) (b := fadd Q E) eP.cn eQ.cn eD.cn eE.cn rfl a1.nan a2.nan)
  have csub := Lib.hid (sub_at (a := fsub P D) (b := fsub Q E) eP.cn eQ.cn eD.cn eE.cn rfl s1.nan s2.nan)
  have cmul := Lib.hid (mul_at (a := fsub (fmul P D) (fmul Q E)) (b := fadd (fmul P E) (fmul Q D)) eP.cn eQ.cn eD.cn eE.cn rfl m1.nan m2.nan)
  have csca := Lib.hid (scale_at (a := fmul T P) (b := fmul T Q) eT.cn eP.cn eQ.cn rfl tp.nan tq.nan)
  have cmulT := Lib.hid (mul_at (a := fsub (fmul (fmul T P) D) (fmul (fmul T Q) E)) (b := fadd (fmul (fmul T P) E) (fmul (fmul T Q) D)) tp.cn tq.cn eD.cn eE.cn rfl tm1.nan tm2.nan)
  have cscaM := Lib.hid (scale_at (a := fmul T M1) (b := fmul T M2) eT.cn eM1.cn eM2.cn rfl um1.nan um2.nan)
  -- what is held against what
  have q1 := a1.feq eS1
  have q2 := a2.feq eS2
  have q3 := s1.feq eR1
  have q4 := s2.feq eR2
  have q5 := m1.feq eM1
  have q6 := m2.feq eM2
  have q7 := tm1.feq um1
  have q8 := tm2.feq um2
  -- the units
  have k1 : cn .f64 13830554455654793216 = 13830554455654793216 := by decide
  have k0 : cn .f64 0 = 0 := by decide
  have k2 : cn .f64 4607182418800017408 = 4607182418800017408 := by decide
  have d1 := quot_minus eP eQ (by omega)
  have d1b := d1.2 (by omega)
  have d2 := quot_i eP eQ (by omega) (by omega)
  have d3 := quot_mi eP eQ (by omega) (by omega)
  obtain ⟨U1, U2, hU⟩ := pair_ex (f := pDiv (P, Q) (13830554455654793216, 0))
  obtain ⟨V1, V2, hV⟩ := pair_ex (f := pDiv (P, Q) (0, 4607182418800017408))
  obtain ⟨W1, W2, hW⟩ := pair_ex (f := pDiv (P, Q) (0, 13830554455654793216))
  rw [hU] at d1 d1b
  rw [hV] at d2
  rw [hW] at d3
  have cd1 := Lib.hid (div_at eP.cn eQ.cn k1 k0 (by decide) (by decide) hU d1.1.nan d1b.nan)
  have cd2 := Lib.hid (div_at eP.cn eQ.cn k0 k2 (by decide) (by decide) hV d2.1.nan d2.2.nan)
  have cd3 := Lib.hid (div_at eP.cn eQ.cn k0 k1 (by decide) (by decide) hW d3.1.nan d3.2.nan)
  have q9 : feq .f64 U1 (flip double P) = true := d1.1.feq (flip_ex eP)
  have q10 : feq .f64 U2 (flip double Q) = true := d1b.feq (flip_ex eQ)
  have q11 : feq .f64 V1 Q = true := d2.1.feq eQ
  have q12 : feq .f64 V2 (flip double P) = true := d2.2.feq (flip_ex eP)
  have q13 : feq .f64 W1 (flip double Q) = true := d3.1.feq (flip_ex eQ)
  have q14 : feq .f64 W2 P = true := d3.2.feq eP
  -- the quotient
  have hzero : (feq .f64 D 0 && feq .f64 E 0) = true ∨ ((feq .f64 D 0 && feq .f64 E 0) = false ∧ (c ≠ 0 ∨ d ≠ 0)) := by
    by_cases h : c = 0 ∧ d = 0
    · left
      have z1 : Ex D 0 1074 := eD.at h.1
      have z2 : Ex E 0 1074 := eE.at h.2
      have z : Ex 0 0 1074 := ex_zero (by decide) (by decide)
      rw [z1.feq z, z2.feq z]; rfl
    · right
      refine ⟨?_, by omega⟩
      rw [feq_zero, feq_zero]
      have r1 : isNaN FloatKind.f64.format D = false := eD.nan
      have r2 : isNaN FloatKind.f64.format E = false := eE.nan
      rw [r1, r2]
      have hr : rung double D ≠ 0 ∨ rung double E ≠ 0 := by
        rcases (show c ≠ 0 ∨ d ≠ 0 by omega) with h1 | h1
        · left; intro e; have := zero_rung.2 e; rw [eD.2.2] at this; exact h1 (mul_two_eq.1 this)
        · right; intro e; have := zero_rung.2 e; rw [eE.2.2] at this; exact h1 (mul_two_eq.1 this)
      show (!false && decide (rung double D = 0) && (!false && decide (rung double E = 0))) = false
      rcases hr with h1 | h1
      · rw [decide_eq_false h1]; simp
      · rw [decide_eq_false h1]; simp
  have HZ := Lib.hid hzero
  have TW := Lib.hid (fun h0 => twos_quot eP eQ eD eE eT hn (by omega) (by omega) (by omega) (by omega) h0)
  have EP := Lib.hid eP
  have EQ := Lib.hid eQ
  have ED := Lib.hid eD
  have EE := Lib.hid eE
  have ET := Lib.hid eT
  have TP := Lib.hid tp
  have TQ := Lib.hid tq
  have HT := Lib.hid hT
  clear hzero bM1 bM2 pc qd pd qc e15 eP eQ eD eE eS1 eS2 eR1 eR2 eM1 eM2 eT a1 a2 s1 s2 m1 m2 tp tq tm1 tm2 um1 um2 k0 k1 k2 d1 d1b d2 d3 hU hV hW hT
  go_enter Try.func9, Try.ntmps9
  go_wp2_with fail
  refine (Ldexp1_c (n + 895) _ (by omega) (by omega) (by omega) _).mono ?_
  rintro e w' ⟨x0, n0, rfl, g0, b0, rfl⟩
  rw [← HT.out] at g0
  have hx0 : T = x0 := (known2 g0 ET.out.nan).symm
  subst hx0
  clear g0 b0
  go_wp2_with fail
  refine (lives_c _).mono ?_
  rintro e w' ⟨n1, rfl, rfl⟩
  go_wp2_with fail
  refine (cadd.out _).mono ?_
  rintro e w' ⟨n2, rfl, rfl⟩
  go_wp2_with fail
  refine (csub.out _).mono ?_
  rintro e w' ⟨n3, rfl, rfl⟩
  go_wp2_with fail
  refine (cmul.out _).mono ?_
  rintro e w' ⟨n4, rfl, rfl⟩
  go_wp2_with fail
  refine (csca.out _).mono ?_
  rintro e w' ⟨n5, rfl, rfl⟩
  go_wp2_with fail
  refine (cmulT.out _).mono ?_
  rintro e w' ⟨n6, rfl, rfl⟩
  go_wp2_with fail
  refine (cscaM.out _).mono ?_
  rintro e w' ⟨n7, rfl, rfl⟩
  clear cadd csub cmul cmulT cscaM
  rcases HZ.out with hz | ⟨hz, h0⟩
  · have hz1 := (Bool.and_eq_true _ _).mp hz
    have hz2 := hz1.1
    have hz3 := hz1.2
    clear hz1
    go_wp2_with fail
    refine (cd1.out _).mono ?_
    rintro e w' ⟨n11, rfl, rfl⟩
    go_wp2_with fail
    refine (cd2.out _).mono ?_
    rintro e w' ⟨n12, rfl, rfl⟩
    go_wp2_with fail
    refine (cd3.out _).mono ?_
    rintro e w' ⟨n13, rfl, rfl⟩
    go_wp2
    go_ret
    exact ⟨rfl, grown_dn (Grown.refl _) _⟩
  · obtain ⟨⟨y1, y2⟩, fY, fX, fZ⟩ := TW.out h0
    obtain ⟨X1, X2, hX⟩ := pair_ex (f := pDiv (P, Q) (D, E))
    obtain ⟨Y1, Y2, hY⟩ := pair_ex (f := pDiv (fmul T P, fmul T Q) (D, E))
    rw [hX] at y1 y2 fX fZ
    rw [hY] at y1 y2 fY
    have cX := Lib.hid (div_at EP.out.cn EQ.out.cn ED.out.cn EE.out.cn ED.out.1 EE.out.1 hX (fin_nan fX.1) (fin_nan fX.2))
    have cY := Lib.hid (div_at TP.out.cn TQ.out.cn ED.out.cn EE.out.cn ED.out.1 EE.out.1 hY (fin_nan fY.1) (fin_nan fY.2))
    have cZ := Lib.hid (scale_at (a := fmul T X1) (b := fmul T X2) ET.out.cn (cn_of_not (k := .f64) (fin_nan fX.1)) (cn_of_not (k := .f64) (fin_nan fX.2)) rfl (fin_nan fZ.1) (fin_nan fZ.2))
    clear hX hY fX fY fZ h0
    go_wp2_with fail
    refine (csca.out _).mono ?_
    rintro e w' ⟨n7, rfl, rfl⟩
    go_wp2_with fail
    refine (cY.out _).mono ?_
    rintro e w' ⟨n8, rfl, rfl⟩
    go_wp2_with fail
    refine (cX.out _).mono ?_
    rintro e w' ⟨n9, rfl, rfl⟩
    go_wp2_with fail
    refine (cZ.out _).mono ?_
    rintro e w' ⟨n10, rfl, rfl⟩
    go_wp2_with fail
    refine (cd1.out _).mono ?_
    rintro e w' ⟨n11, rfl, rfl⟩
    go_wp2_with fail
    refine (cd2.out _).mono ?_
    rintro e w' ⟨n12, rfl, rfl⟩
    go_wp2_with fail
    refine (cd3.out _).mono ?_
    rintro e w' ⟨n13, rfl, rfl⟩
    go_wp2
    go_ret
    exact ⟨rfl, grown_dn (Grown.refl _) _⟩
/-! ### The row's step -/
namespace partsTwos_frame
open Go.ChangeShapes Go.WideShapes Go.ChangeAt Go.RowKit
theorem own : ownKnob Try.prog.godebug = none := by kernel_rfl
set_option maxRecDepth 100000 in
theorem lifted (os : Os) (started : os.Started) (H : Type) (enc : TypeId × Value → H) :
    ReturnsInHanded {} Try.checked os 9 .any (Rows.partsTwosSpec.pre6 enc Try.prog Try.f9 Rows.partsTwosRow.domain false) (Rows.partsTwosSpec.post enc Try.prog Try.f9 false true false false) := by
  refine returnsInHanded_of_change (C := Try.checked) own started (by kernel_rfl) Try.func9
    (ChangeSpec.witness6 (enc := enc) (C := Try.checked) false ⟨#[], #[.int .i16 0, .int .i16 0, .int .i16 0, .int .i16 0, .int .u8 0], []⟩ 8 (by kernel_rfl) (by kernel_rfl) (by kernel_rfl) (by kernel_rfl)) ?_
  intro W base args ds gs before hval0 hW hcnd _
  have hval : ∀ (j : Nat) t v, Try.f9.params[j]? = some t → args[j]? = some v → Value.okWide Try.prog W .any base t v := hval0
  have hW' := hW
  obtain ⟨p, q, hA0, hV, rfl, hfz, hnd⟩ := hW
  have hA : DataW.TrodAll enc Try.prog W 0 (fun _ => true) true Try.f9.params.toList args.toList ds p := hA0
  rw [Try.params9] at hA hval
  obtain ⟨v0, vs0, d0, ds0, p0, q0, hargs, rfl, rfl, h0, r0⟩ := trodAll_cons hA
  obtain ⟨v1, vs1, d1, ds1, p1, q1, rfl, rfl, rfl, h1, r1⟩ := trodAll_cons r0
  obtain ⟨v2, vs2, d2, ds2, p2, q2, rfl, rfl, rfl, h2, r2⟩ := trodAll_cons r1
  obtain ⟨v3, vs3, d3, ds3, p3, q3, rfl, rfl, rfl, h3, r3⟩ := trodAll_cons r2
  obtain ⟨v4, vs4, d4, ds4, p4, q4, rfl, rfl, rfl, h4, r4⟩ := trodAll_cons r3
  obtain ⟨rfl, rfl, rfl⟩ := trodAll_nil r4
  obtain rfl : args = #[v0, v1, v2, v3, v4] := by cases args; simp_all
  obtain ⟨rfl, rfl⟩ := trodVars_none hV
  obtain ⟨a0, rfl, rfl, rfl, w0⟩ := open_int Try.underlying52 (hval 0 52 v0 rfl rfl) h0
  obtain ⟨a1, rfl, rfl, rfl, w1⟩ := open_int Try.underlying52 (hval 1 52 v1 rfl rfl) h1
  obtain ⟨a2, rfl, rfl, rfl, w2⟩ := open_int Try.underlying52 (hval 2 52 v2 rfl rfl) h2
  obtain ⟨a3, rfl, rfl, rfl, w3⟩ := open_int Try.underlying52 (hval 3 52 v3 rfl rfl) h3
  obtain ⟨a4, rfl, rfl, rfl, w4⟩ := open_int Try.underlying5 (hval 4 5 v4 rfl rfl) h4
  obtain ⟨n4, rfl, b4⟩ := wf_nat_u8 w4
  clear hA0 hval0
  simp only [List.append_nil] at hW'
  refine (PartsTwos_walk a0 w0 a1 w1 a2 w2 a3 w3 n4 b4 W).mono fun e W' ⟨he, hg⟩ => ?_
  subst he
  exact ⟨_, rfl, post_of_same (pa := []) (pv := []) hW' (fun _ _ _ => (trodAll_cons_mk (shut_bool Try.underlying4 _) trodAll_mk0)) (fun sp _ => (trodAll_cons_mk (shut_int Try.underlying52 w0) (trodAll_cons_mk (shut_int Try.underlying52 w1) (trodAll_cons_mk (shut_int Try.underlying52 w2) (trodAll_cons_mk (shut_int Try.underlying52 w3) (trodAll_cons_mk (shut_int Try.underlying5 w4) trodAll_mk0)))))) (fun _ _ => rfl) rfl
    (hg.frame _) hg.2.1 (ok_one (by kernel_rfl) rfl (okWide_bool_mk Try.underlying4 _))⟩
theorem over : Rows.partsTwosRow.holds Try.pinned (OpenSpec.ofChange Rows.partsTwosSpec) :=
  OpenClaim.holds_of_wide 9 Try.f9 rfl rfl rfl rfl rfl rfl rfl ⟨rfl, rfl, rfl, rfl, rfl⟩ rfl rfl rfl rfl rfl (by kernel_rfl) Try.func9 (by kernel_rfl)
    (of_decide_eq_true (by kernel_rfl)) (by unfold Func.isWrapper; first | (rw [if_pos (by decide +kernel)]; kernel_rfl) | (rw [if_neg (by decide +kernel)]; exact ⟨rfl, rfl⟩))
    (fun os started H enc _ => lifted os started H enc)
end partsTwos_frame

/-- THE STATEMENT. -/
theorem partsTwos_holds : Rows.PartsTwosSaid := partsTwos_frame.over
#print axioms partsTwos_holds
