/- RealOrder: of every two reals, by their bits, and every place: places rise with the reals; what stands at a real's place is it; a step up and down comes back. No condition. -/
import Derived.Test.YtbajeonhiaaclaaS03
import Derived.Test.YtbajeonhiaaclaaS04
namespace Go.Proofs.Ytbajeonhiaaclaa
open Go.RowKit Fl Ieee
set_option maxRecDepth 20000
attribute [local go_sem] Fl.order_self Fl.order_self' Fl.order_eq Fl.order_ne Fl.order_lt Fl.order_gt Fl.fle_fold Fl.fge_fold
theorem RealOrder_first (a : Nat) (ha : a < 18446744073709551616) (hn : isNaN double a = false) :
    (rung double a = 0 ∧ (a = 0 ∨ a = 9223372036854775808) ∧ atV (plc a) = 0 ∧ feq .f64 a 0 = true) ∨ (atV (plc a) = a ∧ feq .f64 a 0 = false) := by
  have h := atV_plc ha hn
  have z : isNaN double 0 = false := by decide
  have e := feq_plc hn z
  have p0 : plc 0 = 0 := by decide
  have hp := plc_nat hn
  by_cases hr : rung double a = 0
  · left
    have h1 := rung_mod a
    refine ⟨hr, by omega, by rw [h, if_pos hr], ?_⟩
    rw [e, p0, hp, hr]; simp
  · right
    refine ⟨by rw [h, if_neg hr], ?_⟩
    rw [e, p0, hp]; simp; split <;> omega
theorem atOk_cases (p : Int) : (atOk p = true ∧ decide (-9218868437227405312 ≤ p) = true ∧ decide (p ≤ 9218868437227405312) = true) ∨ (atOk p = false ∧ decide (-9218868437227405312 ≤ p) = false) ∨
    (atOk p = false ∧ decide (-9218868437227405312 ≤ p) = true ∧ decide (p ≤ 9218868437227405312) = false) := by
  unfold atOk
  cases decide (-9218868437227405312 ≤ p) <;> cases decide (p ≤ 9218868437227405312) <;> simp

set_option maxHeartbeats 4000000 in
set_option linter.unusedVariables false in
theorem RealOrder_walk (a : Nat) (ha : a < 18446744073709551616) (b : Nat) (hb : b < 18446744073709551616) (p : Int) (wp : (Lit.int .i64 p).wf = true) (w : World) :
    Calls Try.prog 5 #[.int .u64 a, .int .u64 b, .int .i64 p] w fun e w' => e = .returned (.bool true) ∧ Below w.heap.size w w' := by
  have hbits := x_f64bits
  have hp := wf_int_i64 wp
  have P2 := Lib.hid (Place_c (atV p) (atV_lt p))
  have s1 : (!isNaN double (atV p)) = true := by
    rcases Bool.eq_false_or_eq_true (atOk p) with h | h
    · rw [(atV_ok h).1]; rfl
    · have : atV p = 0 := by unfold atV; rw [h]; rfl
      rw [this]; decide
  rw [s1] at P2
  have HS := Lib.hid (show atOk p = true → plc (atV p) = p from fun h => (atV_ok h).2)
  have PA := Lib.hid (Place_c a ha)
  have PB := Lib.hid (Place_c b hb)
  have AP := Lib.hid (At_c p hp)
  have IA := Lib.hid (mIsInf_c a ha)
  have FA := Lib.hid (floatw_c a ha)
  have FB := Lib.hid (floatw_c b hb)
  have N1 := Lib.hid (Next1_c a true ha)
  have N2 := Lib.hid (Next1_c a false ha)
  have N3 := Lib.hid (Next1_c (nx a true) false (nx_lt ha true))
  have N4 := Lib.hid (Next1_c (nx a false) true (nx_lt ha false))
  have HA := Lib.hid ha
  clear s1 hp wp ha hb
  go_enter Try.func5, Try.ntmps5
  go_wp2_with fail
  refine (awake_c _).mono ?_
  rintro e w0 ⟨rfl, hbelow⟩
  have HW := Lib.hid hbelow
  clear hbelow
  go_wp2_with fail
  refine (FA.out _).mono ?_
  rintro e w' ⟨rfl, rfl⟩
  go_wp2_with fail
  refine (FB.out _).mono ?_
  rintro e w' ⟨rfl, rfl⟩
  go_wp2_with fail
  refine (PA.out _).mono ?_
  rintro e w' ⟨rfl, rfl⟩
  go_wp2_with fail
  refine (PB.out _).mono ?_
  rintro e w' ⟨rfl, rfl⟩
  have fin : ∀ (W : World), (atOk p = true ∧ plc (atV p) = p ∧ decide (-9218868437227405312 ≤ p) = true ∧ decide (p ≤ 9218868437227405312) = true) ∨ (atOk p = false ∧ decide (-9218868437227405312 ≤ p) = false) ∨
    (atOk p = false ∧ decide (-9218868437227405312 ≤ p) = true ∧ decide (p ≤ 9218868437227405312) = false) := by
    intro _
    rcases atOk_cases p with h | h | h
    · exact .inl ⟨h.1, HS.out h.1, h.2⟩
    · exact .inr (.inl h)
    · exact .inr (.inr h)
  have FIN := Lib.hid (fin w)
  clear fin HS
  by_cases hna : isNaN double a = true
  · have hna' : isNaN FloatKind.f64.format a = true := hna
    by_cases hnb : isNaN double b = true
    · have hnb' : isNaN FloatKind.f64.format b = true := hnb
      go_wp2_with fail
      refine (AP.out _).mono ?_
      rintro e w' ⟨rfl, rfl⟩
      go_wp2_with fail
      refine (P2.out _).mono ?_
      rintro e w' ⟨rfl, rfl⟩
      rcases FIN.out with ⟨o1, o2, o3, o4⟩ | ⟨o1, o2⟩ | ⟨o1, o2, o3⟩
      all_goals go_wp2
      all_goals (go_ret; exact ⟨rfl, HW.out⟩)
    · have hnb : isNaN double b = false := by simpa using hnb
      have hnb' : isNaN FloatKind.f64.format b = false := hnb
      go_wp2_with fail
      refine (AP.out _).mono ?_
      rintro e w' ⟨rfl, rfl⟩
      go_wp2_with fail
      refine (P2.out _).mono ?_
      rintro e w' ⟨rfl, rfl⟩
      rcases FIN.out with ⟨o1, o2, o3, o4⟩ | ⟨o1, o2⟩ | ⟨o1, o2, o3⟩
      all_goals go_wp2
      all_goals (go_ret; exact ⟨rfl, HW.out⟩)
  · have hna : isNaN double a = false := by simpa using hna
    have hna' : isNaN FloatKind.f64.format a = false := hna
    have g1 := atOk_plc hna
    have g2 := feq_atV hna
    have G3 := Lib.hid (RealOrder_first a HA.out hna)
    have AA := Lib.hid (At_c (plc a) (by have := plc_bounds hna; omega))
    have G4 := Lib.hid (show isInf double a = false → _ from fun h => nx_there hna h)
    by_cases hnb : isNaN double b = true
    · have hnb' : isNaN FloatKind.f64.format b = true := hnb
      go_wp2_with fail
      refine (AA.out _).mono ?_
      rintro e w' ⟨rfl, rfl⟩
      cases hi : isInf double a
      case false =>
        obtain ⟨i1, i2, i3, i4⟩ := G4.out hi
        rcases G3.out with ⟨_, c1 | c1, c2, c3⟩ | ⟨c2, c3⟩
        all_goals (first | subst c1 | skip)
        all_goals clear G3 G4
        all_goals go_wp2_with fail
        all_goals (refine (N1.out _).mono ?_; rintro e w' ⟨rfl, rfl⟩)
        all_goals go_wp2_with fail
        all_goals (refine (N3.out _).mono ?_; rintro e w' ⟨rfl, rfl⟩)
        all_goals go_wp2_with fail
        all_goals (refine (N2.out _).mono ?_; rintro e w' ⟨rfl, rfl⟩)
        all_goals go_wp2_with fail
        all_goals (refine (N4.out _).mono ?_; rintro e w' ⟨rfl, rfl⟩)
        all_goals go_wp2_with fail
        all_goals (refine (IA.out _).mono ?_; rintro e w' ⟨rfl, rfl⟩)
        all_goals clear c2 c3 g1 g2
        all_goals go_wp2_with fail
        all_goals (refine (N2.out _).mono ?_; rintro e w' ⟨rfl, rfl⟩)
        all_goals go_wp2_with fail
        all_goals (refine (N1.out _).mono ?_; rintro e w' ⟨rfl, rfl⟩)
        all_goals go_wp2_with fail
        all_goals (refine (AP.out _).mono ?_; rintro e w' ⟨rfl, rfl⟩)
        all_goals go_wp2_with fail
        all_goals (refine (P2.out _).mono ?_; rintro e w' ⟨rfl, rfl⟩)
        all_goals (rcases FIN.out with ⟨o1, o2, o3, o4⟩ | ⟨o1, o2⟩ | ⟨o1, o2, o3⟩)
        all_goals go_wp2
        all_goals (go_ret; exact ⟨rfl, HW.out⟩)
      case true =>
        rcases G3.out with ⟨_, c1 | c1, c2, c3⟩ | ⟨c2, c3⟩
        all_goals (first | subst c1 | skip)
        all_goals clear G3 G4
        all_goals go_wp2_with fail
        all_goals (refine (N1.out _).mono ?_; rintro e w' ⟨rfl, rfl⟩)
        all_goals go_wp2_with fail
        all_goals (refine (N3.out _).mono ?_; rintro e w' ⟨rfl, rfl⟩)
        all_goals go_wp2_with fail
        all_goals (refine (N2.out _).mono ?_; rintro e w' ⟨rfl, rfl⟩)
        all_goals go_wp2_with fail
        all_goals (refine (N4.out _).mono ?_; rintro e w' ⟨rfl, rfl⟩)
        all_goals go_wp2_with fail
        all_goals (refine (IA.out _).mono ?_; rintro e w' ⟨rfl, rfl⟩)
        all_goals clear c2 c3 g1 g2
        all_goals go_wp2_with fail
        all_goals (refine (AP.out _).mono ?_; rintro e w' ⟨rfl, rfl⟩)
        all_goals go_wp2_with fail
        all_goals (refine (P2.out _).mono ?_; rintro e w' ⟨rfl, rfl⟩)
        all_goals (rcases FIN.out with ⟨o1, o2, o3, o4⟩ | ⟨o1, o2⟩ | ⟨o1, o2, o3⟩)
        all_goals go_wp2
        all_goals (go_ret; exact ⟨rfl, HW.out⟩)
    · have hnb : isNaN double b = false := by simpa using hnb
      have hnb' : isNaN FloatKind.f64.format b = false := hnb
      have t1 : flt .f64 a b = decide (plc a < plc b) := flt_plc hna hnb
      have t2 : feq .f64 a b = (plc a == plc b) := by rw [feq_plc hna hnb]; rfl
      have t3 : (flt .f64 a b != decide (plc a < plc b)) = false := by rw [t1]; simp
      go_wp2_with fail
      clear t1 t2 t3
      refine (AA.out _).mono ?_
      rintro e w' ⟨rfl, rfl⟩
      cases hi : isInf double a
      case false =>
        obtain ⟨i1, i2, i3, i4⟩ := G4.out hi
        rcases G3.out with ⟨_, c1 | c1, c2, c3⟩ | ⟨c2, c3⟩
        all_goals (first | subst c1 | skip)
        all_goals clear G3 G4
        all_goals go_wp2_with fail
        all_goals (refine (N1.out _).mono ?_; rintro e w' ⟨rfl, rfl⟩)
        all_goals go_wp2_with fail
        all_goals (refine (N3.out _).mono ?_; rintro e w' ⟨rfl, rfl⟩)
        all_goals go_wp2_with fail
        all_goals (refine (N2.out _).mono ?_; rintro e w' ⟨rfl, rfl⟩)
        all_goals go_wp2_with fail
        all_goals (refine (N4.out _).mono ?_; rintro e w' ⟨rfl, rfl⟩)
        all_goals go_wp2_with fail
        all_goals (refine (IA.out _).mono ?_; rintro e w' ⟨rfl, rfl⟩)
        all_goals clear c2 c3 g1 g2
        all_goals go_wp2_with fail
        all_goals (refine (N2.out _).mono ?_; rintro e w' ⟨rfl, rfl⟩)
        all_goals go_wp2_with fail
        all_goals (refine (N1.out _).mono ?_; rintro e w' ⟨rfl, rfl⟩)
        all_goals go_wp2_with fail
        all_goals (refine (AP.out _).mono ?_; rintro e w' ⟨rfl, rfl⟩)
        all_goals go_wp2_with fail
        all_goals (refine (P2.out _).mono ?_; rintro e w' ⟨rfl, rfl⟩)
        all_goals (rcases FIN.out with ⟨o1, o2, o3, o4⟩ | ⟨o1, o2⟩ | ⟨o1, o2, o3⟩)
        all_goals go_wp2
        all_goals (go_ret; exact ⟨rfl, HW.out⟩)
      case true =>
        rcases G3.out with ⟨_, c1 | c1, c2, c3⟩ | ⟨c2, c3⟩
        all_goals (first | subst c1 | skip)
        all_goals clear G3 G4
        all_goals go_wp2_with fail
        all_goals (refine (N1.out _).mono ?_; rintro e w' ⟨rfl, rfl⟩)
        all_goals go_wp2_with fail
        all_goals (refine (N3.out _).mono ?_; rintro e w' ⟨rfl, rfl⟩)
        all_goals go_wp2_with fail
        all_goals (refine (N2.out _).mono ?_; rintro e w' ⟨rfl, rfl⟩)
        all_goals go_wp2_with fail
        all_goals (refine (N4.out _).mono ?_; rintro e w' ⟨rfl, rfl⟩)
        all_goals go_wp2_with fail
        all_goals (refine (IA.out _).mono ?_; rintro e w' ⟨rfl, rfl⟩)
        all_goals clear c2 c3 g1 g2
        all_goals go_wp2_with fail
        all_goals (refine (AP.out _).mono ?_; rintro e w' ⟨rfl, rfl⟩)
        all_goals go_wp2_with fail
        all_goals (refine (P2.out _).mono ?_; rintro e w' ⟨rfl, rfl⟩)
        all_goals (rcases FIN.out with ⟨o1, o2, o3, o4⟩ | ⟨o1, o2⟩ | ⟨o1, o2, o3⟩)
        all_goals go_wp2
        all_goals (go_ret; exact ⟨rfl, HW.out⟩)
/-! ### The row's step -/
namespace realOrder_frame
open Go.ChangeShapes Go.WideShapes Go.ChangeAt Go.RowKit
theorem own : ownKnob Try.prog.godebug = none := by kernel_rfl
set_option maxRecDepth 100000 in
theorem lifted (os : Os) (started : os.Started) (H : Type) (enc : TypeId × Value → H) :
    ReturnsInHanded {} Try.checked os 5 .any (Rows.realOrderSpec.pre6 enc Try.prog Try.f5 Rows.realOrderRow.domain false) (Rows.realOrderSpec.post enc Try.prog Try.f5 false true false false) := by
  refine returnsInHanded_of_change (C := Try.checked) own started (by kernel_rfl) Try.func5
    (ChangeSpec.witness6 (enc := enc) (C := Try.checked) false ⟨#[], #[.int .u64 0, .int .u64 0, .int .i64 0], []⟩ 8 (by kernel_rfl) (by kernel_rfl) (by kernel_rfl) (by kernel_rfl)) ?_
  intro W base args ds gs before hval0 hW hcnd _
  have hval : ∀ (j : Nat) t v, Try.f5.params[j]? = some t → args[j]? = some v → Value.okWide Try.prog W .any base t v := hval0
  have hW' := hW
  obtain ⟨p, q, hA0, hV, rfl, hfz, hnd⟩ := hW
  have hA : DataW.TrodAll enc Try.prog W 0 (fun _ => true) true Try.f5.params.toList args.toList ds p := hA0
  rw [Try.params5] at hA hval
  obtain ⟨v0, vs0, d0, ds0, p0, q0, hargs, rfl, rfl, h0, r0⟩ := trodAll_cons hA
  obtain ⟨v1, vs1, d1, ds1, p1, q1, rfl, rfl, rfl, h1, r1⟩ := trodAll_cons r0
  obtain ⟨v2, vs2, d2, ds2, p2, q2, rfl, rfl, rfl, h2, r2⟩ := trodAll_cons r1
  obtain ⟨rfl, rfl, rfl⟩ := trodAll_nil r2
  obtain rfl : args = #[v0, v1, v2] := by cases args; simp_all
  obtain ⟨rfl, rfl⟩ := trodVars_none hV
  obtain ⟨a0, rfl, rfl, rfl, w0⟩ := open_int Try.underlying36 (hval 0 36 v0 rfl rfl) h0
  obtain ⟨n0, rfl, b0⟩ := wf_nat_u64 w0
  obtain ⟨a1, rfl, rfl, rfl, w1⟩ := open_int Try.underlying36 (hval 1 36 v1 rfl rfl) h1
  obtain ⟨n1, rfl, b1⟩ := wf_nat_u64 w1
  obtain ⟨a2, rfl, rfl, rfl, w2⟩ := open_int Try.underlying2 (hval 2 2 v2 rfl rfl) h2
  clear hA0 hval0
  simp only [List.append_nil] at hW'
  refine (RealOrder_walk n0 b0 n1 b1 a2 w2 W).mono fun e W' ⟨he, hg⟩ => ?_
  subst he
  exact ⟨_, rfl, post_of_below (pa := []) (pv := []) hW' (fun _ _ _ => (trodAll_cons_mk (shut_bool Try.underlying4 _) trodAll_mk0)) (fun sp _ => (trodAll_cons_mk (shut_int Try.underlying36 w0) (trodAll_cons_mk (shut_int Try.underlying36 w1) (trodAll_cons_mk (shut_int Try.underlying2 w2) trodAll_mk0)))) (fun _ _ => rfl) rfl
    hg (ok_one (by kernel_rfl) rfl (okWide_bool_mk Try.underlying4 _))⟩
theorem over : Rows.realOrderRow.holds Try.pinned (OpenSpec.ofChange Rows.realOrderSpec) :=
  OpenClaim.holds_of_wide 5 Try.f5 rfl rfl rfl rfl rfl rfl rfl ⟨rfl, rfl, rfl, rfl, rfl⟩ rfl rfl rfl rfl rfl (by kernel_rfl) Try.func5 (by kernel_rfl)
    (of_decide_eq_true (by kernel_rfl)) (by unfold Func.isWrapper; first | (rw [if_pos (by decide +kernel)]; kernel_rfl) | (rw [if_neg (by decide +kernel)]; exact ⟨rfl, rfl⟩))
    (fun os started H enc _ => lifted os started H enc)
end realOrder_frame

/-- THE STATEMENT. -/
theorem realOrder_holds : Rows.RealOrderSaid := realOrder_frame.over
#print axioms realOrder_holds
