/- Contracts of the angle: the program's and the reference's give one plain function. -/
import Derived.Test.YtbhjhlobmhpjfaaT04
namespace Go.Proofs.Ytbhjhlobmhpjfaa
open Go.RowKit Fl Ieee
set_option maxRecDepth 20000
attribute [local go_sem] Fl.order_self Fl.order_self' Fl.order_eq Fl.order_ne Fl.order_lt Fl.order_gt Fl.fle_fold Fl.fge_fold Fl.negFloat_flip x_f64frombits
/-- A real and an error are handed back. -/
def RetRE (v : Nat) (er : Int) (w : World) (e : Ending) (w' : World) : Prop :=
  ∃ x n, e = .returned (.tuple #[.float .f64 x, .int .i64 er]) ∧ cn .f64 x = v ∧ x < 18446744073709551616 ∧ w' = w.drewN n
theorem closeRE {v x n : Nat} {er : Int} {w : World} (h1 : cn .f64 x = v) (hx : x < 18446744073709551616) : RetRE v er w (.returned (.tuple #[.float .f64 x, .int .i64 er])) (w.drewN n) := ⟨x, n, rfl, h1, hx, rfl⟩
theorem closeRE0 {v x : Nat} {er : Int} {w : World} (h1 : cn .f64 x = v) (hx : x < 18446744073709551616) : RetRE v er w (.returned (.tuple #[.float .f64 x, .int .i64 er])) w := ⟨x, 0, rfl, h1, hx, rfl⟩
/-- The three halvings. -/
def tT (t : Nat) : Nat → Nat
  | 0 => t
  | k + 1 => fdiv (tT t k) (fadd fone (fsqrt (fadd fone (fmul (tT t k) (tT t k)))))
/-- 13, 11, .. 1, -1. -/
def dT (k : Nat) : Nat := [4623507967449235456, 4622382067542392832, 4621256167635550208, 4619567317775286272, 4617315517961601024, 4613937818241073152, 4607182418800017408, 13830554455654793216].getD k 0
/-- The sum of the arc's row. -/
def sT (u : Nat) : Nat → Nat
  | 0 => 4589468260265693457
  | k + 1 => fsub (fdiv fone (dT k)) (fmul u (sT u k))
theorem dT_sub : ∀ k, k < 7 → fop .sub .f64 (dT k) 4611686018427387904 = dT (k + 1) := by decide +kernel
theorem dT_pos : ∀ k, k < 7 → flt .f64 0 (dT k) = true := by decide +kernel
theorem dT_end : flt .f64 0 (dT 7) = false := by decide +kernel
theorem dT_good : ∀ k, k < 8 → isNaN double (dT k) = false ∧ dT k < 18446744073709551616 := by decide +kernel
theorem dT_int : ∀ k : Nat, k < 7 → floatOfInt .f64 (13 - 2 * (k : Int)) = dT k := by decide +kernel
theorem cn_dT {k : Nat} (h : k < 8) : cn .f64 (dT k) = dT k := cn_of_not (k := .f64) (dT_good k h).1
/-- Out of the quotient of the sizes. -/
def arc (t : Nat) : Nat := fmul (fmul (fmul 4620693217682128896 (tT t 3)) (sT (fmul (tT t 3) (tT t 3)) 7)) 4615783660508851396
def turn1 (c : Bool) (v : Nat) : Nat := if c then fsub 4618441417868443648 v else v
def turn2 (c : Bool) (v : Nat) : Nat := if c then fsub 4622945017495814144 v else v
def turn3 (c : Bool) (v : Nat) : Nat := if c then fsub 0 v else v
/-- The angle of a number that is finite and not 0: p, q its parts' bits. -/
def angle (p q : Nat) : Nat :=
  let a := rung double p
  let b := rung double q
  turn3 (flt .f64 q 0) (turn2 (flt .f64 p 0) (turn1 (flt .f64 a b) (arc (if flt .f64 b a then fdiv b a else fdiv a b))))
theorem eq_of_cn {x c : Nat} (h : cn .f64 x = c) (hn : isNaN double c = false) : x = c := by
  have h1 : isNaN double x = false := by rw [← h] at hn; exact (isNaN_cn64 x).symm.trans hn
  rw [cn_of_not (k := .f64) h1] at h; exact h
theorem cnK1 : cn .f64 4607182418800017408 = fone := by decide
theorem cnK8 : cn .f64 4620693217682128896 = 4620693217682128896 := by decide
theorem cnKc : cn .f64 4615783660508851396 = 4615783660508851396 := by decide
theorem cnK6 : cn .f64 4618441417868443648 = 4618441417868443648 := by decide
theorem cnK12 : cn .f64 4622945017495814144 = 4622945017495814144 := by decide
theorem cnK2 : cn .f64 4611686018427387904 = 4611686018427387904 := by decide
theorem cnS0 : cn .f64 4589468260265693457 = 4589468260265693457 := by decide
/-- How far the row has come, by the float that counts. -/
def dN : Value → Nat
  | .float _ b => [4623507967449235456, 4622382067542392832, 4621256167635550208, 4619567317775286272, 4617315517961601024, 4613937818241073152, 4607182418800017408].idxOf b
  | _ => 0
theorem int_eq {k : IntKind} {a b : Int} (h : a = b) : Value.int k a = Value.int k b := by rw [h]
theorem dN_less : ∀ j, j < 7 → 8 - dN (.float .f64 (dT (j + 1))) < 8 - dN (.float .f64 (dT j)) := by decide +kernel
theorem flt_asymm {x y : Nat} (h : flt .f64 x y = true) : flt .f64 y x = false := by
  rw [flt_def] at h ⊢
  simp only [Bool.and_eq_true, Bool.not_eq_true', decide_eq_true_eq] at h
  rw [h.1.1, h.1.2, decide_eq_false (by omega)]; rfl
theorem eq_of_not_lt {x y : Nat} (hx : isNaN double x = false) (hy : isNaN double y = false) (h1 : flt .f64 (rung double x) (rung double y) = false) (h2 : flt .f64 (rung double y) (rung double x) = false) : rung double x = rung double y := by
  have a1 := flt_def .f64 (rung double x) (rung double y)
  have a2 := flt_def .f64 (rung double y) (rung double x)
  have n1 : isNaN FloatKind.f64.format (rung double x) = false := (isNaN_rung double x).trans hx
  have n2 : isNaN FloatKind.f64.format (rung double y) = false := (isNaN_rung double y).trans hy
  have k1 : key FloatKind.f64.format (rung double x) = rung double x := key_rung double x
  have k2 : key FloatKind.f64.format (rung double y) = rung double y := key_rung double y
  rw [h1, n1, n2, k1, k2] at a1
  rw [h2, n1, n2, k1, k2] at a2
  simp at a1 a2
  omega
theorem order_of_flt {x y : Nat} (h : flt .f64 x y = true) : FloatKind.f64.format.order x y = some .lt := by
  unfold flt at h; simpa using h
theorem order_of_gt {x y : Nat} (h : flt .f64 y x = true) : FloatKind.f64.format.order x y = some .gt := by
  have := order_gt .f64 x y
  rw [h] at this; simpa using this
theorem run_min_lt {P : Program} {x y : Nat} (h : flt .f64 x y = true) (ts : Array TypeId) (t : TypeId) (W : World) :
    (Builtin.min_ ts t #[.float .f64 x, .float .f64 y]).run P W = .ok (.float .f64 x) W := by
  simp [Builtin.min_, Builtin.min2, order_of_flt h]
theorem run_min_gt {P : Program} {x y : Nat} (h : flt .f64 y x = true) (ts : Array TypeId) (t : TypeId) (W : World) :
    (Builtin.min_ ts t #[.float .f64 x, .float .f64 y]).run P W = .ok (.float .f64 y) W := by
  simp [Builtin.min_, Builtin.min2, order_of_gt h]
theorem run_max_lt {P : Program} {x y : Nat} (h : flt .f64 x y = true) (ts : Array TypeId) (t : TypeId) (W : World) :
    (Builtin.max_ ts t #[.float .f64 x, .float .f64 y]).run P W = .ok (.float .f64 y) W := by
  simp [Builtin.max_, Builtin.max2, order_of_flt h]
theorem run_max_gt {P : Program} {x y : Nat} (h : flt .f64 y x = true) (ts : Array TypeId) (t : TypeId) (W : World) :
    (Builtin.max_ ts t #[.float .f64 x, .float .f64 y]).run P W = .ok (.float .f64 x) W := by
  simp [Builtin.max_, Builtin.max2, order_of_gt h]
theorem run_min_self {P : Program} {x : Nat} (hn : isNaN double x = false) (ts : Array TypeId) (t : TypeId) (W : World) :
    (Builtin.min_ ts t #[.float .f64 x, .float .f64 x]).run P W = .ok (.float .f64 x) W := by
  have h : FloatKind.f64.format.order x x = some .eq := by
    have := order_self .f64 x
    have hn' : isNaN FloatKind.f64.format x = false := hn
    rw [hn'] at this; simpa using this
  simp [Builtin.min_, Builtin.min2, h]
theorem run_max_self {P : Program} {x : Nat} (hn : isNaN double x = false) (ts : Array TypeId) (t : TypeId) (W : World) :
    (Builtin.max_ ts t #[.float .f64 x, .float .f64 x]).run P W = .ok (.float .f64 x) W := by
  have h : FloatKind.f64.format.order x x = some .eq := by
    have := order_self .f64 x
    have hn' : isNaN FloatKind.f64.format x = false := hn
    rw [hn'] at this; simpa using this
  simp [Builtin.max_, Builtin.max2, h]
theorem Angle_no (p q : Nat) (hp : p < 18446744073709551616) (hq : q < 18446744073709551616) (hf : pFinite (cn .f64 p, cn .f64 q) = false) (w : World) :
    Calls Try.prog 17 #[.complex .f64 p q] w (RetRE 0 5 w) := by
  go_enter Try.func17, Try.ntmps17
  go_wp2_with (go_at_call 34; refine (Finite_c _ _ hp hq _).mono ?_; rintro e w' ⟨n, rfl, rfl⟩)
  go_ret2; exact closeRE cn0 (by omega)
theorem Angle_zero (p q : Nat) (hp : p < 18446744073709551616) (hq : q < 18446744073709551616) (hf : pFinite (cn .f64 p, cn .f64 q) = true) (h1 : feq .f64 p 0 = true) (h2 : feq .f64 q 0 = true) (w : World) :
    Calls Try.prog 17 #[.complex .f64 p q] w (RetRE 0 2 w) := by
  go_enter Try.func17, Try.ntmps17
  go_wp2_with (go_at_call 34; refine (Finite_c _ _ hp hq _).mono ?_; rintro e w' ⟨n, rfl, rfl⟩)
  go_ret2; exact closeRE cn0 (by omega)
-- The main way: N and G the less and the greater of both sizes.
set_option maxHeartbeats 2000000 in
theorem Angle_main (p q N G : Nat) (hp : p < 18446744073709551616) (hq : q < 18446744073709551616) (hf : pFinite (cn .f64 p, cn .f64 q) = true) (hz : (feq .f64 p 0 && feq .f64 q 0) = false)
    (hmin : ∀ (ts : Array TypeId) (t : TypeId) (W : World), (Builtin.min_ ts t #[.float .f64 (rung double p), .float .f64 (rung double q)]).run Try.prog W = .ok (.float .f64 N) W)
    (hmax : ∀ (ts : Array TypeId) (t : TypeId) (W : World), (Builtin.max_ ts t #[.float .f64 (rung double p), .float .f64 (rung double q)]).run Try.prog W = .ok (.float .f64 G) W) (w : World) :
    Calls Try.prog 17 #[.complex .f64 p q] w
      (RetRE (turn3 (flt .f64 q 0) (turn2 (flt .f64 p 0) (turn1 (flt .f64 (rung double p) (rung double q)) (arc (fdiv (cn .f64 N) (cn .f64 G)))))) 0 w) := by
  obtain ⟨v, hv⟩ : ∃ v, v = turn3 (flt .f64 q 0) (turn2 (flt .f64 p 0) (turn1 (flt .f64 (rung double p) (rung double q)) (arc (fdiv (cn .f64 N) (cn .f64 G))))) := ⟨_, rfl⟩
  rw [← hv]
  have HV : Hid _ := hv
  clear hv
  obtain ⟨t0, ht0⟩ : ∃ t0, t0 = fdiv (cn .f64 N) (cn .f64 G) := ⟨_, rfl⟩
  have HT0 : Hid _ := ht0
  clear ht0
  go_enter Try.func17, Try.ntmps17
  go_wp2_with (first
    | (go_at_call 34; refine (Finite_c _ _ hp hq _).mono ?_; rintro e w' ⟨n, rfl, rfl⟩)
    | (go_at_call 35; refine (mAbs_c _ (by assumption) _).mono ?_; rintro e w' ⟨rfl, rfl⟩))
  refine upon_quo _ _ _ _ ?_
  intro r1 n1 h1
  have b1 : r1 < 18446744073709551616 := h1.2
  have e1 : Hid (cn .f64 r1 = tT t0 0) := h1.1.trans HT0.out.symm
  clear h1
  clear hmin hmax
  go_wp2_with fail
  go_loopw [6, 7, 31] (fun t _ i wr => ∃ k x n : Nat, k ≤ 3 ∧ i = .int .i64 k ∧ t = .float .f64 x ∧ Hid (cn .f64 x = tT t0 k) ∧ x < 18446744073709551616 ∧ wr = w.drewN n) (fun _ _ i _ => 3 - (intOf i).toNat)
  case atStart => exact ⟨0, r1, _, by omega, rfl, rfl, e1, b1, rfl⟩
  case round =>
    obtain ⟨k, x, n, hk, rfl, rfl, hx, bx, rfl⟩ := hrel
    by_cases hlt : k < 3
    · skip
      go_wp2_with fail
      refine upon_mul _ _ _ _ ?_
      intro r2 n2 h2
      go_wp2_with fail
      refine upon_add _ _ _ _ ?_
      intro r3 n3 h3
      go_wp2_with fail
      refine (mSqrt_c _ _).mono ?_
      rintro e w' ⟨x4, n4, rfl, g4, bx4, rfl⟩
      have H4 : Hid _ := g4
      clear g4
      go_wp2_with fail
      refine upon_add _ _ _ _ ?_
      intro r5 n5 h5
      go_wp2_with fail
      refine upon_quo _ _ _ _ ?_
      intro r6 n6 h6
      go_wp2
      go_roundw
      case rel =>
        refine ⟨k + 1, r6, _, by omega, by go_num, rfl, ?_, h6.2, rfl⟩
        show cn .f64 r6 = _
        rw [h6.1, h5.1, H4.out, h3.1, h2.1, hx.out, cnK1]; rfl
      case measure => simp [intOf]; omega
    · obtain rfl : k = 3 := by omega
      clear hlt hk
      go_wp2_with fail
      refine upon_mul _ _ _ _ ?_
      intro r7 n7 h7
      go_wp2_with fail
      go_loopw [9, 10, 11] (fun s d _ wr => ∃ j y n : Nat, j ≤ 7 ∧ d = .float .f64 (dT j) ∧ s = .float .f64 y ∧ Hid (cn .f64 y = sT (fmul (tT t0 3) (tT t0 3)) j) ∧ y < 18446744073709551616 ∧ wr = w.drewN n)
        (fun _ d _ _ => 8 - dN d)
      case atStart => exact ⟨0, _, _, by omega, rfl, rfl, cnS0, by omega, rfl⟩
      case round =>
        obtain ⟨j, y, m, hj, rfl, rfl, hy, yb, rfl⟩ := hrel
        by_cases hjt : j < 7
        · have d1 := dT_pos j hjt
          go_wp2_with fail
          refine upon_mul _ _ _ _ ?_
          intro r8 n8 h8
          go_wp2_with fail
          refine upon_quo _ _ _ _ ?_
          intro r9 n9 h9
          go_wp2_with fail
          refine upon_sub _ _ _ _ ?_
          intro r10 n10 h10
          go_wp2_with fail
          refine upon_sub _ _ _ _ ?_
          intro r11 n11 h11
          obtain rfl : r11 = dT (j + 1) := eq_of_cn (by rw [h11.1, cn_dT (by omega), cnK2]; exact dT_sub j hjt) (dT_good _ (by omega)).1
          go_wp2
          go_roundw
          case rel =>
            refine ⟨j + 1, r10, _, by omega, rfl, rfl, ?_, h10.2, rfl⟩
            show cn .f64 r10 = _
            rw [h10.1, h9.1, h8.1, h7.1, hy.out, hx.out, cnK1, cn_dT (by omega)]; rfl
          case measure => exact dN_less j hjt
        · obtain rfl : j = 7 := by omega
          have d1 := dT_end
          clear hjt hj
          go_wp2_with fail
          refine upon_mul _ _ _ _ ?_
          intro r12 n12 h12
          go_wp2_with fail
          refine upon_mul _ _ _ _ ?_
          intro r13 n13 h13
          go_wp2_with fail
          refine upon_mul _ _ _ _ ?_
          intro r14 n14 h14
          have ha : Hid (cn .f64 r14 = arc t0) := by
            show cn .f64 r14 = arc t0
            rw [h14.1, h13.1, h12.1, hx.out, hy.out, cnK8, cnKc]; rfl
          have b14 : r14 < 18446744073709551616 := h14.2
          have hvv : Hid (v = turn3 (flt .f64 q 0) (turn2 (flt .f64 p 0) (turn1 (flt .f64 (rung double p) (rung double q)) (arc t0)))) := by
            show v = _
            rw [HV.out, HT0.out]
          clear h7 h12 h13 h14 HV
          cases c0 : flt .f64 (rung double p) (rung double q)
          · skip
            cases c1 : flt .f64 p 0
            · skip
              cases c2 : flt .f64 q 0
              · skip
                go_wp2
                go_ret2
                refine closeRE ?_ b14
                have hh := hvv.out
                rw [c0, c1, c2] at hh
                rw [hh, ha.out]; rfl
              · skip
                go_wp2_with fail
                refine upon_sub _ _ _ _ ?_
                intro r22 m22 h22
                go_wp2
                go_ret2
                refine closeRE ?_ h22.2
                have hh := hvv.out
                rw [c0, c1, c2] at hh
                rw [hh, h22.1, cn0, ha.out]; rfl
            · skip
              go_wp2_with fail
              refine upon_sub _ _ _ _ ?_
              intro r21 m21 h21
              cases c2 : flt .f64 q 0
              · skip
                go_wp2
                go_ret2
                refine closeRE ?_ h21.2
                have hh := hvv.out
                rw [c0, c1, c2] at hh
                rw [hh, h21.1, cnK12, ha.out]; rfl
              · skip
                go_wp2_with fail
                refine upon_sub _ _ _ _ ?_
                intro r22 m22 h22
                go_wp2
                go_ret2
                refine closeRE ?_ h22.2
                have hh := hvv.out
                rw [c0, c1, c2] at hh
                rw [hh, h22.1, cn0, h21.1, cnK12, ha.out]; rfl
          · skip
            go_wp2_with fail
            refine upon_sub _ _ _ _ ?_
            intro r20 m20 h20
            cases c1 : flt .f64 p 0
            · skip
              cases c2 : flt .f64 q 0
              · skip
                go_wp2
                go_ret2
                refine closeRE ?_ h20.2
                have hh := hvv.out
                rw [c0, c1, c2] at hh
                rw [hh, h20.1, cnK6, ha.out]; rfl
              · skip
                go_wp2_with fail
                refine upon_sub _ _ _ _ ?_
                intro r22 m22 h22
                go_wp2
                go_ret2
                refine closeRE ?_ h22.2
                have hh := hvv.out
                rw [c0, c1, c2] at hh
                rw [hh, h22.1, cn0, h20.1, cnK6, ha.out]; rfl
            · skip
              go_wp2_with fail
              refine upon_sub _ _ _ _ ?_
              intro r21 m21 h21
              cases c2 : flt .f64 q 0
              · skip
                go_wp2
                go_ret2
                refine closeRE ?_ h21.2
                have hh := hvv.out
                rw [c0, c1, c2] at hh
                rw [hh, h21.1, cnK12, h20.1, cnK6, ha.out]; rfl
              · skip
                go_wp2_with fail
                refine upon_sub _ _ _ _ ?_
                intro r22 m22 h22
                go_wp2
                go_ret2
                refine closeRE ?_ h22.2
                have hh := hvv.out
                rw [c0, c1, c2] at hh
                rw [hh, h22.1, cn0, h21.1, cnK12, h20.1, cnK6, ha.out]; rfl
theorem Angle_c (p q : Nat) (hp : p < 18446744073709551616) (hq : q < 18446744073709551616) (hf : pFinite (cn .f64 p, cn .f64 q) = true) (hz : (feq .f64 p 0 && feq .f64 q 0) = false) (w : World) :
    Calls Try.prog 17 #[.complex .f64 p q] w (RetRE (angle p q) 0 w) := by
  have ⟨f1, f2⟩ : isFin double (cn .f64 p) = true ∧ isFin double (cn .f64 q) = true := by simpa [pFinite] using hf
  have nan_of : ∀ x, isFin double (cn .f64 x) = true → isNaN double x = false := by
    intro x h
    rw [← isNaN_cn64]
    simp only [isFin, isNaN, decide_eq_true_eq, decide_eq_false_iff_not] at *; omega
  have n1 := nan_of p f1
  have n2 := nan_of q f2
  have c1 : cn .f64 (rung double p) = rung double p := cn_of_not (k := .f64) ((isNaN_rung double p).trans n1)
  have c2 : cn .f64 (rung double q) = rung double q := cn_of_not (k := .f64) ((isNaN_rung double q).trans n2)
  cases h1 : flt .f64 (rung double q) (rung double p)
  · cases h2 : flt .f64 (rung double p) (rung double q)
    · have e := eq_of_not_lt n1 n2 h2 h1
      have hm := Angle_main p q (rung double p) (rung double p) hp hq hf hz
        (by rw [← e]; exact run_min_self ((isNaN_rung double p).trans n1)) (by rw [← e]; exact run_max_self ((isNaN_rung double p).trans n1)) w
      have ev : angle p q = turn3 (flt .f64 q 0) (turn2 (flt .f64 p 0) (turn1 (flt .f64 (rung double p) (rung double q)) (arc (fdiv (cn .f64 (rung double p)) (cn .f64 (rung double p)))))) := by
        unfold angle; dsimp only; rw [h1, c1, ← e]; rfl
      rw [ev]; exact hm
    · have hm := Angle_main p q (rung double p) (rung double q) hp hq hf hz (run_min_lt h2) (run_max_lt h2) w
      have ev : angle p q = turn3 (flt .f64 q 0) (turn2 (flt .f64 p 0) (turn1 (flt .f64 (rung double p) (rung double q)) (arc (fdiv (cn .f64 (rung double p)) (cn .f64 (rung double q)))))) := by
        unfold angle; dsimp only; rw [h1, c1, c2]; rfl
      rw [ev]; exact hm
  · have hm := Angle_main p q (rung double q) (rung double p) hp hq hf hz (run_min_gt h1) (run_max_gt h1) w
    have ev : angle p q = turn3 (flt .f64 q 0) (turn2 (flt .f64 p 0) (turn1 (flt .f64 (rung double p) (rung double q)) (arc (fdiv (cn .f64 (rung double q)) (cn .f64 (rung double p)))))) := by
      unfold angle; dsimp only; rw [h1, c1, c2]; rfl
    rw [ev]; exact hm
theorem rAngle_no (p q : Nat) (hp : p < 18446744073709551616) (hq : q < 18446744073709551616) (hf : pFinite (cn .f64 p, cn .f64 q) = false) (w : World) :
    Calls Try.prog 18 #[.complex .f64 p q] w (RetRE 0 5 w) := by
  go_enter Try.func18, Try.ntmps18
  go_wp2_with (go_at_call 37; refine (rFinite_c _ _ hp hq _).mono ?_; rintro e w' ⟨n, rfl, rfl⟩)
  go_ret2; exact closeRE cn0 (by omega)
theorem rAngle_zero (p q : Nat) (hp : p < 18446744073709551616) (hq : q < 18446744073709551616) (hf : pFinite (cn .f64 p, cn .f64 q) = true) (h1 : feq .f64 p 0 = true) (h2 : feq .f64 q 0 = true) (w : World) :
    Calls Try.prog 18 #[.complex .f64 p q] w (RetRE 0 2 w) := by
  go_enter Try.func18, Try.ntmps18
  go_wp2_with (go_at_call 37; refine (rFinite_c _ _ hp hq _).mono ?_; rintro e w' ⟨n, rfl, rfl⟩)
  go_ret2; exact closeRE cn0 (by omega)

set_option maxHeartbeats 2000000 in
theorem rAngle_true (p q : Nat) (hp : p < 18446744073709551616) (hq : q < 18446744073709551616) (hf : pFinite (cn .f64 p, cn .f64 q) = true) (hz : (feq .f64 p 0 && feq .f64 q 0) = false)
    (hlt0 : flt .f64 (rung double q) (rung double p) = true) (w : World) :
    Calls Try.prog 18 #[.complex .f64 p q] w (RetRE (angle p q) 0 w) := by
  have ⟨f1, f2⟩ : isFin double (cn .f64 p) = true ∧ isFin double (cn .f64 q) = true := by simpa [pFinite] using hf
  have nan_of : ∀ x, isFin double (cn .f64 x) = true → isNaN double x = false := by
    intro x h
    rw [← isNaN_cn64]
    simp only [isFin, isNaN, decide_eq_true_eq, decide_eq_false_iff_not] at *; omega
  have nn1 := nan_of p f1
  have nn2 := nan_of q f2
  have cc1 : cn .f64 (rung double p) = rung double p := cn_of_not (k := .f64) ((isNaN_rung double p).trans nn1)
  have cc2 : cn .f64 (rung double q) = rung double q := cn_of_not (k := .f64) ((isNaN_rung double q).trans nn2)
  obtain ⟨t0, ht0⟩ : ∃ t0, t0 = fdiv (cn .f64 (rung double q)) (cn .f64 (rung double p)) := ⟨_, rfl⟩
  have hv : angle p q = turn3 (flt .f64 q 0) (turn2 (flt .f64 p 0) (turn1 (flt .f64 (rung double p) (rung double q)) (arc t0))) := by
    rw [ht0]; unfold angle; dsimp only; rw [hlt0, cc1, cc2]; rfl
  obtain ⟨v, ev⟩ : ∃ v, v = angle p q := ⟨_, rfl⟩
  rw [← ev] at hv ⊢
  have hvv : Hid _ := hv
  have HT0 : Hid _ := ht0
  clear hv ht0 ev cc1 cc2 nn1 nn2 nan_of f1 f2
  have zz : feq .f64 p 0 = false ∨ (feq .f64 p 0 = true ∧ feq .f64 q 0 = false) := by
    cases h : feq .f64 p 0
    · exact .inl rfl
    · refine .inr ⟨rfl, ?_⟩; rw [h] at hz; simpa using hz
  clear hz
  rcases zz with z1 | ⟨z1, z2⟩
  all_goals
    go_enter Try.func18, Try.ntmps18
    go_wp2_with (first
      | (go_at_call 37; refine (rFinite_c _ _ hp hq _).mono ?_; rintro e w' ⟨n, rfl, rfl⟩)
      | (go_at_call 35; refine (mAbs_c _ (by assumption) _).mono ?_; rintro e w' ⟨rfl, rfl⟩))
    refine upon_quo _ _ _ _ ?_
    intro r1 n1 h1
    have b1 : r1 < 18446744073709551616 := h1.2
    have e1 : Hid (cn .f64 r1 = tT t0 0) := h1.1.trans HT0.out.symm
    clear h1
    go_wp2_with fail
    go_loopw [10, 11, 12] (fun t i _ wr => ∃ k x n : Nat, k ≤ 3 ∧ i = .int .i64 k ∧ t = .float .f64 x ∧ Hid (cn .f64 x = tT t0 k) ∧ x < 18446744073709551616 ∧ wr = w.drewN n) (fun _ i _ _ => 3 - (intOf i).toNat)
    case atStart => exact ⟨0, r1, _, by omega, rfl, rfl, e1, b1, rfl⟩
    case round =>
      obtain ⟨k, x, n, hk, rfl, rfl, hx, bx, rfl⟩ := hrel
      by_cases hlt : k < 3
      · skip
        go_wp2_with fail
        refine upon_mul _ _ _ _ ?_
        intro r2 n2 h2
        go_wp2_with fail
        refine upon_add _ _ _ _ ?_
        intro r3 n3 h3
        go_wp2_with fail
        refine (mSqrt_c _ _).mono ?_
        rintro e w' ⟨x4, n4, rfl, g4, bx4, rfl⟩
        have H4 : Hid _ := g4
        clear g4
        go_wp2_with fail
        refine upon_add _ _ _ _ ?_
        intro r5 n5 h5
        go_wp2_with fail
        refine upon_quo _ _ _ _ ?_
        intro r6 n6 h6
        go_wp2
        go_roundw
        case rel =>
          refine ⟨k + 1, r6, _, by omega, by go_num, rfl, ?_, h6.2, rfl⟩
          show cn .f64 r6 = _
          rw [h6.1, h5.1, H4.out, h3.1, h2.1, hx.out, cnK1]; rfl
        case measure => simp [intOf]; omega
      · obtain rfl : k = 3 := by omega
        clear hlt hk
        go_wp2_with fail
        refine upon_mul _ _ _ _ ?_
        intro r7 n7 h7
        go_wp2_with fail
        go_loopw [14, 15, 16, 17] (fun s d _ _ wr => ∃ j y n : Nat, j ≤ 7 ∧ d = .int .i64 (13 - 2 * (j : Int)) ∧ s = .float .f64 y ∧ Hid (cn .f64 y = sT (fmul (tT t0 3) (tT t0 3)) j) ∧ y < 18446744073709551616 ∧ wr = w.drewN n)
          (fun _ d _ _ _ => (intOf d + 1).toNat)
        case atStart => exact ⟨0, _, _, by omega, rfl, rfl, cnS0, by omega, rfl⟩
        case round =>
          obtain ⟨j, y, m, hj, rfl, rfl, hy, yb, rfl⟩ := hrel
          by_cases hjt : j < 7
          · have di := dT_int j hjt
            go_wp2_with fail
            refine upon_mul _ _ _ _ ?_
            intro r8 n8 h8
            go_wp2_with fail
            refine upon_quo _ _ _ _ ?_
            intro r9 n9 h9
            go_wp2_with fail
            refine upon_sub _ _ _ _ ?_
            intro r10 n10 h10
            go_wp2
            go_roundw
            case rel =>
              refine ⟨j + 1, r10, _, by omega, int_eq (by omega), rfl, ?_, h10.2, rfl⟩
              show cn .f64 r10 = _
              rw [h10.1, h9.1, h8.1, h7.1, hy.out, hx.out, cnK1, cn_dT (by omega)]; rfl
            case measure => simp [intOf]; omega
          · obtain rfl : j = 7 := by omega
            clear hjt hj
            go_wp2_with fail
            refine upon_mul _ _ _ _ ?_
            intro r12 n12 h12
            go_wp2_with fail
            refine upon_mul _ _ _ _ ?_
            intro r13 n13 h13
            go_wp2_with fail
            refine upon_mul _ _ _ _ ?_
            intro r14 n14 h14
            have ha : Hid (cn .f64 r14 = arc t0) := by
              show cn .f64 r14 = arc t0
              rw [h14.1, h13.1, h12.1, hx.out, hy.out, cnK8, cnKc]; rfl
            have b14 : r14 < 18446744073709551616 := h14.2
            clear h7 h12 h13 h14
            cases c0 : flt .f64 (rung double p) (rung double q)
            · skip
              cases c1 : flt .f64 p 0
              · skip
                cases c2 : flt .f64 q 0
                · skip
                  go_wp2
                  go_ret2
                  refine closeRE ?_ b14
                  have hh := hvv.out
                  rw [c0, c1, c2] at hh
                  rw [hh, ha.out]; rfl
                · skip
                  go_wp2_with fail
                  refine upon_sub _ _ _ _ ?_
                  intro r22 m22 h22
                  go_wp2
                  go_ret2
                  refine closeRE ?_ h22.2
                  have hh := hvv.out
                  rw [c0, c1, c2] at hh
                  rw [hh, h22.1, cn0, ha.out]; rfl
              · skip
                go_wp2_with fail
                refine upon_sub _ _ _ _ ?_
                intro r21 m21 h21
                cases c2 : flt .f64 q 0
                · skip
                  go_wp2
                  go_ret2
                  refine closeRE ?_ h21.2
                  have hh := hvv.out
                  rw [c0, c1, c2] at hh
                  rw [hh, h21.1, cnK12, ha.out]; rfl
                · skip
                  go_wp2_with fail
                  refine upon_sub _ _ _ _ ?_
                  intro r22 m22 h22
                  go_wp2
                  go_ret2
                  refine closeRE ?_ h22.2
                  have hh := hvv.out
                  rw [c0, c1, c2] at hh
                  rw [hh, h22.1, cn0, h21.1, cnK12, ha.out]; rfl
            · skip
              go_wp2_with fail
              refine upon_sub _ _ _ _ ?_
              intro r20 m20 h20
              cases c1 : flt .f64 p 0
              · skip
                cases c2 : flt .f64 q 0
                · skip
                  go_wp2
                  go_ret2
                  refine closeRE ?_ h20.2
                  have hh := hvv.out
                  rw [c0, c1, c2] at hh
                  rw [hh, h20.1, cnK6, ha.out]; rfl
                · skip
                  go_wp2_with fail
                  refine upon_sub _ _ _ _ ?_
                  intro r22 m22 h22
                  go_wp2
                  go_ret2
                  refine closeRE ?_ h22.2
                  have hh := hvv.out
                  rw [c0, c1, c2] at hh
                  rw [hh, h22.1, cn0, h20.1, cnK6, ha.out]; rfl
              · skip
                go_wp2_with fail
                refine upon_sub _ _ _ _ ?_
                intro r21 m21 h21
                cases c2 : flt .f64 q 0
                · skip
                  go_wp2
                  go_ret2
                  refine closeRE ?_ h21.2
                  have hh := hvv.out
                  rw [c0, c1, c2] at hh
                  rw [hh, h21.1, cnK12, h20.1, cnK6, ha.out]; rfl
                · skip
                  go_wp2_with fail
                  refine upon_sub _ _ _ _ ?_
                  intro r22 m22 h22
                  go_wp2
                  go_ret2
                  refine closeRE ?_ h22.2
                  have hh := hvv.out
                  rw [c0, c1, c2] at hh
                  rw [hh, h22.1, cn0, h21.1, cnK12, h20.1, cnK6, ha.out]; rfl
set_option maxHeartbeats 2000000 in
theorem rAngle_false (p q : Nat) (hp : p < 18446744073709551616) (hq : q < 18446744073709551616) (hf : pFinite (cn .f64 p, cn .f64 q) = true) (hz : (feq .f64 p 0 && feq .f64 q 0) = false)
    (hlt0 : flt .f64 (rung double q) (rung double p) = false) (w : World) :
    Calls Try.prog 18 #[.complex .f64 p q] w (RetRE (angle p q) 0 w) := by
  have ⟨f1, f2⟩ : isFin double (cn .f64 p) = true ∧ isFin double (cn .f64 q) = true := by simpa [pFinite] using hf
  have nan_of : ∀ x, isFin double (cn .f64 x) = true → isNaN double x = false := by
    intro x h
    rw [← isNaN_cn64]
    simp only [isFin, isNaN, decide_eq_true_eq, decide_eq_false_iff_not] at *; omega
  have nn1 := nan_of p f1
  have nn2 := nan_of q f2
  have cc1 : cn .f64 (rung double p) = rung double p := cn_of_not (k := .f64) ((isNaN_rung double p).trans nn1)
  have cc2 : cn .f64 (rung double q) = rung double q := cn_of_not (k := .f64) ((isNaN_rung double q).trans nn2)
  obtain ⟨t0, ht0⟩ : ∃ t0, t0 = fdiv (cn .f64 (rung double p)) (cn .f64 (rung double q)) := ⟨_, rfl⟩
  have hv : angle p q = turn3 (flt .f64 q 0) (turn2 (flt .f64 p 0) (turn1 (flt .f64 (rung double p) (rung double q)) (arc t0))) := by
    rw [ht0]; unfold angle; dsimp only; rw [hlt0, cc1, cc2]; rfl
  obtain ⟨v, ev⟩ : ∃ v, v = angle p q := ⟨_, rfl⟩
  rw [← ev] at hv ⊢
  have hvv : Hid _ := hv
  have HT0 : Hid _ := ht0
  clear hv ht0 ev cc1 cc2 nn1 nn2 nan_of f1 f2
  have zz : feq .f64 p 0 = false ∨ (feq .f64 p 0 = true ∧ feq .f64 q 0 = false) := by
    cases h : feq .f64 p 0
    · exact .inl rfl
    · refine .inr ⟨rfl, ?_⟩; rw [h] at hz; simpa using hz
  clear hz
  rcases zz with z1 | ⟨z1, z2⟩
  all_goals
    go_enter Try.func18, Try.ntmps18
    go_wp2_with (first
      | (go_at_call 37; refine (rFinite_c _ _ hp hq _).mono ?_; rintro e w' ⟨n, rfl, rfl⟩)
      | (go_at_call 35; refine (mAbs_c _ (by assumption) _).mono ?_; rintro e w' ⟨rfl, rfl⟩))
    refine upon_quo _ _ _ _ ?_
    intro r1 n1 h1
    have b1 : r1 < 18446744073709551616 := h1.2
    have e1 : Hid (cn .f64 r1 = tT t0 0) := h1.1.trans HT0.out.symm
    clear h1
    go_wp2_with fail
    go_loopw [10, 11, 12] (fun t i _ wr => ∃ k x n : Nat, k ≤ 3 ∧ i = .int .i64 k ∧ t = .float .f64 x ∧ Hid (cn .f64 x = tT t0 k) ∧ x < 18446744073709551616 ∧ wr = w.drewN n) (fun _ i _ _ => 3 - (intOf i).toNat)
    case atStart => exact ⟨0, r1, _, by omega, rfl, rfl, e1, b1, rfl⟩
    case round =>
      obtain ⟨k, x, n, hk, rfl, rfl, hx, bx, rfl⟩ := hrel
      by_cases hlt : k < 3
      · skip
        go_wp2_with fail
        refine upon_mul _ _ _ _ ?_
        intro r2 n2 h2
        go_wp2_with fail
        refine upon_add _ _ _ _ ?_
        intro r3 n3 h3
        go_wp2_with fail
        refine (mSqrt_c _ _).mono ?_
        rintro e w' ⟨x4, n4, rfl, g4, bx4, rfl⟩
        have H4 : Hid _ := g4
        clear g4
        go_wp2_with fail
        refine upon_add _ _ _ _ ?_
        intro r5 n5 h5
        go_wp2_with fail
        refine upon_quo _ _ _ _ ?_
        intro r6 n6 h6
        go_wp2
        go_roundw
        case rel =>
          refine ⟨k + 1, r6, _, by omega, by go_num, rfl, ?_, h6.2, rfl⟩
          show cn .f64 r6 = _
          rw [h6.1, h5.1, H4.out, h3.1, h2.1, hx.out, cnK1]; rfl
        case measure => simp [intOf]; omega
      · obtain rfl : k = 3 := by omega
        clear hlt hk
        go_wp2_with fail
        refine upon_mul _ _ _ _ ?_
        intro r7 n7 h7
        go_wp2_with fail
        go_loopw [14, 15, 16, 17] (fun s d _ _ wr => ∃ j y n : Nat, j ≤ 7 ∧ d = .int .i64 (13 - 2 * (j : Int)) ∧ s = .float .f64 y ∧ Hid (cn .f64 y = sT (fmul (tT t0 3) (tT t0 3)) j) ∧ y < 18446744073709551616 ∧ wr = w.drewN n)
          (fun _ d _ _ _ => (intOf d + 1).toNat)
        case atStart => exact ⟨0, _, _, by omega, rfl, rfl, cnS0, by omega, rfl⟩
        case round =>
          obtain ⟨j, y, m, hj, rfl, rfl, hy, yb, rfl⟩ := hrel
          by_cases hjt : j < 7
          · have di := dT_int j hjt
            go_wp2_with fail
            refine upon_mul _ _ _ _ ?_
            intro r8 n8 h8
            go_wp2_with fail
            refine upon_quo _ _ _ _ ?_
            intro r9 n9 h9
            go_wp2_with fail
            refine upon_sub _ _ _ _ ?_
            intro r10 n10 h10
            go_wp2
            go_roundw
            case rel =>
              refine ⟨j + 1, r10, _, by omega, int_eq (by omega), rfl, ?_, h10.2, rfl⟩
              show cn .f64 r10 = _
              rw [h10.1, h9.1, h8.1, h7.1, hy.out, hx.out, cnK1, cn_dT (by omega)]; rfl
            case measure => simp [intOf]; omega
          · obtain rfl : j = 7 := by omega
            clear hjt hj
            go_wp2_with fail
            refine upon_mul _ _ _ _ ?_
            intro r12 n12 h12
            go_wp2_with fail
            refine upon_mul _ _ _ _ ?_
            intro r13 n13 h13
            go_wp2_with fail
            refine upon_mul _ _ _ _ ?_
            intro r14 n14 h14
            have ha : Hid (cn .f64 r14 = arc t0) := by
              show cn .f64 r14 = arc t0
              rw [h14.1, h13.1, h12.1, hx.out, hy.out, cnK8, cnKc]; rfl
            have b14 : r14 < 18446744073709551616 := h14.2
            clear h7 h12 h13 h14
            cases c0 : flt .f64 (rung double p) (rung double q)
            · skip
              cases c1 : flt .f64 p 0
              · skip
                cases c2 : flt .f64 q 0
                · skip
                  go_wp2
                  go_ret2
                  refine closeRE ?_ b14
                  have hh := hvv.out
                  rw [c0, c1, c2] at hh
                  rw [hh, ha.out]; rfl
                · skip
                  go_wp2_with fail
                  refine upon_sub _ _ _ _ ?_
                  intro r22 m22 h22
                  go_wp2
                  go_ret2
                  refine closeRE ?_ h22.2
                  have hh := hvv.out
                  rw [c0, c1, c2] at hh
                  rw [hh, h22.1, cn0, ha.out]; rfl
              · skip
                go_wp2_with fail
                refine upon_sub _ _ _ _ ?_
                intro r21 m21 h21
                cases c2 : flt .f64 q 0
                · skip
                  go_wp2
                  go_ret2
                  refine closeRE ?_ h21.2
                  have hh := hvv.out
                  rw [c0, c1, c2] at hh
                  rw [hh, h21.1, cnK12, ha.out]; rfl
                · skip
                  go_wp2_with fail
                  refine upon_sub _ _ _ _ ?_
                  intro r22 m22 h22
                  go_wp2
                  go_ret2
                  refine closeRE ?_ h22.2
                  have hh := hvv.out
                  rw [c0, c1, c2] at hh
                  rw [hh, h22.1, cn0, h21.1, cnK12, ha.out]; rfl
            · skip
              go_wp2_with fail
              refine upon_sub _ _ _ _ ?_
              intro r20 m20 h20
              cases c1 : flt .f64 p 0
              · skip
                cases c2 : flt .f64 q 0
                · skip
                  go_wp2
                  go_ret2
                  refine closeRE ?_ h20.2
                  have hh := hvv.out
                  rw [c0, c1, c2] at hh
                  rw [hh, h20.1, cnK6, ha.out]; rfl
                · skip
                  go_wp2_with fail
                  refine upon_sub _ _ _ _ ?_
                  intro r22 m22 h22
                  go_wp2
                  go_ret2
                  refine closeRE ?_ h22.2
                  have hh := hvv.out
                  rw [c0, c1, c2] at hh
                  rw [hh, h22.1, cn0, h20.1, cnK6, ha.out]; rfl
              · skip
                go_wp2_with fail
                refine upon_sub _ _ _ _ ?_
                intro r21 m21 h21
                cases c2 : flt .f64 q 0
                · skip
                  go_wp2
                  go_ret2
                  refine closeRE ?_ h21.2
                  have hh := hvv.out
                  rw [c0, c1, c2] at hh
                  rw [hh, h21.1, cnK12, h20.1, cnK6, ha.out]; rfl
                · skip
                  go_wp2_with fail
                  refine upon_sub _ _ _ _ ?_
                  intro r22 m22 h22
                  go_wp2
                  go_ret2
                  refine closeRE ?_ h22.2
                  have hh := hvv.out
                  rw [c0, c1, c2] at hh
                  rw [hh, h22.1, cn0, h21.1, cnK12, h20.1, cnK6, ha.out]; rfl
theorem rAngle_c (p q : Nat) (hp : p < 18446744073709551616) (hq : q < 18446744073709551616) (hf : pFinite (cn .f64 p, cn .f64 q) = true) (hz : (feq .f64 p 0 && feq .f64 q 0) = false) (w : World) :
    Calls Try.prog 18 #[.complex .f64 p q] w (RetRE (angle p q) 0 w) := by
  cases h : flt .f64 (rung double q) (rung double p)
  · exact rAngle_false p q hp hq hf hz h w
  · exact rAngle_true p q hp hq hf hz h w
end Go.Proofs.Ytbhjhlobmhpjfaa
