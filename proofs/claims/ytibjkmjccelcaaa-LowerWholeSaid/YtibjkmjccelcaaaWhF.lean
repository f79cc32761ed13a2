/- Layer 9, LowerWhole: math.Floor of finite numbers; small, units. -/
import Derived.Test.YtibjkmjccelcaaaLW3
import Derived.Test.YtibjkmjccelcaaaArg
import Derived.Test.YtibjkmjccelcaaaGr2
import GoSem.Extern.MathFloor
import Derived.Deep.CutBlock
import Derived.StillTailTactics
import Derived.Deep.DeepCutAuto
namespace Fl
open Ieee Go
def floorOf (x : Nat) : Datum → Sem Value
  | .nan s t =>
    if FloatKind.f64.format.quiet t = t then pure (.float .f64 x) else do
    let kept ← choose (.extern "math.Floor,Ceil,Trunc,RoundToEven.signallingNaN kept" 2)
    pure (.float .f64 (if kept == 1 then x else FloatKind.f64.encode (.nan s (FloatKind.f64.format.quiet t))))
  | d => pure (.float .f64 (FloatKind.f64.encode (d.integral .down)))
theorem run_floor {P : Program} {w : World} (x : Nat) (hx : fin double x) :
    ∃ mag, (Extern.MathFloor.toIntegral "math.archFloor" .down #[.float .f64 x]).run P w = .ok (.float .f64 (double.nearest (Fl.sgn double x) mag 0)) w := by
  obtain ⟨m, e, h1, -, -⟩ := read_fin hx
  refine ⟨Toward.down.cut (Fl.sgn double x) (m <<< e.toNat) (-e).toNat, ?_⟩
  have h2 : FloatKind.f64.decode x = .number (Fl.sgn double x) m e := h1
  have h3 : ∀ d, FloatKind.f64.decode x = d → Extern.MathFloor.toIntegral "math.archFloor" .down #[.float .f64 x] = floorOf x d := fun d hd => by
    rw [← hd]; rfl
  rw [h3 _ h2]
  rfl
theorem near_ex {s : Bool} {mag : Nat} (h : mag < 9007199254740992) : ∃ a : Int, Ex (double.nearest s mag 0) a 1074 := by
  obtain ⟨r, h1, h2⟩ := nearest_rounds ok_double s mag 0
  obtain ⟨K, hK, eU⟩ := one_pow
  rw [least64] at h1
  have e1 : ((0 : Int) - -1074).toNat = K := by omega
  have e2 : ((-1074 : Int) - 0).toNat = 0 := by omega
  rw [e1, e2, Nat.pow_zero] at h1
  have h3 := ex_round (c := mag) (k := K) Nat.one_pos h (by omega) (by rw [Nat.mul_one]; exact h1)
  refine ⟨if s then -(mag : Int) else mag, ?_⟩
  rw [← hK]
  refine ex_of h2 h3.1 ?_ (fun h0 => ?_)
  · rw [h3.2]; cases s <;> simp
  · cases s
    · simp only [Bool.false_eq_true, if_false] at h0 ⊢; exact (decide_eq_false (by omega)).symm
    · simp only [if_true] at h0 ⊢; exact (decide_eq_true (by omega)).symm
theorem feq_sval {x y : Nat} (hx : fin double x) (hy : fin double y) (h : feq .f64 x y = true) : sval double x = sval double y := by
  unfold feq at h
  rw [show FloatKind.f64.format = double from rfl, order_fin hx hy] at h
  unfold compare instOrdInt at h
  simp only [compareOfLessAndEq] at h
  by_cases h1 : sval double x < sval double y
  · simp [h1] at h
  · by_cases h2 : sval double x = sval double y
    · exact h2
    · simp [h1, h2] at h
/-- What is whole, and below 2^20. -/
def Sm1 (x : Nat) : Prop := ∃ a : Int, Ex x a 1074 ∧ a.natAbs < 1048576
def Sm (z : C) : Prop := Sm1 z.1 ∧ Sm1 z.2
theorem floor_sm {x mag : Nat} {s : Bool} (lx : x < 18446744073709551616) (hx : fin double x) (h : feq .f64 (double.nearest s mag 0) x = true) (hb : fle .f64 4697254411347427328 (fabs x) = false) : Sm1 x := by
  have hE := ex_two (n := 1042) (by omega)
  rw [binade64] at hE
  have hE' : Ex 4697254411347427328 1 1094 := hE
  obtain ⟨K, hK, eU⟩ := one_pow
  have hi : isInf double x = false := decide_eq_false (by unfold fin at hx; omega)
  have hn : isNaN double x = false := decide_eq_false (by unfold fin at hx; omega)
  have hr := (fabs_fin hi hn).1
  have hlt : rung double x < 4697254411347427328 := by
    rw [hr, fle_rungs (by rw [infRung64]; omega) (by unfold fin at hx; omega)] at hb
    have := of_decide_eq_false hb; omega
  have hv : (sval double x).natAbs < 2 ^ (K + 20) := by
    rw [abs_sval]
    have h1 := (val_lt_iff (f := double)).2 hlt
    have h2 : val double 4697254411347427328 = 2 ^ (K + 20) := by
      have h3 := abs_sval 4697254411347427328
      rw [hE'.2.2] at h3
      have e : rung double 4697254411347427328 = 4697254411347427328 := (sgn_rung' (by rw [infRung64]; omega)).2
      rw [e] at h3
      rw [← h3, show K + 20 = 1094 by omega, Int.one_mul]; rfl
    rw [h2] at h1; exact h1
  obtain ⟨r, h1, h2⟩ := nearest_rounds ok_double s mag 0
  rw [least64] at h1
  have e1 : ((0 : Int) - -1074).toNat = K := by omega
  have e2 : ((-1074 : Int) - 0).toNat = 0 := by omega
  rw [e1, e2, Nat.pow_zero] at h1
  -- it is finite: it is equal to x
  have hfr : fin double (double.nearest s mag 0) := by
    rw [feq_def] at h
    rw [Bool.and_eq_true, Bool.and_eq_true] at h
    have h3 := of_decide_eq_true h.2
    rw [show FloatKind.f64.format = double from rfl] at h3
    have h4 : rung double (double.nearest s mag 0) = rung double x := by
      unfold key at h3
      split at h3 <;> split at h3 <;> omega
    unfold fin at *; rw [h4]; exact hx
  have hs := feq_sval hfr hx h
  by_cases hm : mag < 9007199254740992
  · obtain ⟨a, ha⟩ := near_ex (s := s) hm
    have hxa : Ex x a 1074 := ⟨lx, hx, by rw [← hs]; exact ha.2.2⟩
    refine ⟨a, hxa, ?_⟩
    rw [hxa.2.2, ← hK, Int.natAbs_mul] at hv
    have e : (((2 ^ K : Nat) : Int)).natAbs = 2 ^ K := rfl
    rw [e, Nat.pow_add, Nat.mul_comm] at hv
    exact Nat.lt_of_mul_lt_mul_left hv
  · exfalso
    have h3 : 2 ^ (53 + K) ≤ val double r := rne_lo Nat.one_pos h1 (by omega) (by
      rw [Nat.mul_one, Nat.pow_add]; exact Nat.mul_le_mul_right _ (by omega))
    have hrr := fin_of_eq h2 hfr
    rw [← hs, h2, natAbs_word hrr] at hv
    have := Nat.pow_lt_pow_right (a := 2) (by omega) (show K + 20 < 53 + K by omega)
    omega
end Fl
namespace Go.Proofs.Ytibjkmjccelcaaa
open Go.RowKit Fl Ieee
set_option maxRecDepth 20000
attribute [local go_sem] run_store_float run_store_complex Fl.order_self Fl.order_self' Fl.order_eq Fl.order_ne Fl.order_lt Fl.order_gt Fl.fle_fold Fl.fge_fold
theorem x_floor (x : Nat) (w : World) : (callFunc 78 #[.float .f64 x]).run Try.prog w = ((Extern.MathFloor.toIntegral "math.archFloor" .down #[.float .f64 x]).run Try.prog w).andThen fun v w' => .ok (.value v) w' :=
  run_callFunc_extern (e := Extern.MathFloor.toIntegral "math.archFloor" .down) (P := Try.prog) (f := 78) Try.func78 (by kernel_rfl) (by kernel_rfl) (by kernel_rfl) (by kernel_rfl) _ w
theorem Floor_c (x : Nat) (hx : fin double x) (w : World) : Calls Try.prog 55 #[.float .f64 x] w fun e w' => ∃ mag, e = .returned (.float .f64 (double.nearest (Fl.sgn double x) mag 0)) ∧ w = w' := by
  obtain ⟨mag, hm⟩ := run_floor (P := Try.prog) (w := w) x hx
  have hxf := x_floor x w
  rw [hm] at hxf
  obtain ⟨r, hr⟩ : ∃ r, double.nearest (Fl.sgn double x) mag 0 = r := ⟨_, rfl⟩
  rw [hr] at hxf
  have HR := Lib.hid hr
  clear hm hr
  go_enter Try.func55, Try.ntmps55
  go_wp2
  go_ret
  exact ⟨mag, by rw [HR.out]; rfl, rfl⟩
set_option maxHeartbeats 4000000 in
theorem small_c (A : Option Addr) (l : List C) (cap : Nat) (w : World) (hr : Reads w w.heap.size A (nums l)) (hlt : ltCs l) (hf : ∀ z ∈ l, pFinite z = true) (hmax : l.length ≤ 4611686018427387904) :
    Calls Try.prog 27 #[.slice A l.length cap] w fun e w' => ∃ v : Bool, e = .returned (.bool v) ∧ (v = true → ∀ z ∈ l, Sm z) ∧ Below w.heap.size w w' := by
  have HR := Lib.hid hr
  have HL := Lib.hid hlt
  have HF := Lib.hid hf
  clear hr hlt hf
  go_enter Try.func27, Try.ntmps27
  go_wp2
  go_loopw [3, 4, 5] (fun i _ _ wr => ∃ k : Nat, k ≤ l.length ∧ i = .int .i64 (k : Nat) ∧ Below w.heap.size w wr ∧ ∀ j z, j < k → l[j]? = some z → Sm z) (fun i _ _ _ => l.length - (intOf i).toNat)
  case atStart => exact ⟨0, Nat.zero_le _, rfl, Below.refl _ _, fun j z h => by omega⟩
  case round =>
    obtain ⟨k, hk, rfl, hb, hS⟩ := hrel
    have HB := Lib.hid hb
    have HS := Lib.hid hS
    have hkb : (k : Int) + 1 ≤ 4611686018427387905 := by omega
    clear hb hS
    by_cases hlt : k < l.length
    · have hlti : (k : Int) < (l.length : Int) := Int.ofNat_lt.2 hlt
      obtain ⟨z, hz⟩ : ∃ z, l[k]? = some z := ⟨l[k], List.getElem?_eq_getElem hlt⟩
      have hzm := List.mem_of_getElem? hz
      obtain ⟨aa, rfl, -, ca⟩ := (HR.out.below HB.out).at_ (show (nums l)[k]? = some (.complex .f64 z.1 z.2) by simp [nums, hz])
      have fz := fin_parts (HF.out z hzm)
      have lz := HL.out z hzm
      have f1 : fin double z.1 := fz.1
      have f2 : fin double z.2 := fz.2.1
      have HFl1 := Lib.hid (fun W => Floor_c z.1 f1 W)
      have HFl2 := Lib.hid (fun W => Floor_c z.2 f2 W)
      have HZ := Lib.hid hz
      have ca' : ∀ D, (wr.drewN D).cell? (aa.add k) = some (.complex .f64 z.1 z.2) := fun _ => ca
      have hkl : decide ((k : Int) < 0) = false := by simp
      obtain ⟨lz1, lz2⟩ := lz
      have LZ := Lib.hid (And.intro lz1 lz2)
      have F12 := Lib.hid (And.intro f1 f2)
      clear hz hzm fz f1 f2 ca
      go_wp2
      go_quiet (fail)
      clear ca'
      go_wp2_with fail
      refine (HFl1.out _).mono ?_
      rintro e W1 ⟨m1, rfl, rfl⟩
      obtain ⟨r1, hr1⟩ : ∃ r, double.nearest (Fl.sgn double z.1) m1 0 = r := ⟨_, rfl⟩
      rw [hr1]
      obtain ⟨q1, hq1⟩ : ∃ q, feq .f64 r1 z.1 = q := ⟨_, rfl⟩
      have HR1 := Lib.hid hr1
      have HQ1 := Lib.hid hq1
      clear hr1
      cases q1
      · go_wp2
        go_ret
        exact ⟨false, rfl, fun h => (by cases h), below_drewN HB.out _⟩
      · go_wp2_with fail
        refine (HFl2.out _).mono ?_
        rintro e W1 ⟨m2, rfl, rfl⟩
        obtain ⟨r2, hr2⟩ : ∃ r, double.nearest (Fl.sgn double z.2) m2 0 = r := ⟨_, rfl⟩
        rw [hr2]
        obtain ⟨q2, hq2⟩ : ∃ q, feq .f64 r2 z.2 = q := ⟨_, rfl⟩
        have HR2 := Lib.hid hr2
        have HQ2 := Lib.hid hq2
        clear hr2
        cases q2
        · go_wp2
          go_ret
          exact ⟨false, rfl, fun h => (by cases h), below_drewN HB.out _⟩
        · obtain ⟨g1, hg1⟩ : ∃ g, fle .f64 4697254411347427328 (rung double z.1) = g := ⟨_, rfl⟩
          obtain ⟨g2, hg2⟩ : ∃ g, fle .f64 4697254411347427328 (rung double z.2) = g := ⟨_, rfl⟩
          have HG1 := Lib.hid hg1
          have HG2 := Lib.hid hg2
          cases g1
          · cases g2
            · go_wp2_with (first | (go_at_call 23; refine (mAbs_c _ (by assumption) _).mono ?_; rintro e w' ⟨rfl, rfl⟩))
              go_roundw
              case rel =>
                refine ⟨k + 1, hlt, by go_num, below_drewN HB.out _, fun j u hj hu => ?_⟩
                by_cases e : j = k
                · subst e
                  rw [HZ.out] at hu
                  injection hu with hu
                  subst hu
                  have ab : ∀ {x : Nat}, fin double x → fabs x = rung double x := fun {x} hx => (fabs_fin (decide_eq_false (by unfold fin at hx; omega)) (decide_eq_false (by unfold fin at hx; omega))).1
                  exact ⟨floor_sm LZ.out.1 F12.out.1 (by rw [HR1.out]; exact HQ1.out) (by rw [ab F12.out.1]; exact HG1.out), floor_sm LZ.out.2 F12.out.2 (by rw [HR2.out]; exact HQ2.out) (by rw [ab F12.out.2]; exact HG2.out)⟩
                · exact HS.out j u (by omega) hu
              case measure => simp [intOf]; omega
            · go_wp2_with (first | (go_at_call 23; refine (mAbs_c _ (by assumption) _).mono ?_; rintro e w' ⟨rfl, rfl⟩))
              go_ret
              exact ⟨false, rfl, fun h => (by cases h), below_drewN HB.out _⟩
          · go_wp2_with (first | (go_at_call 23; refine (mAbs_c _ (by assumption) _).mono ?_; rintro e w' ⟨rfl, rfl⟩))
            go_ret
            exact ⟨false, rfl, fun h => (by cases h), below_drewN HB.out _⟩
    · have e : k = l.length := by omega
      go_wp2
      go_ret
      refine ⟨true, rfl, fun _ z hz => ?_, HB.out⟩
      obtain ⟨j, hj, rfl⟩ := List.getElem_of_mem hz
      exact HS.out j _ (by omega) (List.getElem?_eq_getElem hj)
def U4 (z : C) : Prop := ∃ c d : Int, Cx z c d ∧ Unit4 c d
theorem u4_of {z : C} {c d : Int} {x y : Nat} (lz : ltC z) (fz : pFinite z = true) (hx : Ex x c 1074) (hy : Ex y d 1074) (h : (feq .f64 z.1 x && feq .f64 z.2 y) = true) (hu : Unit4 c d) : U4 z := by
  obtain ⟨f1, f2, -, -, -, -⟩ := fin_parts fz
  rw [Bool.and_eq_true] at h
  have e1 := feq_sval (show fin double z.1 from f1) hx.2.1 h.1
  have e2 := feq_sval (show fin double z.2 from f2) hy.2.1 h.2
  exact ⟨c, d, ⟨⟨lz.1, f1, e1.trans hx.2.2⟩, ⟨lz.2, f2, e2.trans hy.2.2⟩⟩, hu⟩
set_option maxHeartbeats 4000000 in
theorem units_c (A : Option Addr) (l : List C) (cap : Nat) (w : World) (hr : Reads w w.heap.size A (nums l)) (hlt : ltCs l) (hf : ∀ z ∈ l, pFinite z = true) (hmax : l.length ≤ 4611686018427387904) :
    Calls Try.prog 28 #[.slice A l.length cap] w fun e w' => ∃ v : Bool, e = .returned (.bool v) ∧ (v = true → ∀ z ∈ l, U4 z) ∧ Below w.heap.size w w' := by
  have HR := Lib.hid hr
  have HL := Lib.hid hlt
  have HF := Lib.hid hf
  clear hr hlt hf
  go_enter Try.func28, Try.ntmps28
  go_wp2
  go_loopw [3] (fun i wr => ∃ k : Nat, k ≤ l.length ∧ i = .int .i64 (k : Nat) ∧ Below w.heap.size w wr ∧ ∀ j z, j < k → l[j]? = some z → U4 z) (fun i _ => l.length - (intOf i).toNat)
  case atStart => exact ⟨0, Nat.zero_le _, rfl, Below.refl _ _, fun j z h => by omega⟩
  case round =>
    obtain ⟨k, hk, rfl, hb, hS⟩ := hrel
    have HB := Lib.hid hb
    have HS := Lib.hid hS
    have hkb : (k : Int) + 1 ≤ 4611686018427387905 := by omega
    clear hb hS
    by_cases hlt : k < l.length
    · have hlti : (k : Int) < (l.length : Int) := Int.ofNat_lt.2 hlt
      obtain ⟨z, hz⟩ : ∃ z, l[k]? = some z := ⟨l[k], List.getElem?_eq_getElem hlt⟩
      have hzm := List.mem_of_getElem? hz
      obtain ⟨aa, rfl, -, ca⟩ := (HR.out.below HB.out).at_ (show (nums l)[k]? = some (.complex .f64 z.1 z.2) by simp [nums, hz])
      have z0 : Ex 0 0 1074 := ex_zero (by decide) (by decide)
      have key : ∀ (c d : Int) (x y : Nat), Ex x c 1074 → Ex y d 1074 → (feq .f64 z.1 x && feq .f64 z.2 y) = true → Unit4 c d → ∀ j u, j < k + 1 → l[j]? = some u → U4 u := fun c d x y hx hy h hu j u hj hu2 => by
        by_cases e : j = k
        · subst e
          rw [hz] at hu2
          injection hu2 with hu2
          subst hu2
          exact u4_of (HL.out z hzm) (HF.out z hzm) hx hy h hu
        · exact HS.out j u (by omega) hu2
      have HK := Lib.hid key
      have HZ0 := Lib.hid z0
      clear key hz hzm z0
      obtain ⟨q1, hq1⟩ : ∃ q, (feq .f64 z.1 4607182418800017408 && feq .f64 z.2 0) = q := ⟨_, rfl⟩
      obtain ⟨q2, hq2⟩ : ∃ q, (feq .f64 z.1 13830554455654793216 && feq .f64 z.2 0) = q := ⟨_, rfl⟩
      obtain ⟨q3, hq3⟩ : ∃ q, (feq .f64 z.1 0 && feq .f64 z.2 4607182418800017408) = q := ⟨_, rfl⟩
      obtain ⟨q4, hq4⟩ : ∃ q, (feq .f64 z.1 0 && feq .f64 z.2 13830554455654793216) = q := ⟨_, rfl⟩
      have H1 := Lib.hid hq1
      have H2 := Lib.hid hq2
      have H3 := Lib.hid hq3
      have H4 := Lib.hid hq4
      cases q1
      · cases q2
        · cases q3
          · cases q4
            · go_wp2
              go_ret
              exact ⟨false, rfl, fun h => (by cases h), HB.out⟩
            · go_wp2
              go_roundw
              case rel => exact ⟨k + 1, hlt, by go_num, HB.out, HK.out 0 (-1) _ _ HZ0.out ex_minus H4.out (.inr (.inr (.inr ⟨rfl, rfl⟩)))⟩
              case measure => simp [intOf]; omega
          · go_wp2
            go_roundw
            case rel => exact ⟨k + 1, hlt, by go_num, HB.out, HK.out 0 1 _ _ HZ0.out ex_one H3.out (.inr (.inr (.inl ⟨rfl, rfl⟩)))⟩
            case measure => simp [intOf]; omega
        · go_wp2
          go_roundw
          case rel => exact ⟨k + 1, hlt, by go_num, HB.out, HK.out (-1) 0 _ _ ex_minus HZ0.out H2.out (.inr (.inl ⟨rfl, rfl⟩))⟩
          case measure => simp [intOf]; omega
      · go_wp2
        go_roundw
        case rel => exact ⟨k + 1, hlt, by go_num, HB.out, HK.out 1 0 _ _ ex_one HZ0.out H1.out (.inl ⟨rfl, rfl⟩)⟩
        case measure => simp [intOf]; omega
    · have e : k = l.length := by omega
      go_wp2
      go_ret
      refine ⟨true, rfl, fun _ z hz => ?_, HB.out⟩
      obtain ⟨j, hj, rfl⟩ := List.getElem_of_mem hz
      exact HS.out j _ (by omega) (List.getElem?_eq_getElem hj)
end Go.Proofs.Ytibjkmjccelcaaa
