/- Layer 10: Frexp and Ldexp of words with a usual exponent (what the bits come to is handed in); home. -/
import Derived.Test.YtglmmidhkpomgaaGreatTrS
namespace Go.Proofs.YtglmmidhkpomgaaGreat
open Go.RowKit Fl Ieee
set_option maxRecDepth 20000
attribute [local go_sem] Fl.order_self Fl.order_self' Fl.order_eq Fl.order_ne Fl.order_lt Fl.order_gt Fl.fle_fold Fl.fge_fold
/-- What is asked of a word: it is no nought, finite, of a usual exponent. -/
structure Usual (x : Nat) : Prop where
  lt : x < 18446744073709551616
  nz : feq .f64 x 0 = false
  inf : isInf double x = false
  nan : isNaN FloatKind.f64.format x = false
  norm : flt .f64 (rung double x) 4503599627370496 = false
theorem normal_c (x : Nat) (h : Usual x) (w : World) : Calls Tryz.prog 106 #[.float .f64 x] w fun e w' => e = .returned (.tuple #[.float .f64 x, .int .i64 0]) ∧ w = w' := by
  have lx := h.lt
  have hn := h.norm
  clear h
  go_enter Tryz.func106, Tryz.ntmps106
  go_wp2_with (go_at_call 74; refine (mAbs_c _ (by assumption) _).mono ?_; rintro e w' ⟨rfl, rfl⟩)
  go_ret2
  exact ⟨rfl, rfl⟩
theorem frexp_c (x m y0 y : Nat) (h : Usual x) (b1 : bits .and .u64 ((x : Int) / 4503599627370496) 2047 = (m : Int)) (hm : m < 2048)
    (b2 : bits .andNot .u64 (x : Int) 9218868437227405312 = (y0 : Int)) (b3 : bits .or .u64 (y0 : Int) 4602678819172646912 = (y : Int)) (w : World) :
    Calls Tryz.prog 95 #[.float .f64 x] w fun e w' => e = .returned (.tuple #[.float .f64 y, .int .i64 ((m : Int) - 1022)]) ∧ w = w' := by
  have lx := h.lt
  have f0 := h.nz
  have f1 := h.inf
  have f2 := h.nan
  have hx := x_f64frombits
  have hb := x_f64bits
  have HN := Lib.hid (normal_c x h)
  have hmi : (m : Int) < 2048 := by omega
  clear h
  go_enter Tryz.func95, Tryz.ntmps95
  go_wp2_with (first
    | (go_at_call 104; refine (mIsInf_c _ (by assumption) _).mono ?_; rintro e w' ⟨rfl, rfl⟩)
    | (go_at_call 106; refine (HN.out _).mono ?_; rintro e w' ⟨rfl, rfl⟩)
    | go_in)
  go_ret2
  refine ⟨?_, rfl⟩
  show Ending.returned (.tuple #[.float .f64 y, .int .i64 ((m : Int) - 1023 + 1)]) = _
  rw [show (m : Int) - 1023 + 1 = (m : Int) - 1022 by omega]
theorem Frexp_c (x m y0 y : Nat) (h : Usual x) (b1 : bits .and .u64 ((x : Int) / 4503599627370496) 2047 = (m : Int)) (hm : m < 2048)
    (b2 : bits .andNot .u64 (x : Int) 9218868437227405312 = (y0 : Int)) (b3 : bits .or .u64 (y0 : Int) 4602678819172646912 = (y : Int)) (w : World) :
    Calls Tryz.prog 73 #[.float .f64 x] w fun e w' => e = .returned (.tuple #[.float .f64 y, .int .i64 ((m : Int) - 1022)]) ∧ w = w' := by
  have HF := Lib.hid (frexp_c x m y0 y h b1 hm b2 b3)
  clear h b1 b2 b3
  go_enter Tryz.func73, Tryz.ntmps73
  go_wp2_with (go_at_call 95; refine (HF.out _).mono ?_; rintro e w' ⟨rfl, rfl⟩)
  go_ret2
  exact ⟨rfl, rfl⟩
theorem ldexp_c (x m y0 y k : Nat) (j : Int) (h : Usual x) (b1 : bits .and .i64 ((x : Int) / 4503599627370496) 2047 = (m : Int)) (hm : m < 2048)
    (b2 : bits .andNot .u64 (x : Int) 9218868437227405312 = (y0 : Int)) (b3 : bits .or .u64 (y0 : Int) ((k : Int) * 4503599627370496) = (y : Int)) (hj : j + m = k) (h1 : 1 ≤ k) (h2 : k ≤ 2046)
    (ly : y < 18446744073709551616) (fy : fin double y) (w : World) :
    Calls Tryz.prog 97 #[.float .f64 x, .int .i64 j] w (RetR (cn .f64 y) w) := by
  have lx := h.lt
  have f0 := h.nz
  have f1 := h.inf
  have f2 := h.nan
  have hx := x_f64frombits
  have hb := x_f64bits
  have HN := Lib.hid (normal_c x h)
  have hmi : (m : Int) < 2048 := by omega
  have hk1 : 1 ≤ (k : Int) := by omega
  have hk2 : (k : Int) ≤ 2046 := by omega
  have ej : j = (k : Int) - (m : Int) := by omega
  subst ej
  have ek : (k : Int) - (m : Int) + ((m : Int) - 1023) = (k : Int) - 1023 := by omega
  have HLY := Lib.hid ly
  have HFY := Lib.hid fy
  clear h hj h1 h2 ly fy
  go_enter Tryz.func97, Tryz.ntmps97
  go_wp2_with (first
    | (go_at_call 104; refine (mIsInf_c _ (by assumption) _).mono ?_; rintro e w' ⟨rfl, rfl⟩)
    | (go_at_call 106; refine (HN.out _).mono ?_; rintro e w' ⟨rfl, rfl⟩)
    | go_in)
  refine upon_mul _ _ _ _ ?_
  intro r n hr
  go_wp2
  go_ret
  refine closeR ?_ hr.2
  have e1 : cn .f64 4607182418800017408 = fone := by decide
  have hn : isNaN FloatKind.f64.format y = false := decide_eq_false (by have := HFY.out; unfold fin at this; show ¬ double.infRung < rung double y; omega)
  rw [hr.1, e1, cn_of_not (k := .f64) hn]
  show fmul fone y = y
  rw [fmul_comm, fmul_one HLY.out HFY.out]
theorem Ldexp_c (x m y0 y k : Nat) (j : Int) (h : Usual x) (b1 : bits .and .i64 ((x : Int) / 4503599627370496) 2047 = (m : Int)) (hm : m < 2048)
    (b2 : bits .andNot .u64 (x : Int) 9218868437227405312 = (y0 : Int)) (b3 : bits .or .u64 (y0 : Int) ((k : Int) * 4503599627370496) = (y : Int)) (hj : j + m = k) (h1 : 1 ≤ k) (h2 : k ≤ 2046)
    (ly : y < 18446744073709551616) (fy : fin double y) (w : World) :
    Calls Tryz.prog 75 #[.float .f64 x, .int .i64 j] w (RetR (cn .f64 y) w) := by
  have HF := Lib.hid (ldexp_c x m y0 y k j h b1 hm b2 b3 hj h1 h2 ly fy)
  clear h b1 b2 b3 hj
  go_enter Tryz.func75, Tryz.ntmps75
  go_wp2_with (go_at_call 97; refine (HF.out _).mono ?_; rintro e w' ⟨x, n, rfl, g, b, rfl⟩)
  go_ret
  exact closeR g b
/-- Of a nought. -/
theorem ldexp_z (x : Nat) (j : Int) (lx : x < 18446744073709551616) (f0 : feq .f64 x 0 = true) (w : World) : Calls Tryz.prog 97 #[.float .f64 x, .int .i64 j] w (RetR (cn .f64 x) w) := by
  go_enter Tryz.func97, Tryz.ntmps97
  go_wp2
  go_ret
  exact closeR0 rfl lx
theorem Ldexp_z (x : Nat) (j : Int) (lx : x < 18446744073709551616) (f0 : feq .f64 x 0 = true) (w : World) : Calls Tryz.prog 75 #[.float .f64 x, .int .i64 j] w (RetR (cn .f64 x) w) := by
  have HF := Lib.hid (ldexp_z x j lx f0)
  clear f0 lx
  go_enter Tryz.func75, Tryz.ntmps75
  go_wp2_with (go_at_call 97; refine (HF.out _).mono ?_; rintro e w' ⟨x, n, rfl, g, b, rfl⟩)
  go_ret
  exact closeR g b
/-- A number is brought home, and the power of two told. -/
def RetHome (v : C) (p : Int) (w : World) (e : Ending) (w' : World) : Prop := ∃ (z : C) (d : Nat), e = .returned (.tuple #[.complex .f64 z.1 z.2, .int .i64 p]) ∧ cnC z = v ∧ ltC z ∧ w' = w.drewN d
theorem home_c (z v : C) (p : Int) (y big : Nat) (lz : ltC z) (hp : p.natAbs < 10000)
    (hmax : ∀ W, (Builtin.max_ #[87, 87] 87 #[.float .f64 (rung double z.1), .float .f64 (rung double z.2)]).run Tryz.prog W = .ok (.float .f64 big) W)
    (HF : ∀ V, Calls Tryz.prog 73 #[.float .f64 big] V fun e w' => e = .returned (.tuple #[.float .f64 y, .int .i64 (p + 1)]) ∧ V = w')
    (HR : ∀ V, Calls Tryz.prog 75 #[.float .f64 z.1, .int .i64 (-p)] V (RetR v.1 V))
    (HI : ∀ V, Calls Tryz.prog 75 #[.float .f64 z.2, .int .i64 (-p)] V (RetR v.2 V)) (w : World) :
    Calls Tryz.prog 39 #[.complex .f64 z.1 z.2] w (RetHome v p w) := by
  have HF := Lib.hid HF
  have HR := Lib.hid HR
  have HI := Lib.hid HI
  obtain ⟨lz1, lz2⟩ := lz
  have hp1 : -10000 < p := by omega
  have hp2 : p < 10000 := by omega
  clear hp
  go_enter Tryz.func39, Tryz.ntmps39
  go_wp2_with (first
    | (go_at_call 74; refine (mAbs_c _ (by assumption) _).mono ?_; rintro e w' ⟨rfl, rfl⟩)
    | (go_at_call 73; refine (HF.out _).mono ?_; rintro e w' ⟨rfl, rfl⟩))
  refine (HR.out _).mono ?_
  rintro e w1 ⟨x1, n1, rfl, g1, l1, rfl⟩
  go_wp2_with fail
  refine (HI.out _).mono ?_
  rintro e w2 ⟨x2, n2, rfl, g2, l2, rfl⟩
  go_wp2
  go_ret2
  exact ⟨(x1, x2), n1 + n2, rfl, by show (cn .f64 x1, cn .f64 x2) = v; rw [g1, g2], ⟨l1, l2⟩, rfl⟩
end Go.Proofs.YtglmmidhkpomgaaGreat
