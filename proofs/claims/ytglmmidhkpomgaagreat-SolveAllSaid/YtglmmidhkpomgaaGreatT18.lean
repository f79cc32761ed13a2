/- Layer 10, SolveMirrors: the greater of two sizes; what both sides of the mirror tell. -/
import Derived.Test.YtglmmidhkpomgaaGreatT17
namespace Go.Proofs.YtglmmidhkpomgaaGreat
open Go.RowKit Fl Ieee
set_option maxRecDepth 20000
attribute [local go_sem] run_store_float run_store_complex Fl.order_self Fl.order_self' Fl.order_eq Fl.order_ne Fl.order_lt Fl.order_gt Fl.fle_fold Fl.fge_fold
/-- What archMax tells of two data. -/
def maxOf (x y : Nat) (a b : Datum) : Nat :=
  if a == .infinity false || b == .infinity false then FloatKind.f64.encode (.infinity false)
  else if a.isNaN || b.isNaN then 0x7FF8000000000001
  else if a.isZero && b.isZero then (if a.neg == false then x else y)
  else if a.order b == some .gt then x else y
theorem run_max {P : Program} {w : World} (x y : Nat) (hx : x < 9218868437227405312) (hy : y < 9218868437227405312) :
    (Extern.MathDim.pick "math.archMax" false .gt #[.float .f64 x, .float .f64 y]).run P w = .ok (.float .f64 (max x y)) w := by
  have hi : double.infRung = 9218868437227405312 := by decide
  obtain ⟨s1, r1⟩ := sgn_rung' (show x ≤ double.infRung by omega)
  obtain ⟨s2, r2⟩ := sgn_rung' (show y ≤ double.infRung by omega)
  obtain ⟨m, e, h1, -, v1⟩ := read_fin (f := double) (x := x) (by unfold fin; rw [r1]; omega)
  obtain ⟨m', e', h2, -, v2⟩ := read_fin (f := double) (x := y) (by unfold fin; rw [r2]; omega)
  rw [s1] at h1
  rw [s2] at h2
  rw [r1] at v1
  rw [r2] at v2
  have ha : FloatKind.f64.decode x = .number false m e := h1
  have hb : FloatKind.f64.decode y = .number false m' e' := h2
  have ho : (Datum.number false m e).order (.number false m' e') = FloatKind.f64.format.order x y := by rw [← h1, ← h2]; rfl
  have key : (if m == 0 && m' == 0 then x else if (Datum.number false m e).order (.number false m' e') == some .gt then x else y) = max x y := by
    have a := flt_rungs (x := y) (y := x) (by omega) (by omega)
    have hg : (FloatKind.f64.format.order x y == some .gt) = decide (y < x) := by rw [order_gt]; exact a
    rw [ho, hg]
    by_cases hz : (m == 0 && m' == 0) = true
    · rw [if_pos hz]
      rw [Bool.and_eq_true] at hz
      have e1 : m = 0 := by simpa using hz.1
      have e2 : m' = 0 := by simpa using hz.2
      rw [e1, Nat.zero_mul] at v1
      rw [e2, Nat.zero_mul] at v2
      have x0 : x = 0 := val_inj (f := double) (v1.symm.trans (val_zero double).symm)
      have y0 : y = 0 := val_inj (f := double) (v2.symm.trans (val_zero double).symm)
      omega
    · rw [if_neg hz]
      by_cases h : y < x
      · rw [if_pos (decide_eq_true h)]; omega
      · rw [if_neg (by simpa using h)]; omega
  have h3 : ∀ da db, FloatKind.f64.decode x = da → FloatKind.f64.decode y = db → Extern.MathDim.pick "math.archMax" false .gt #[.float .f64 x, .float .f64 y] = pure (.float .f64 (maxOf x y da db)) := fun da db ea eb => by rw [← ea, ← eb]; rfl
  have h4 : maxOf x y (.number false m e) (.number false m' e') = max x y := by
    rw [← key]
    unfold maxOf
    have n1 : (Datum.number false m e == Datum.infinity false) = false := by simp
    have n2 : (Datum.number false m' e' == Datum.infinity false) = false := by simp
    have z1 : (Datum.number false m e).isZero = (m == 0) := by cases m <;> rfl
    have z2 : (Datum.number false m' e').isZero = (m' == 0) := by cases m' <;> rfl
    have b1 : (Datum.number false m e).isNaN = false := rfl
    have b2 : (Datum.number false m' e').isNaN = false := rfl
    rw [n1, n2, z1, z2, b1, b2]
    rfl
  rw [h3 _ _ ha hb, h4]
  rfl
theorem x_max (x y : Nat) (w : World) : (callFunc 98 #[.float .f64 x, .float .f64 y]).run Tryz.prog w = ((Extern.MathDim.pick "math.archMax" false .gt #[.float .f64 x, .float .f64 y]).run Tryz.prog w).andThen fun v w' => .ok (.value v) w' :=
  run_callFunc_extern (e := Extern.MathDim.pick "math.archMax" false .gt) (P := Tryz.prog) (f := 98) Tryz.func98 (by kernel_rfl) (by kernel_rfl) (by kernel_rfl) (by kernel_rfl) _ w
theorem mMax_c (x y : Nat) (hx : x < 9218868437227405312) (hy : y < 9218868437227405312) (w : World) :
    Calls Tryz.prog 78 #[.float .f64 x, .float .f64 y] w fun e w' => e = .returned (.float .f64 (max x y)) ∧ w = w' := by
  have hxm := fun W => x_max x y W
  have hxm2 : ∀ W, (callFunc 98 #[.float .f64 x, .float .f64 y]).run Tryz.prog W = .ok (.value (.float .f64 (max x y))) W := fun W => by rw [hxm W, run_max x y hx hy]; rfl
  obtain ⟨m, hm⟩ : ∃ m, max x y = m := ⟨_, rfl⟩
  rw [hm] at hxm2 ⊢
  clear hxm hx hy hm
  go_enter Tryz.func78, Tryz.ntmps78
  go_wp2
  go_ret
  exact ⟨rfl, rfl⟩
end Go.Proofs.YtglmmidhkpomgaaGreat
