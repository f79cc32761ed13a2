/- The fused product and sum as a function on words up to NaN, and its law in the walk. -/
import Derived.Test.YtandllekeimpgaaFlA
import GoSem.Extern.MathFMA
namespace Fl
open Ieee Go
/-- 'x y + z', rounded once. -/
def ffma (x y z : Nat) : Nat := (FloatKind.f64.format.fma x y z).getD (qn .f64)
theorem fma_cn (x y z : Nat) : FloatKind.f64.format.fma (cn .f64 x) (cn .f64 y) (cn .f64 z) = FloatKind.f64.format.fma x y z := by
  unfold Format.fma
  rcases read_cn_cases .f64 x with hx | ⟨s, t, s', t', h1, h2⟩
  · rcases read_cn_cases .f64 y with hy | ⟨s, t, s', t', h1, h2⟩
    · rcases read_cn_cases .f64 z with hz | ⟨s, t, s', t', h1, h2⟩
      · rw [hx, hy, hz]
      · rw [hx, hy, h1, h2]
        cases (FloatKind.f64.format.read x).product (FloatKind.f64.format.read y) with
        | none => rfl
        | some d => simp only [Option.bind_some, sum_nan_r]
    · rw [h1, h2]; simp only [product_nan_r, Option.bind_none]
  · rw [h1, h2]; simp only [product_nan_l, Option.bind_none]
theorem ffma_cn (x y z : Nat) : ffma (cn .f64 x) (cn .f64 y) (cn .f64 z) = ffma x y z := by
  unfold ffma; rw [fma_cn]
theorem fma_not_nan {x y z r : Nat} (h : FloatKind.f64.format.fma x y z = some r) : isNaN FloatKind.f64.format r = false := by
  unfold Format.fma at h
  exact map_write_not_nan .f64 h fun d hd => by
    cases hp : (FloatKind.f64.format.read x).product (FloatKind.f64.format.read y) with
    | none => rw [hp] at hd; cases hd
    | some p => rw [hp] at hd; exact sum_not_nan hd
theorem fma_lt {x y z r : Nat} (h : FloatKind.f64.format.fma x y z = some r) : r < 2 ^ 64 := FloatKind.f64.format.map_write_lt h
theorem cn_ffma (x y z : Nat) : cn .f64 (ffma x y z) = ffma x y z := by
  unfold ffma
  cases h : FloatKind.f64.format.fma x y z with
  | none => exact cn_of_nan (isNaN_qn .f64)
  | some r => exact cn_of_not (fma_not_nan h)
theorem ffma_lt (x y z : Nat) : ffma x y z < 2 ^ 64 := by
  unfold ffma
  cases h : FloatKind.f64.format.fma x y z with
  | none => exact qn_lt .f64
  | some r => exact fma_lt h
def IsFma (x y z r : Nat) : Prop := cn .f64 r = ffma (cn .f64 x) (cn .f64 y) (cn .f64 z) ∧ r < 2 ^ 64
section
variable {P : Program} {o : Oper} {a : Act} {K : Act → World → Prop} {Q : Exit → Act → World → Prop} {w : World}
theorem fma_eq (x y z : Nat) : Extern.MathFMA.fma #[.float .f64 x, .float .f64 y, .float .f64 z] = (match FloatKind.f64.format.fma x y z with
    | some r => pure (.float .f64 r)
    | none => do
      let (a, b) := if Extern.MathFMA.isNaN x then (x, y) else if Extern.MathFMA.isNaN y then (y, z) else (z, z)
      pure (.float .f64 (← choose (.nanBits .f64 a b)))) := rfl
theorem run_fma (x y z : Nat) : ∃ r n, (Extern.MathFMA.fma #[.float .f64 x, .float .f64 y, .float .f64 z]).run P w = .ok (.float .f64 r) (w.drewN n) ∧ IsFma x y z r := by
  cases h : FloatKind.f64.format.fma x y z with
  | some r =>
    refine ⟨r, 0, by rw [fma_eq, h]; simp [World.drewN], ?_, fma_lt h⟩
    rw [ffma_cn, cn_of_not (fma_not_nan h)]
    simp [ffma, h]
  | none =>
    obtain ⟨a, b, e⟩ : ∃ a b, (if Extern.MathFMA.isNaN x then (x, y) else if Extern.MathFMA.isNaN y then (y, z) else (z, z)) = (a, b) := ⟨_, _, rfl⟩
    refine ⟨(Question.nanBits .f64 a b).cut (w.tape w.drawn (.nanBits .f64 a b)), 1, ?_, ?_, (nan_cut .f64 a b _).2⟩
    · rw [fma_eq, h]; simp only [e]; simp [choose, Sem.run, Question.forced, World.drewN]
    · rw [ffma_cn, cn_of_nan (nan_cut .f64 a b _).1]
      simp [ffma, h]
theorem upon_fma {f : FuncId} {x y z : Nat} (hf : ∀ W : World, (callFunc f #[.float .f64 x, .float .f64 y, .float .f64 z]).run P W = ((Extern.MathFMA.fma #[.float .f64 x, .float .f64 y, .float .f64 z]).run P W).andThen fun v w' => .ok (.value v) w')
    (h : ∀ r n, IsFma x y z r → K (a.put o.dst (.float .f64 r)) (w.drewN n)) :
    o.upon P a K Q ((callFunc f #[.float .f64 x, .float .f64 y, .float .f64 z]).run P w) := by
  obtain ⟨r, n, h1, h2⟩ := run_fma (P := P) (w := w) x y z
  rw [hf, h1]
  exact h r n h2
end
end Fl
