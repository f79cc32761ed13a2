/- The walk's laws for float operations, whatever their operands: the result is known up to NaN; a NaN's bits may be drawn. -/
import Derived.Test.YtajdfbjjgjpicaaFlO
import Derived.WalkKit
import Derived.WalkLawsBesides
import Derived.Laws.Cover3
import Derived.Deep.Draws
namespace Fl
open Ieee Go

theorem unary_neg_float (k : FloatKind) (b : Nat) : Op.unary .neg (.float k b) = pure (.float k (Op.negFloat k b)) := rfl
theorem unary_neg_complex (k : FloatKind) (a b : Nat) : Op.unary .neg (.complex k a b) = pure (.complex k (Op.negFloat k a) (Op.negFloat k b)) := rfl
attribute [go_sem] unary_neg_float unary_neg_complex
/-- 'r' is what the operation gives, up to NaN. -/
def IsOp (op : BinOp) (k : FloatKind) (x y r : Nat) : Prop := cn k r = fop op k (cn k x) (cn k y) ∧ r < 2 ^ k.format.width
def IsSqrt (x r : Nat) : Prop := cn .f64 r = fsqrt (cn .f64 x) ∧ r < 2 ^ 64

section
variable {P : Program} {o : Oper} {a : Act} {K : Act → World → Prop} {Q : Exit → Act → World → Prop} {w : World}

theorem run_arith (op : BinOp) (h4 : op = .add ∨ op = .sub ∨ op = .mul ∨ op = .quo) (t : TypeId) (k : FloatKind) (x y : Nat) :
    ∃ r n, (binOp op t (.float k x) (.float k y)).run P w = .ok (.float k r) (w.drewN n) ∧ IsOp op k x y r := by
  cases h : floatBits op k x y with
  | some r =>
    refine ⟨r, 0, run_float_arith w op t k x y r h, ?_, floatBits_lt h⟩
    rw [fop_cn, cn_of_not (floatBits_not_nan h)]
    simp [fop, h]
  | none =>
    refine ⟨(Question.nanBits k x y).cut (w.tape w.drawn (.nanBits k x y)), 1, ?_, ?_, (nan_cut k x y _).2⟩
    · unfold floatBits at h
      rcases h4 with rfl | rfl | rfl | rfl <;> simp only at h <;>
        simp [binOp, Op.floatArith, h, choose, Sem.run, Question.forced, World.drewN]
    · rw [fop_cn, cn_of_nan (nan_cut k x y _).1]
      simp [fop, h]

theorem upon_arith (op : BinOp) (h4 : op = .add ∨ op = .sub ∨ op = .mul ∨ op = .quo) (t : TypeId) (k : FloatKind) (x y : Nat)
    (h : ∀ r n, IsOp op k x y r → K (a.put o.dst (.float k r)) (w.drewN n)) :
    o.upon P a K Q (((binOp op t (.float k x) (.float k y)).run P w).andThen fun v w' => .ok (.value v) w') := by
  obtain ⟨r, n, h1, h2⟩ := run_arith (P := P) (w := w) op h4 t k x y
  rw [h1]
  exact h r n h2
theorem upon_add (t : TypeId) (k : FloatKind) (x y : Nat) (h : ∀ r n, IsOp .add k x y r → K (a.put o.dst (.float k r)) (w.drewN n)) :
    o.upon P a K Q (((binOp .add t (.float k x) (.float k y)).run P w).andThen fun v w' => .ok (.value v) w') := upon_arith .add (by simp) t k x y h
theorem upon_sub (t : TypeId) (k : FloatKind) (x y : Nat) (h : ∀ r n, IsOp .sub k x y r → K (a.put o.dst (.float k r)) (w.drewN n)) :
    o.upon P a K Q (((binOp .sub t (.float k x) (.float k y)).run P w).andThen fun v w' => .ok (.value v) w') := upon_arith .sub (by simp) t k x y h
theorem upon_mul (t : TypeId) (k : FloatKind) (x y : Nat) (h : ∀ r n, IsOp .mul k x y r → K (a.put o.dst (.float k r)) (w.drewN n)) :
    o.upon P a K Q (((binOp .mul t (.float k x) (.float k y)).run P w).andThen fun v w' => .ok (.value v) w') := upon_arith .mul (by simp) t k x y h
theorem upon_quo (t : TypeId) (k : FloatKind) (x y : Nat) (h : ∀ r n, IsOp .quo k x y r → K (a.put o.dst (.float k r)) (w.drewN n)) :
    o.upon P a K Q (((binOp .quo t (.float k x) (.float k y)).run P w).andThen fun v w' => .ok (.value v) w') := upon_arith .quo (by simp) t k x y h

theorem sqrt_eq (x : Nat) : Extern.MathSqrt.sqrt #[.float .f64 x] = (match FloatKind.f64.format.sqrt x with
    | some r => pure (.float .f64 r)
    | none => do pure (.float .f64 (← choose (.nanBits .f64 x x)))) := rfl
/-- math.sqrt. -/
theorem run_sqrt (x : Nat) : ∃ r n, (Extern.MathSqrt.sqrt #[.float .f64 x]).run P w = .ok (.float .f64 r) (w.drewN n) ∧ IsSqrt x r := by
  cases h : FloatKind.f64.format.sqrt x with
  | some r =>
    refine ⟨r, 0, by rw [sqrt_eq, h]; simp [World.drewN], ?_, FloatKind.f64.format.sqrt_lt h⟩
    rw [fsqrt_cn, cn_of_not (map_write_not_nan .f64 h fun d hd => root_not_nan hd)]
    simp [fsqrt, h]
  | none =>
    refine ⟨(Question.nanBits .f64 x x).cut (w.tape w.drawn (.nanBits .f64 x x)), 1, ?_, ?_, (nan_cut .f64 x x _).2⟩
    · rw [sqrt_eq, h]; simp [choose, Sem.run, Question.forced, World.drewN]
    · rw [fsqrt_cn, cn_of_nan (nan_cut .f64 x x _).1]
      simp [fsqrt, h]
theorem upon_sqrt {f : FuncId} {x : Nat} (hf : ∀ W : World, (callFunc f #[.float .f64 x]).run P W = ((Extern.MathSqrt.sqrt #[.float .f64 x]).run P W).andThen fun v w' => .ok (.value v) w')
    (h : ∀ r n, IsSqrt x r → K (a.put o.dst (.float .f64 r)) (w.drewN n)) :
    o.upon P a K Q ((callFunc f #[.float .f64 x]).run P w) := by
  obtain ⟨r, n, h1, h2⟩ := run_sqrt (P := P) (w := w) x
  rw [hf, h1]
  exact h r n h2
end
end Fl
