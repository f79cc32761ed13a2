/- Layer 1: kinds, places, neighbours of a real: the program's and the reference's. -/
import Derived.Test.YtajdfbjjgjpicaaParts2
namespace Go.Proofs.Ytajdfbjjgjpicaa
open Go.RowKit Fl Ieee
set_option maxRecDepth 20000
attribute [local go_sem] x_f64frombits
attribute [local go_sem] x_f64bits
attribute [local go_sem] Fl.order_self Fl.order_self' Fl.order_eq Fl.order_ne Fl.order_lt Fl.order_gt Fl.fle_fold Fl.fge_fold Fl.u64_clear Fl.u64_sign Fl.u64_flip Fl.u64_or_sign Fl.u32_clear Fl.negFloat_flip

theorem ret_ib {a c : Int} {b d : Bool} (h : a = c) (h' : b = d) : Ending.returned (.tuple #[.int .i64 a, .bool b]) = .returned (.tuple #[.int .i64 c, .bool d]) := by rw [h, h']
theorem ret_fb {a c : Nat} {b d : Bool} (h : a = c) (h' : b = d) : Ending.returned (.tuple #[.float .f64 a, .bool b]) = .returned (.tuple #[.float .f64 c, .bool d]) := by rw [h, h']
theorem u64_wrap (z : Int) : IntKind.u64.wrap z = z % 18446744073709551616 := by simp [IntKind.wrap, IntKind.bits, IntKind.signed]
theorem double_word {x : Nat} (hx : x < 18446744073709551616) : x = if sgn double x then 9223372036854775808 + rung double x else rung double x := by
  have h := word_split (f := double) hx
  have e : double.word (sgn double x) (rung double x) = if sgn double x then 9223372036854775808 + rung double x else rung double x := by
    unfold Format.word; rw [sw64]
  rw [← e]; exact h
theorem inf_double : double.infRung = 9218868437227405312 := by decide
/-- A real's kind. -/
def kind (x : Nat) : Nat :=
  if rung double x = 0 then 0 else if rung double x < 4503599627370496 then 1 else if rung double x < 9218868437227405312 then 2
  else if rung double x = 9218868437227405312 then 3 else 4
/-- A real's place. -/
def plc (x : Nat) : Int := if isNaN double x then 0 else key double x
def atOk (p : Int) : Bool := decide (-9218868437227405312 ≤ p) && decide (p ≤ 9218868437227405312)
def atV (p : Int) : Nat := if atOk p then (if p < 0 then 9223372036854775808 + (-p).toNat else p.toNat) else 0
/-- The real beside one. -/
def nx (x : Nat) (up : Bool) : Nat :=
  if isNaN double x then x
  else if up then (if key double x = 9218868437227405312 then x else atV (key double x + 1))
  else (if key double x = -9218868437227405312 then x else atV (key double x - 1))
theorem rung_mod (x : Nat) : rung double x = x % 9223372036854775808 := by unfold rung; rw [sw64]
theorem key_bounds {x : Nat} (hn : isNaN double x = false) : -9218868437227405312 ≤ key double x ∧ key double x ≤ 9218868437227405312 := by
  simp only [isNaN, decide_eq_false_iff_not, inf_double] at hn
  unfold key; split <;> omega
theorem atV_lt (p : Int) : atV p < 18446744073709551616 := by
  unfold atV atOk; split
  · rename_i h; simp at h; split <;> omega
  · decide
theorem nx_lt {x : Nat} (hx : x < 18446744073709551616) (up : Bool) : nx x up < 18446744073709551616 := by
  unfold nx; split
  · exact hx
  · split <;> split <;> first | exact hx | exact atV_lt _

end Go.Proofs.Ytajdfbjjgjpicaa
namespace Go.Proofs.Ytajdfbjjgjpicaa
open Go.RowKit Fl Ieee
set_option maxRecDepth 20000
end Go.Proofs.Ytajdfbjjgjpicaa
