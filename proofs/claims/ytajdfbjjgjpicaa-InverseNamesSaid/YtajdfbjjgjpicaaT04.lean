/- Contracts of layer 4: a turn's 24ths. -/
import Derived.Test.YtajdfbjjgjpicaaRParts
import Derived.Test.YtajdfbjjgjpicaaFlT
import Derived.Test.YtajdfbjjgjpicaaFlPick
namespace Go.Proofs.Ytajdfbjjgjpicaa
open Go.RowKit Fl Ieee
set_option maxRecDepth 20000
attribute [local go_sem] x_f64frombits
attribute [local go_sem] x_f64bits
attribute [local go_sem] Fl.order_self Fl.order_self' Fl.order_eq Fl.order_ne Fl.order_lt Fl.order_gt Fl.fle_fold Fl.fge_fold Fl.negFloat_flip
theorem grown_trans {a b c : World} (h : Grown a b) (k : Grown b c) : Grown a c :=
  ⟨World.keptBut_trans h.1 k.1, fun x => (k.2.1 x).trans (h.2.1 x), Nat.le_trans h.2.2 k.2.2⟩
theorem SameNumber_c (a b c d : Nat) (w : World) :
    Calls Try.prog 76 #[.complex .f64 a b, .complex .f64 c d] w fun e w' => e = .returned (.bool (pSame (cn .f64 a, cn .f64 b) (cn .f64 c, cn .f64 d))) ∧ w = w' := by
  unfold pSame
  cases hd : decide (cn .f64 a = cn .f64 c)
  · go_enter Try.func76, Try.ntmps76
    go_wp2_with (go_at_call 14; refine (kSameReal_c _ _ _).mono ?_; rintro e w' ⟨rfl, rfl⟩)
    go_ret; exact ⟨ret_bool (by rfl), rfl⟩
  · go_enter Try.func76, Try.ntmps76
    go_wp2_with (go_at_call 14; refine (kSameReal_c _ _ _).mono ?_; rintro e w' ⟨rfl, rfl⟩)
    go_ret; exact ⟨ret_bool (by rfl), rfl⟩
theorem SameNumber_t {a b c d : Nat} {v : C} (h : Hid ((cn .f64 a, cn .f64 b) = v)) (h' : Hid ((cn .f64 c, cn .f64 d) = v)) (w : World) :
    Calls Try.prog 76 #[.complex .f64 a b, .complex .f64 c d] w fun e w' => e = .returned (.bool true) ∧ w = w' := by
  have := SameNumber_c a b c d w
  rw [h.out, h'.out] at this
  have e : pSame v v = true := by simp [pSame]
  rw [e] at this; exact this
end Go.Proofs.Ytajdfbjjgjpicaa
namespace Go.Proofs.Ytajdfbjjgjpicaa
open Go.RowKit Fl Ieee
set_option maxRecDepth 20000
attribute [local go_sem] Fl.order_self Fl.order_self' Fl.order_eq Fl.order_ne Fl.order_lt Fl.order_gt Fl.fle_fold Fl.fge_fold Fl.negFloat_flip x_f64frombits
/-- A real and an error are handed back. -/
def RetRE (v : Nat) (er : Int) (w : World) (e : Ending) (w' : World) : Prop :=
  ∃ x n, e = .returned (.tuple #[.float .f64 x, .int .i64 er]) ∧ cn .f64 x = v ∧ x < 18446744073709551616 ∧ w' = w.drewN n
theorem closeRE {v x n : Nat} {er : Int} {w : World} (h1 : cn .f64 x = v) (hx : x < 18446744073709551616) : RetRE v er w (.returned (.tuple #[.float .f64 x, .int .i64 er])) (w.drewN n) := ⟨x, n, rfl, h1, hx, rfl⟩
theorem closeRE0 {v x : Nat} {er : Int} {w : World} (h1 : cn .f64 x = v) (hx : x < 18446744073709551616) : RetRE v er w (.returned (.tuple #[.float .f64 x, .int .i64 er])) w := ⟨x, 0, rfl, h1, hx, rfl⟩
/-- The three halvings. -/
def tT (t : Nat) : Nat → Nat
  | 0 => t
  | k + 1 => fdiv (tT t k) (fadd fone (fsqrt (fadd fone (fmul (tT t k) (tT t k)))))
/-- 13, 11, .. 1, -1. -/
def dT (k : Nat) : Nat := [4623507967449235456, 4622382067542392832, 4621256167635550208, 4619567317775286272, 4617315517961601024, 4613937818241073152, 4607182418800017408, 13830554455654793216].getD k 0
/-- The sum of the arc's row. -/
def sT (u : Nat) : Nat → Nat
  | 0 => 4589468260265693457
  | k + 1 => fsub (fdiv fone (dT k)) (fmul u (sT u k))
theorem dT_sub : ∀ k, k < 7 → fop .sub .f64 (dT k) 4611686018427387904 = dT (k + 1) := by decide +kernel
theorem dT_pos : ∀ k, k < 7 → flt .f64 0 (dT k) = true := by decide +kernel
theorem dT_end : flt .f64 0 (dT 7) = false := by decide +kernel
theorem dT_good : ∀ k, k < 8 → isNaN double (dT k) = false ∧ dT k < 18446744073709551616 := by decide +kernel
theorem dT_int : ∀ k : Nat, k < 7 → floatOfInt .f64 (13 - 2 * (k : Int)) = dT k := by decide +kernel
theorem cn_dT {k : Nat} (h : k < 8) : cn .f64 (dT k) = dT k := cn_of_not (k := .f64) (dT_good k h).1
/-- Out of the quotient of the sizes. -/
def arc (t : Nat) : Nat := fmul (fmul (fmul 4620693217682128896 (tT t 3)) (sT (fmul (tT t 3) (tT t 3)) 7)) 4615783660508851396
def turn1 (c : Bool) (v : Nat) : Nat := if c then fsub 4618441417868443648 v else v
def turn2 (c : Bool) (v : Nat) : Nat := if c then fsub 4622945017495814144 v else v
def turn3 (c : Bool) (v : Nat) : Nat := if c then fsub 0 v else v
/-- The angle of a number that is finite and not 0: p, q its parts' bits. -/
def angle (p q : Nat) : Nat :=
  let a := rung double p
  let b := rung double q
  turn3 (flt .f64 q 0) (turn2 (flt .f64 p 0) (turn1 (flt .f64 a b) (arc (if flt .f64 b a then fdiv b a else fdiv a b))))
theorem eq_of_cn {x c : Nat} (h : cn .f64 x = c) (hn : isNaN double c = false) : x = c := by
  have h1 : isNaN double x = false := by rw [← h] at hn; exact (isNaN_cn64 x).symm.trans hn
  rw [cn_of_not (k := .f64) h1] at h; exact h
theorem cnK1 : cn .f64 4607182418800017408 = fone := by decide
theorem cnK8 : cn .f64 4620693217682128896 = 4620693217682128896 := by decide
theorem cnKc : cn .f64 4615783660508851396 = 4615783660508851396 := by decide
theorem cnK6 : cn .f64 4618441417868443648 = 4618441417868443648 := by decide
theorem cnK12 : cn .f64 4622945017495814144 = 4622945017495814144 := by decide
theorem cnK2 : cn .f64 4611686018427387904 = 4611686018427387904 := by decide
theorem cnS0 : cn .f64 4589468260265693457 = 4589468260265693457 := by decide
/-- How far the row has come, by the float that counts. -/
def dN : Value → Nat
  | .float _ b => [4623507967449235456, 4622382067542392832, 4621256167635550208, 4619567317775286272, 4617315517961601024, 4613937818241073152, 4607182418800017408].idxOf b
  | _ => 0
theorem int_eq {k : IntKind} {a b : Int} (h : a = b) : Value.int k a = Value.int k b := by rw [h]
theorem dN_less : ∀ j, j < 7 → 8 - dN (.float .f64 (dT (j + 1))) < 8 - dN (.float .f64 (dT j)) := by decide +kernel
end Go.Proofs.Ytajdfbjjgjpicaa
namespace Go.Proofs.Ytajdfbjjgjpicaa
open Go.RowKit Fl Ieee
set_option maxRecDepth 20000
attribute [local go_sem] Fl.order_self Fl.order_self' Fl.order_eq Fl.order_ne Fl.order_lt Fl.order_gt Fl.fle_fold Fl.fge_fold Fl.negFloat_flip x_f64frombits
theorem feq_of {x c : Nat} (h : cn .f64 x = c) (hn : isNaN double c = false) : feq .f64 x c = true := by
  have h1 := eq_of_cn h hn
  subst h1
  have h2 : isNaN FloatKind.f64.format x = false := hn
  rw [feq_self, h2]; rfl
theorem Pick_c (i n : Int) (hn : 0 < n) (hn2 : n ≤ 4611686018427387904) (w : World) :
    Calls Try.prog 23 #[.int .i64 i, .int .i64 n] w fun e w' => e = .returned (.int .i64 (i % n)) ∧ w = w' := by
  obtain ⟨t, ht⟩ : ∃ t, i.tmod n = t := ⟨_, rfl⟩
  have a1 := Int.tmod_lt_of_pos i hn
  have a2 := Int.tmod_lt_of_pos (-i) hn
  rw [Int.neg_tmod] at a2
  have a3 := emod_of_tmod i n hn
  rw [ht] at a1 a2 a3
  have hz : (n == 0) = false := beq_eq_false_iff_ne.2 (by omega)
  by_cases hneg : t < 0
  · rw [if_pos hneg] at a3
    have A3 : Hid _ := a3
    clear a3
    go_enter Try.func23, Try.ntmps23
    go_wp2
    go_ret; exact ⟨ret_int A3.out.symm, rfl⟩
  · rw [if_neg hneg] at a3
    have A3 : Hid _ := a3
    clear a3
    go_enter Try.func23, Try.ntmps23
    go_wp2
    go_ret; exact ⟨ret_int A3.out.symm, rfl⟩
end Go.Proofs.Ytajdfbjjgjpicaa
