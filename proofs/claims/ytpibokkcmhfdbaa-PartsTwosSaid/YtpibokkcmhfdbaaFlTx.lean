/- What PartsTwos asks of quotients. -/
import Derived.Test.YtpibokkcmhfdbaaFlTw
namespace Fl
open Ieee Go
theorem ex_zero {x k : Nat} (hx : x < 18446744073709551616) (h : rung double x = 0) : Ex x 0 k :=
  ⟨hx, by unfold fin; rw [h, infRung64]; decide, by rw [zero_rung.2 h]; simp⟩
theorem ex_one : Ex 4607182418800017408 1 1074 := by
  have h := ex_two (n := 1022) (by omega)
  rw [binade64] at h; exact h
theorem ex_minus : Ex 13830554455654793216 (-1) 1074 := by
  have h := ex_one.neg
  have e : fneg 4607182418800017408 = 13830554455654793216 := by decide +kernel
  rw [e] at h; exact h
theorem Ex.at {x k : Nat} {a b : Int} (h : Ex x a k) (e : a = b) : Ex x b k := e ▸ h
theorem quot_minus {P Q : Nat} {p q : Int} (hp : Ex P p 1074) (hq : Ex Q q 1074) (bp : p.natAbs < 9007199254740992) :
    Ex (pDiv (P, Q) (13830554455654793216, 0)).1 (-p) 1074 ∧ (q.natAbs < 9007199254740992 → Ex (pDiv (P, Q) (13830554455654793216, 0)).2 (-q) 1074) := by
  have e1 : fle .f64 (fabs 0) (fabs 13830554455654793216) = true := by decide +kernel
  have e2 : fdiv 0 13830554455654793216 = 9223372036854775808 := by decide +kernel
  have e3 : fadd 13830554455654793216 (fmul 0 9223372036854775808) = 13830554455654793216 := by decide +kernel
  have z : Ex 9223372036854775808 0 1074 := ex_zero (by decide) (by decide)
  unfold pDiv
  rw [if_pos e1]
  dsimp only
  rw [e2, e3]
  have m1 := hq.mul z (n := 1074) (by omega) (by simp) (by omega)
  have m2 := hp.mul z (n := 1074) (by omega) (by simp) (by omega)
  have s1 := (hp.add m1 (by simpa using bp) (by omega)).at (b := p) (by simp)
  refine ⟨(s1.div ex_minus (.inr rfl) bp (by omega)).at (by omega), fun bq => ?_⟩
  have s2 := (hq.sub m2 (by simpa using bq) (by omega)).at (b := q) (by simp)
  exact (s2.div ex_minus (.inr rfl) bq (by omega)).at (by omega)
theorem quot_i {P Q : Nat} {p q : Int} (hp : Ex P p 1074) (hq : Ex Q q 1074) (bp : p.natAbs < 9007199254740992) (bq : q.natAbs < 9007199254740992) :
    Ex (pDiv (P, Q) (0, 4607182418800017408)).1 q 1074 ∧ Ex (pDiv (P, Q) (0, 4607182418800017408)).2 (-p) 1074 := by
  have e1 : ¬ fle .f64 (fabs 4607182418800017408) (fabs 0) = true := by decide +kernel
  have e2 : fdiv 0 4607182418800017408 = 0 := by decide +kernel
  have e3 : fadd (fmul 0 0) 4607182418800017408 = 4607182418800017408 := by decide +kernel
  have z : Ex 0 0 1074 := ex_zero (by decide) (by decide)
  unfold pDiv
  rw [if_neg e1]
  dsimp only
  rw [e2, e3]
  have m1 := hp.mul z (n := 1074) (by omega) (by simp) (by omega)
  have m2 := hq.mul z (n := 1074) (by omega) (by simp) (by omega)
  have s1 := (m1.add hq (by simpa using bq) (by omega)).at (b := q) (by simp)
  have s2 := (m2.sub hp (by simpa using bp) (by omega)).at (b := -p) (by simp)
  exact ⟨(s1.div ex_one (.inl rfl) bq (by omega)).at (by omega), (s2.div ex_one (.inl rfl) (by simpa using bp) (by omega)).at (by omega)⟩
theorem quot_mi {P Q : Nat} {p q : Int} (hp : Ex P p 1074) (hq : Ex Q q 1074) (bp : p.natAbs < 9007199254740992) (bq : q.natAbs < 9007199254740992) :
    Ex (pDiv (P, Q) (0, 13830554455654793216)).1 (-q) 1074 ∧ Ex (pDiv (P, Q) (0, 13830554455654793216)).2 p 1074 := by
  have e1 : ¬ fle .f64 (fabs 13830554455654793216) (fabs 0) = true := by decide +kernel
  have e2 : fdiv 0 13830554455654793216 = 9223372036854775808 := by decide +kernel
  have e3 : fadd (fmul 0 9223372036854775808) 13830554455654793216 = 13830554455654793216 := by decide +kernel
  have z : Ex 9223372036854775808 0 1074 := ex_zero (by decide) (by decide)
  unfold pDiv
  rw [if_neg e1]
  dsimp only
  rw [e2, e3]
  have m1 := hp.mul z (n := 1074) (by omega) (by simp) (by omega)
  have m2 := hq.mul z (n := 1074) (by omega) (by simp) (by omega)
  have s1 := (m1.add hq (by simpa using bq) (by omega)).at (b := q) (by simp)
  have s2 := (m2.sub hp (by simpa using bp) (by omega)).at (b := -p) (by simp)
  exact ⟨(s1.div ex_minus (.inr rfl) bq (by omega)).at (by omega), (s2.div ex_minus (.inr rfl) (by simpa using bp) (by omega)).at (by omega)⟩
/-- All are finite. -/
def finC (a : C) : Prop := fin double a.1 ∧ fin double a.2
theorem twos_quot {P Q D E T n : Nat} {p q c d : Int} (hp : Ex P p 1074) (hq : Ex Q q 1074) (hc : Ex D c 1074) (hd : Ex E d 1074) (hT : Ex T 1 (n + 946)) (hn : n < 256)
    (bp : p.natAbs ≤ 2 ^ 15) (bq : q.natAbs ≤ 2 ^ 15) (bc : c.natAbs ≤ 2 ^ 15) (bd : d.natAbs ≤ 2 ^ 15) (h0 : c ≠ 0 ∨ d ≠ 0) :
    (feq .f64 (pDiv (fmul T P, fmul T Q) (D, E)).1 (fmul T (pDiv (P, Q) (D, E)).1) = true ∧ feq .f64 (pDiv (fmul T P, fmul T Q) (D, E)).2 (fmul T (pDiv (P, Q) (D, E)).2) = true) ∧
    finC (pDiv (fmul T P, fmul T Q) (D, E)) ∧ finC (pDiv (P, Q) (D, E)) ∧ finC (fmul T (pDiv (P, Q) (D, E)).1, fmul T (pDiv (P, Q) (D, E)).2) := by
  have tp : Ex (fmul T P) p (n + 946) := (hT.mul hp (n := n + 946) (by omega) (by rw [Int.one_mul]; omega) (by omega)).at (Int.one_mul _)
  have tq : Ex (fmul T Q) q (n + 946) := (hT.mul hq (n := n + 946) (by omega) (by rw [Int.one_mul]; omega) (by omega)).at (Int.one_mul _)
  have c1 : Bd D 1074 1089 := (hc.bd bc).mono (by omega) (by omega)
  have c2 : Bd E 1074 1089 := (hd.bd bd).mono (by omega) (by omega)
  have z0 : sval double D ≠ 0 ∨ sval double E ≠ 0 := by
    rcases h0 with h | h
    · left; rw [hc.2.2]; exact fun e => h (mul_two_eq.1 e)
    · right; rw [hd.2.2]; exact fun e => h (mul_two_eq.1 e)
  have lx : ltC (P, Q) := ⟨hp.1, hq.1⟩
  have ly : ltC (fmul T P, fmul T Q) := ⟨fmul_lt _ _, fmul_lt _ _⟩
  have b1 : Bd P 946 1216 := (hp.bd bp).mono (by omega) (by omega)
  have b2 : Bd Q 946 1216 := (hq.bd bq).mono (by omega) (by omega)
  have b3 : Bd (fmul T P) 946 1216 := (tp.bd bp).mono (by omega) (by omega)
  have b4 : Bd (fmul T Q) 946 1216 := (tq.bd bq).mono (by omega) (by omega)
  rcases Nat.lt_or_ge n 128 with hlt | hge
  · -- down
    obtain ⟨i, hi⟩ : ∃ i, i = 128 - n := ⟨_, rfl⟩
    have ek : n + 946 = 1074 - i := by omega
    have e1 : n + 946 + i = 1074 := by omega
    have s1 : Sc i (fmul T P) P := tp.sc (by rw [e1]; exact hp)
    have s2 : Sc i (fmul T Q) Q := tq.sc (by rw [e1]; exact hq)
    have s := div_sc (x := (fmul T P, fmul T Q)) (y := (P, Q)) (b := (D, E)) s1 s2 (by omega) b3 b4 ly lx c1 c2 z0
    have ss := div_sc (i := 0) (x := (P, Q)) (y := (P, Q)) (b := (D, E)) ⟨hp.2.1, hp.2.1, by simp⟩ ⟨hq.2.1, hq.2.1, by simp⟩ (by omega) b1 b2 lx lx c1 c2 z0
    have hT' : Ex T 1 (1074 - i) := by rw [← ek]; exact hT
    have u1 := two_mul_down hT' (by omega) ss.1.2 (by omega)
    have u2 := two_mul_down hT' (by omega) ss.2.2 (by omega)
    exact ⟨⟨sc_eq' s.1.1 u1, sc_eq' s.2.1 u2⟩, ⟨s.1.1.1, s.2.1.1⟩, ⟨ss.1.1.1, ss.2.1.1⟩, ⟨u1.1, u2.1⟩⟩
  · obtain ⟨i, hi⟩ : ∃ i, i = n - 128 := ⟨_, rfl⟩
    have ek : n + 946 = 1074 + i := by omega
    have s1 : Sc i P (fmul T P) := hp.sc (by rw [← ek]; exact tp)
    have s2 : Sc i Q (fmul T Q) := hq.sc (by rw [← ek]; exact tq)
    have s := div_sc (x := (P, Q)) (y := (fmul T P, fmul T Q)) (b := (D, E)) s1 s2 (by omega) b1 b2 lx ly c1 c2 z0
    have hT' : Ex T 1 (1074 + i) := by rw [← ek]; exact hT
    have u1 := two_mul_up hT' s.1.2 (by omega) (by omega)
    have u2 := two_mul_up hT' s.2.2 (by omega) (by omega)
    exact ⟨⟨sc_eq s.1.1 u1, sc_eq s.2.1 u2⟩, ⟨s.1.1.2.1, s.2.1.2.1⟩, ⟨s.1.1.1, s.2.1.1⟩, ⟨u1.2.1, u2.2.1⟩⟩
end Fl
