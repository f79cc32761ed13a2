/- Layer 4's closed calls; a number counted round. -/
import Derived.Test.YtdkcdcbbpebgmaaT04A
import Derived.Test.YtdkcdcbbpebgmaaFlPick
namespace Go.Proofs.Ytdkcdcbbpebgmaa
open Go.RowKit Fl Ieee
set_option maxRecDepth 20000
attribute [local go_sem] Fl.order_self Fl.order_self' Fl.order_eq Fl.order_ne Fl.order_lt Fl.order_gt Fl.fle_fold Fl.fge_fold Fl.negFloat_flip x_f64frombits
theorem feq_of {x c : Nat} (h : cn .f64 x = c) (hn : isNaN double c = false) : feq .f64 x c = true := by
  have h1 := eq_of_cn h hn
  subst h1
  have h2 : isNaN FloatKind.f64.format x = false := hn
  rw [feq_self, h2]; rfl
theorem Pick_c (i n : Int) (hn : 0 < n) (hn2 : n ≤ 4611686018427387904) (w : World) :
    Calls Try.prog 53 #[.int .i64 i, .int .i64 n] w fun e w' => e = .returned (.int .i64 (i % n)) ∧ w = w' := by
  obtain ⟨t, ht⟩ : ∃ t, i.tmod n = t := ⟨_, rfl⟩
  have a1 := Int.tmod_lt_of_pos i hn
  have a2 := Int.tmod_lt_of_pos (-i) hn
  rw [Int.neg_tmod] at a2
  have a3 := emod_of_tmod i n hn
  rw [ht] at a1 a2 a3
  have hz : (n == 0) = false := beq_eq_false_iff_ne.2 (by omega)
  by_cases hneg : t < 0
  · rw [if_pos hneg] at a3
    have A3 : Hid _ := a3
    clear a3
    go_enter Try.func53, Try.ntmps53
    go_wp2
    go_ret; exact ⟨ret_int A3.out.symm, rfl⟩
  · rw [if_neg hneg] at a3
    have A3 : Hid _ := a3
    clear a3
    go_enter Try.func53, Try.ntmps53
    go_wp2
    go_ret; exact ⟨ret_int A3.out.symm, rfl⟩
end Go.Proofs.Ytdkcdcbbpebgmaa
