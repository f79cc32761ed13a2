/- Layer 4's closed calls; a number counted round. -/
import Derived.Test.YtbhjhlobmhpjfaaT04A
import Derived.Test.YtbhjhlobmhpjfaaFlPick
namespace Go.Proofs.Ytbhjhlobmhpjfaa
open Go.RowKit Fl Ieee
set_option maxRecDepth 20000
attribute [local go_sem] Fl.order_self Fl.order_self' Fl.order_eq Fl.order_ne Fl.order_lt Fl.order_gt Fl.fle_fold Fl.fge_fold Fl.negFloat_flip x_f64frombits
theorem feq_of {x c : Nat} (h : cn .f64 x = c) (hn : isNaN double c = false) : feq .f64 x c = true := by
  have h1 := eq_of_cn h hn
  subst h1
  have h2 : isNaN FloatKind.f64.format x = false := hn
  rw [feq_self, h2]; rfl
theorem Pick_c (i n : Int) (hn : 0 < n) (hn2 : n ≤ 4611686018427387904) (w : World) :
    Calls Try.prog 21 #[.int .i64 i, .int .i64 n] w fun e w' => e = .returned (.int .i64 (i % n)) ∧ w = w' := by
  obtain ⟨t, ht⟩ : ∃ t, i.tmod n = t := ⟨_, rfl⟩
  have a1 := Int.tmod_lt_of_pos i hn
  have a2 := Int.tmod_lt_of_pos (-i) hn
  rw [Int.neg_tmod] at a2
  have a3 := emod_of_tmod i n hn
  rw [ht] at a1 a2 a3
  have hz : (n == 0) = false := beq_eq_false_iff_ne.2 (by omega)
  by_cases hneg : t < 0
  · rw [if_pos hneg] at a3
    have A3 : Hid _ := a3
    clear a3
    go_enter Try.func21, Try.ntmps21
    go_wp2
    go_ret; exact ⟨ret_int A3.out.symm, rfl⟩
  · rw [if_neg hneg] at a3
    have A3 : Hid _ := a3
    clear a3
    go_enter Try.func21, Try.ntmps21
    go_wp2
    go_ret; exact ⟨ret_int A3.out.symm, rfl⟩
theorem awake4_c (w : World) : Calls Try.prog 20 #[] w (RetB true w) := by
  have v1 : angle 0 13840687554816376832 = 13841813454723219456 := by decide +kernel
  have v2 : pMul (cn .f64 0, cn .f64 4611686018427387904) (rootT 6) = (13835058055282163712, 0) := by decide +kernel
  have f1 : feq .f64 (rootT 3).1 4604544271217802189 = true := by decide +kernel
  have f2 : feq .f64 (rootT 3).2 4604544271217802189 = true := by decide +kernel
  have f3 : feq .f64 (rootT 18).1 0 = true := by decide +kernel
  have f4 : feq .f64 (rootT 18).2 13830554455654793216 = true := by decide +kernel
  have h1 := fun W => Angle_c 0 13840687554816376832 (by omega) (by omega) (by decide +kernel) (by decide +kernel) W
  have h2 := fun W => Angle_zero 0 0 (by omega) (by omega) (by decide +kernel) (by decide +kernel) (by decide +kernel) W
  have H1 : Hid _ := h1
  have H2 : Hid _ := h2
  have V1 : Hid _ := v1
  have V2 : Hid _ := v2
  clear v1 v2 h1 h2
  go_enter Try.func20, Try.ntmps20
  go_wp2_with fail
  refine (H1.out _).mono ?_
  rintro e w' ⟨x1, n1, rfl, g1, b1, rfl⟩
  have e1 : feq .f64 x1 13841813454723219456 = true := feq_of (g1.trans V1.out) (by decide)
  clear g1
  go_wp2_with fail
  refine (H2.out _).mono ?_
  rintro e w' ⟨x2, n2, rfl, g2, b2, rfl⟩
  clear g2
  go_wp2_with fail
  refine (Root_c _ _).mono ?_
  rintro e w' ⟨rfl, rfl⟩
  go_wp2_with fail
  refine (Root_c _ _).mono ?_
  rintro e w' ⟨rfl, rfl⟩
  go_wp2_with fail
  refine (Turned_c _ _ _ _).mono ?_
  rintro e w' ⟨x5, y5, n5, rfl, g5, bx5, by5, rfl⟩
  have H5 : Hid _ := g5
  clear g5
  have e5 : feq .f64 x5 13835058055282163712 = true := feq_of (congrArg Prod.fst (H5.out.trans V2.out)) (by decide)
  have e6 : feq .f64 y5 0 = true := feq_of (congrArg Prod.snd (H5.out.trans V2.out)) (by decide)
  go_wp2
  go_ret; exact closeB rfl
/-- What is asked of the circle, at one of the 24ths. -/
def circ (m : Int) : Bool :=
  feq .f64 (cosT m) (cosT m) && feq .f64 (cosT ((m + 18) % 24)) (cosT ((m + 18) % 24)) &&
  feq .f64 (cosT ((m + 12) % 24)) (flip double (cosT m)) && feq .f64 (cosT ((m + 30) % 24)) (flip double (cosT ((m + 18) % 24))) &&
  feq .f64 (cosT ((-m) % 24)) (cosT m) && feq .f64 (cosT ((-m + 18) % 24)) (flip double (cosT ((m + 18) % 24))) &&
  feq .f64 (cosT ((6 - m) % 24)) (cosT ((m + 18) % 24)) && feq .f64 (cosT ((24 - m) % 24)) (cosT m) &&
  feq .f64 (cosT ((m + 6) % 24)) (flip double (cosT ((m + 18) % 24))) && feq .f64 (cosT ((m + 24) % 24)) (cosT m) &&
  (!feq .f64 (cosT m) 0 || cosT m == 0) && (!feq .f64 (cosT ((m + 18) % 24)) 0 || cosT ((m + 18) % 24) == 0)
theorem circ_all (m : Int) (h0 : 0 ≤ m) (h1 : m < 24) : circ m = true := twenty_four (P := fun m => circ m = true) (by decide +kernel) m h0 h1
theorem rootT_of {k : Int} {a b : Int} (h1 : k % 24 = a) (h2 : (k + 18) % 24 = b) : (rootT k).1 = cosT a ∧ (rootT k).2 = cosT b := by
  subst h1; subst h2; exact ⟨rfl, rfl⟩
theorem eq_zero_or {a : Nat} (h : (!feq .f64 a 0 || a == 0) = true) : feq .f64 a 0 = false ∨ (feq .f64 a 0 = true ∧ ((a : Int) == 0) = true) := by
  cases h1 : feq .f64 a 0
  · exact .inl rfl
  · rw [h1] at h
    have h2 : a = 0 := by simpa using h
    exact .inr ⟨rfl, by rw [h2]; rfl⟩
end Go.Proofs.Ytbhjhlobmhpjfaa
