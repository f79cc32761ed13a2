/- Layer 1: the examples that every statement of the outright file begins with. -/
import Derived.Test.YtbajeonhiaaclaaS02
import Derived.Test.YtbajeonhiaaclaaExt
namespace Go.Proofs.Ytbajeonhiaaclaa
open Go.RowKit Fl Ieee
set_option maxRecDepth 20000
attribute [local go_sem] Fl.order_self Fl.order_self' Fl.order_eq Fl.order_ne Fl.order_lt Fl.order_gt Fl.fle_fold Fl.fge_fold
theorem cn_known {x c : Nat} (h : cn .f64 x = c) (hc : isNaN double c = false) : x = c := by
  by_cases hx : isNaN double x = true
  · rw [cn_of_nan (k := .f64) hx] at h
    rw [← h] at hc
    have := isNaN_qn .f64
    exact absurd (this.symm.trans hc) (by decide)
  · rw [cn_of_not (k := .f64) (show isNaN FloatKind.f64.format x = false from Bool.eq_false_iff.2 hx)] at h; exact h
theorem RetRR.known {v : Nat × Nat} {w w' : World} {e : Ending} {a b : Nat} (h : RetRR v w e w') (hv : v = (a, b)) (ha : isNaN double a = false) (hb : isNaN double b = false) :
    ∃ n, e = .returned (.tuple #[.float .f64 a, .float .f64 b]) ∧ w' = w.drewN n := by
  obtain ⟨x, y, n, rfl, h1, _, _, rfl⟩ := h
  rw [hv] at h1
  have hx := cn_known (congrArg Prod.fst h1) ha
  have hy := cn_known (congrArg Prod.snd h1) hb
  dsimp at hx hy
  subst hx; subst hy
  exact ⟨n, rfl, rfl⟩
theorem floatw_c (n : Nat) (_hn : n < 18446744073709551616) (w : World) :
    Calls Try.prog 19 #[.int .u64 n] w fun e w' => e = .returned (.float .f64 n) ∧ w = w' := by
  have h := x_f64frombits
  go_enter Try.func19, Try.ntmps19
  go_wp2
  go_ret; exact ⟨ret_float (by omega), rfl⟩
theorem awake_c (w : World) : Calls Try.prog 30 #[] w fun e w' => e = .returned (.bool true) ∧ Below w.heap.size w w' := by
  have hbits := x_f64bits
  have k0 : plc 13830554455654793216 = -4607182418800017408 := by kernel_rfl
  have k0' : (!isNaN double 13830554455654793216) = true := by kernel_rfl
  have k1 : twoSum (cn .f64 4591870180066957722) (cn .f64 4596373779694328218) = (4599075939470750516, 13582856476149415936) := by kernel_rfl
  have k2 : twoProd (cn .f64 4591870180066957722) (cn .f64 4591870180066957722) = (4576918229304087676, 13559978190042373816) := by kernel_rfl
  have k3 : sumErr ([4607182418800017408, 4368491638549381120, 4368491638549381120].map (cn .f64)) = (4607182418800017408, [0, 4368491638549381120, 4368491638549381120]) := by kernel_rfl
  have k4 : nx 0 true = 1 := by kernel_rfl
  have n1 : isNaN double 4599075939470750516 = false := by kernel_rfl
  have n2 : isNaN double 13582856476149415936 = false := by kernel_rfl
  have n3 : isNaN double 4576918229304087676 = false := by kernel_rfl
  have n4 : isNaN double 13559978190042373816 = false := by kernel_rfl
  have n5 : isNaN double 4607182418800017408 = false := by kernel_rfl
  have f1 : isNaN FloatKind.f64.format 4599075939470750516 = false := n1
  have f2 : isNaN FloatKind.f64.format 13582856476149415936 = false := n2
  have f3 : isNaN FloatKind.f64.format 4576918229304087676 = false := n3
  have f4 : isNaN FloatKind.f64.format 13559978190042373816 = false := n4
  have f5 : isNaN FloatKind.f64.format 4607182418800017408 = false := n5
  have P := Lib.hid (Place_c 13830554455654793216 (by decide))
  have NX := Lib.hid (Next1_c 0 true (by decide))
  rw [k0, k0'] at P
  rw [k4] at NX
  have K1 := Lib.hid k1
  have K2 := Lib.hid k2
  have K3 := Lib.hid k3
  clear k0 k0' k1 k2 k3 k4 n1 n2 n3 n4 n5
  go_enter Try.func30, Try.ntmps30
  go_wp2_with fail
  refine (P.out _).mono ?_
  rintro e w' ⟨rfl, rfl⟩
  go_wp2_with fail
  refine (TwoSum_c _ _ _).mono ?_
  intro e w' h
  obtain ⟨q1, rfl, rfl⟩ := h.known K1.out f1 f2
  clear h
  go_wp2_with fail
  refine (TwoProd_c _ _ _).mono ?_
  intro e w' h
  obtain ⟨q2, rfl, rfl⟩ := h.known K2.out f3 f4
  clear h
  go_wp2_with fail
  refine (SumErr_c (some ⟨_, 0, none⟩) [4607182418800017408, 4368491638549381120, 4368491638549381120] 3 _ (by simp [words]) (by decide) ?_).mono ?_
  · exact (Reads.new _ _ [.float .f64 4607182418800017408, .float .f64 4368491638549381120, .float .f64 4368491638549381120]).more (by simp)
  rintro e w1 ⟨s, v, errs, rfl, hv, _, _, hlen, hown, hbel⟩
  rw [K3.out] at hv
  have hs : s = 4607182418800017408 := cn_known (congrArg Prod.fst hv) f5
  have he : errs.map (cn .f64) = [0, 4368491638549381120, 4368491638549381120] := congrArg Prod.snd hv
  subst hs
  clear hv
  have hlen3 : errs.length = 3 := hlen
  clear hlen
  rw [hlen3] at hown
  obtain ⟨g, cap, rfl, -, hg⟩ := hown.form (by decide)
  have hr : Reads w1 w1.heap.size (some ⟨g, 0, none⟩) (reals errs) := Reads.of_own hown
  have HR := Lib.hid hr
  have HE := Lib.hid he
  have HL := Lib.hid hlen3
  have HB := Lib.hid hbel
  clear hr he hlen3 hbel hown
  go_wp2_with fail
  refine (NX.out _).mono ?_
  rintro e w' ⟨rfl, rfl⟩
  go_wp2_with fail
  refine (SameReals_t (some ⟨g, 0, none⟩) (some ⟨_, 0, none⟩) errs [0, 4368491638549381120, 4368491638549381120] 3 cap 3 _ HL.out rfl ?_ (by decide) ?_ ?_).mono ?_
  · rw [HE.out]; decide
  · exact ((HR.out).alloc (Nat.le_refl _) _).more (by simp)
  · exact (Reads.new _ _ [.float .f64 0, .float .f64 4368491638549381120, .float .f64 4368491638549381120]).more (by simp)
  rintro e w' ⟨n, rfl, rfl⟩
  go_wp2
  go_ret
  refine ⟨rfl, ?_⟩
  have hs1 := HB.out.size
  have hb1 : Below w.heap.size w w1 := ((below_drewN (Below.refl _ w) (q1 + q2)).alloc (Nat.le_refl _) _).trans (HB.out.mono (by show w.heap.size ≤ (w.heap.push _).size; simp))
  exact below_drewN (hb1.alloc hb1.size _) _
end Go.Proofs.Ytbajeonhiaaclaa
