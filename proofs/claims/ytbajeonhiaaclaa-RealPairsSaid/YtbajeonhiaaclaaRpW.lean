/- Layer 1, RealPairs: the walk. -/
import Derived.Test.YtbajeonhiaaclaaEx6
import Derived.Test.YtbajeonhiaaclaaS03
import Derived.Test.YtbajeonhiaaclaaS02
import Derived.Test.YtbajeonhiaaclaaExt
namespace Go.Proofs.Ytbajeonhiaaclaa
open Go.RowKit Fl Ieee
set_option maxRecDepth 20000
theorem Pairs1 (a b : Nat) (ha : a < 18446744073709551616) (hb : b < 18446744073709551616) (w : World) :
    Calls Try.prog 8 #[.int .u64 (a : Nat), .int .u64 (b : Nat)] w fun e w' => e = .returned (.bool true) ∧ Below w.heap.size w w' := by
  have HA := Lib.hid ha
  have HB := Lib.hid hb
  clear ha hb
  go_enter Try.func8, Try.ntmps8
  go_wp2_with fail
  refine (floatw_c a HA.out _).mono ?_
  rintro e W1 ⟨rfl, rfl⟩
  go_wp2_with fail
  refine (floatw_c b HB.out _).mono ?_
  rintro e W1 ⟨rfl, rfl⟩
  go_wp2_with fail
  refine (TwoSum_c a b _).mono ?_
  rintro e W1 ⟨s, e1, n1, rfl, g1, bs, be, rfl⟩
  have G1 := Lib.hid g1
  clear g1
  go_wp2_with fail
  refine (RTwoSum_c a b _).mono ?_
  rintro e W1 ⟨t, f1, n2, rfl, g2, bt, bf, rfl⟩
  have G2 := Lib.hid g2
  clear g2
  go_wp2_with fail
  refine (TwoProd_c a b _).mono ?_
  rintro e W1 ⟨p, g, n3, rfl, g3, bp, bg, rfl⟩
  have G3 := Lib.hid g3
  clear g3
  go_wp2_with fail
  refine (RTwoProd_c a b HA.out HB.out _).mono ?_
  rintro e W1 ⟨q, h, rfl, g4, bq, bh, hbl⟩
  have G4 := Lib.hid g4
  have HBl := Lib.hid ((below_drewN (Below.refl w.heap.size w) _).trans (hbl.mono (by simp)))
  have q1 : (cn .f64 s = cn .f64 t) ∧ (cn .f64 e1 = cn .f64 f1) := by
    have := G1.out.trans G2.out.symm; injection this with x y; exact ⟨x, y⟩
  have q2 : (cn .f64 p = cn .f64 q) ∧ (cn .f64 g = cn .f64 h) := by
    have := G3.out.trans G4.out.symm; injection this with x y; exact ⟨x, y⟩
  have S1 := Lib.hid (RSame1_c s t)
  have S2 := Lib.hid (RSame1_c e1 f1)
  have S3 := Lib.hid (RSame1_c p q)
  have S4 := Lib.hid (RSame1_c g h)
  rw [decide_eq_true q1.1] at S1
  rw [decide_eq_true q1.2] at S2
  rw [decide_eq_true q2.1] at S3
  rw [decide_eq_true q2.2] at S4
  clear g4 hbl q1 q2
  go_wp2_with fail
  refine (S1.out _).mono ?_
  rintro e W2 ⟨rfl, rfl⟩
  go_wp2_with fail
  refine (S2.out _).mono ?_
  rintro e W2 ⟨rfl, rfl⟩
  go_wp2_with fail
  refine (S3.out _).mono ?_
  rintro e W2 ⟨rfl, rfl⟩
  go_wp2_with fail
  refine (S4.out _).mono ?_
  rintro e W2 ⟨rfl, rfl⟩
  go_wp2
  go_ret
  exact ⟨rfl, HBl.out⟩
end Go.Proofs.Ytbajeonhiaaclaa
