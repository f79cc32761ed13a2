/- Exact numbers of 72 limbs: bits, parts of a float. -/
import Derived.Test.YtandllekeimpgaaGreatExW
import Derived.Test.YtandllekeimpgaaGreatExt
import Derived.Deep.WholeRow
import Derived.Deep.DeepCutAuto
namespace Go.Proofs.YtandllekeimpgaaGreat
open Go.RowKit Fl Ieee
set_option maxRecDepth 20000
attribute [local go_sem] x_f64bits
theorem sgn_div (x : Nat) (hx : x < 18446744073709551616) : sgn double x = decide ((x : Int) / 9223372036854775808 = 1) := by
  unfold sgn
  rw [sw64, Bool.eq_iff_iff]
  simp only [beq_iff_eq, decide_eq_true_eq]
  omega
theorem neg_c (x : Nat) (hx : x < 18446744073709551616) (w : World) : Calls Tryz.prog 128 #[.float .f64 x] w fun e w' => e = .returned (.bool (sgn double x)) ∧ w = w' := by
  have HE := Lib.hid (sgn_div x hx)
  go_enter Tryz.func128, Tryz.ntmps128
  go_wp2
  go_ret
  refine ⟨ret_bool ?_, rfl⟩
  rw [HE.out, Bool.eq_iff_iff]
  simp
/-- A finite word's size. -/
theorem taken_val {x : Nat} (hf : fin double x) : (rung double x < 4503599627370496 ∧ val double (rung double x) = rung double x) ∨
    (4503599627370496 ≤ rung double x ∧ rung double x / 4503599627370496 < 2047 ∧ val double (rung double x) = (rung double x % 4503599627370496 + 4503599627370496) * 2 ^ (rung double x / 4503599627370496 - 1)) := by
  have hb : double.binade = 4503599627370496 := by decide
  unfold fin at hf
  rw [inf_double] at hf
  by_cases h : rung double x < 4503599627370496
  · exact .inl ⟨h, val_small (by rw [hb]; exact h)⟩
  · refine .inr ⟨by omega, by omega, ?_⟩
    unfold val
    rw [hb, if_neg h, Nat.add_comm]
def RetTk (x : Nat) (w : World) (e : Ending) (w' : World) : Prop :=
  ∃ (m : Nat) (p : Int), e = .returned (.tuple #[.int .u64 (m : Nat), .int .i64 p]) ∧ m < 9007199254740992 ∧ -1074 ≤ p ∧ p ≤ 971 ∧ m * 2 ^ (p + 1074).toNat = val double (rung double x) ∧ w = w'
theorem taken_c (x : Nat) (_ : x < 18446744073709551616) (hf : fin double x) (w : World) : Calls Tryz.prog 125 #[.float .f64 x] w (RetTk x w) := by
  have hv := taken_val hf
  rw [rung_mod] at hv
  obtain ⟨u, hu⟩ : ∃ u, x % 9223372036854775808 = u := ⟨_, rfl⟩
  have hu63 : u < 9223372036854775808 := by omega
  have hi : (x : Int) % 9223372036854775808 = (u : Int) := by omega
  rw [hu] at hv
  have HR := Lib.hid (show rung double x = u by rw [rung_mod]; exact hu)
  clear hu
  rcases hv with ⟨h1, h2⟩ | ⟨h1, h2, h3⟩
  · have HV := Lib.hid h2
    have e0 : (u : Int) / 4503599627370496 = 0 := by omega
    clear h2
    go_enter Tryz.func125, Tryz.ntmps125
    go_wp2
    go_ret2
    have e1 : (u : Int) % 4503599627370496 = u := by omega
    exact ⟨u, -1074, by show Ending.returned (.tuple #[.int .u64 ((u : Int) % 4503599627370496), .int .i64 (-1074)]) = _; rw [e1], by omega, by omega, by omega, by rw [HR.out, HV.out]; simp, rfl⟩
  · have HV := Lib.hid h3
    obtain ⟨q, hq⟩ : ∃ q, u / 4503599627370496 = q := ⟨_, rfl⟩
    obtain ⟨m, hm⟩ : ∃ m, u % 4503599627370496 = m := ⟨_, rfl⟩
    have e0 : (u : Int) / 4503599627370496 = (q : Int) := by omega
    have e1 : (u : Int) % 4503599627370496 = (m : Int) := by omega
    have hq1 : 1 ≤ q := by omega
    have hq2 : q < 2047 := by omega
    have hm1 : m < 4503599627370496 := by omega
    have b1 : ((q : Int) == 0) = false := beq_eq_false_iff_ne.2 (by omega)
    rw [hq, hm] at HV
    clear h3 h1 h2 hq hm
    go_enter Tryz.func125, Tryz.ntmps125
    go_wp2
    go_ret2
    refine ⟨m + 4503599627370496, (q : Int) - 1075, by simp, by omega, by omega, by omega, ?_, rfl⟩
    rw [HR.out, HV.out]
    congr 2; omega
theorem times_c (m n : Nat) (hm : m < 9007199254740992) (hn : n < 9007199254740992) (w : World) :
    Calls Tryz.prog 126 #[.int .u64 (m : Nat), .int .u64 (n : Nat)] w fun e w' => (∃ hi lo : Nat, e = .returned (.tuple #[.int .u64 (hi : Nat), .int .u64 (lo : Nat)]) ∧ hi * 18446744073709551616 + lo = m * n ∧ lo < 18446744073709551616 ∧ hi < 18446744073709551616) ∧ w = w' := by
  obtain ⟨A, hA⟩ : ∃ A, A = m / 4294967296 := ⟨_, rfl⟩
  obtain ⟨B, hB⟩ : ∃ B, B = m % 4294967296 := ⟨_, rfl⟩
  obtain ⟨C, hC⟩ : ∃ C, C = n / 4294967296 := ⟨_, rfl⟩
  obtain ⟨D, hD⟩ : ∃ D, D = n % 4294967296 := ⟨_, rfl⟩
  have i1 : (m : Int) / 4294967296 = (A : Int) := by omega
  have i2 : (m : Int) % 4294967296 = (B : Int) := by omega
  have i3 : (n : Int) / 4294967296 = (C : Int) := by omega
  have i4 : (n : Int) % 4294967296 = (D : Int) := by omega
  have hA2 : A ≤ 2097151 := by omega
  have hB2 : B ≤ 4294967295 := by omega
  have hC2 : C ≤ 2097151 := by omega
  have hD2 : D ≤ 4294967295 := by omega
  have b1 := Nat.mul_le_mul hB2 hD2
  have b2 := Nat.mul_le_mul hA2 hD2
  have b3 := Nat.mul_le_mul hB2 hC2
  have b4 := Nat.mul_le_mul hA2 hC2
  have hmn : m * n = A * C * 18446744073709551616 + (A * D + B * C) * 4294967296 + B * D := by
    rw [show m = A * 4294967296 + B by omega, show n = C * 4294967296 + D by omega]
    simp only [Nat.add_mul, Nat.mul_add]
    rw [show A * 4294967296 * (C * 4294967296) = A * C * 18446744073709551616 by rw [Nat.mul_mul_mul_comm], show A * 4294967296 * D = A * D * 4294967296 by rw [Nat.mul_right_comm], show B * (C * 4294967296) = B * C * 4294967296 by rw [Nat.mul_assoc]]
    omega
  obtain ⟨L, hL⟩ : ∃ L, L = B * D := ⟨_, rfl⟩
  obtain ⟨P1, hP1⟩ : ∃ P1, P1 = A * D := ⟨_, rfl⟩
  obtain ⟨P2, hP2⟩ : ∃ P2, P2 = B * C := ⟨_, rfl⟩
  obtain ⟨H0, hH0⟩ : ∃ H0, H0 = A * C := ⟨_, rfl⟩
  have w1 : IntKind.u64.wrap ((B : Int) * (D : Int)) = (L : Int) := by rw [← Int.natCast_mul, ← hL, u64_wrap]; omega
  have w2 : IntKind.u64.wrap ((A : Int) * (D : Int)) = (P1 : Int) := by rw [← Int.natCast_mul, ← hP1, u64_wrap]; omega
  have w3 : IntKind.u64.wrap ((B : Int) * (C : Int)) = (P2 : Int) := by rw [← Int.natCast_mul, ← hP2, u64_wrap]; omega
  have w4 : IntKind.u64.wrap ((A : Int) * (C : Int)) = (H0 : Int) := by rw [← Int.natCast_mul, ← hH0, u64_wrap]; omega
  rw [← hL, ← hP1, ← hP2, ← hH0] at hmn
  rw [← hL] at b1
  rw [← hP1] at b2
  rw [← hP2] at b3
  rw [← hH0] at b4
  have HM := Lib.hid hmn
  obtain ⟨M, hM⟩ : ∃ M, M = P1 + P2 := ⟨_, rfl⟩
  have w5 : IntKind.u64.wrap ((P1 : Int) + (P2 : Int)) = (M : Int) := by rw [u64_wrap]; omega
  obtain ⟨MS, hMS⟩ : ∃ MS, MS = M % 4294967296 * 4294967296 := ⟨_, rfl⟩
  have w6 : IntKind.u64.wrap ((M : Int) * 4294967296) = (MS : Int) := by rw [u64_wrap]; omega
  obtain ⟨MH, hMH⟩ : ∃ MH, MH = M / 4294967296 := ⟨_, rfl⟩
  have w7 : (M : Int) / 4294967296 = (MH : Int) := by omega
  obtain ⟨LO, hLO⟩ : ∃ LO, LO = (L + MS) % 18446744073709551616 := ⟨_, rfl⟩
  have w8 : IntKind.u64.wrap ((L : Int) + (MS : Int)) = (LO : Int) := by rw [u64_wrap]; omega
  obtain ⟨H1, hH1⟩ : ∃ H1, H1 = H0 + MH := ⟨_, rfl⟩
  have w9 : IntKind.u64.wrap ((H0 : Int) + (MH : Int)) = (H1 : Int) := by rw [u64_wrap]; omega
  have w10 : IntKind.u64.wrap ((H1 : Int) + 1) = ((H1 + 1 : Nat) : Int) := by rw [u64_wrap]; omega
  have hH1b : H1 < 18446744073709551615 := by omega
  have HB := Lib.hid hH1b
  have HLb := Lib.hid (show LO < 18446744073709551616 by omega)
  by_cases hc : LO < L
  · have hE := Lib.hid (show (H1 + 1) * 18446744073709551616 + LO = m * n by rw [HM.out]; omega)
    have hc' : (LO : Int) < (L : Int) := by omega
    clear hA hB hC hD hL hP1 hP2 hH0 hM hMS hMH hLO hH1 hA2 hB2 hC2 hD2 b1 b2 b3 b4 hH1b hmn hm hn hc HM
    go_enter Tryz.func126, Tryz.ntmps126
    go_wp2
    go_ret2
    exact ⟨⟨H1 + 1, LO, rfl, hE.out, HLb.out, by have := HB.out; omega⟩, rfl⟩
  · have hE := Lib.hid (show H1 * 18446744073709551616 + LO = m * n by rw [HM.out]; omega)
    have hc' : (L : Int) ≤ (LO : Int) := by omega
    clear hA hB hC hD hL hP1 hP2 hH0 hM hMS hMH hLO hH1 hA2 hB2 hC2 hD2 b1 b2 b3 b4 hH1b hmn hm hn hc HM
    go_enter Tryz.func126, Tryz.ntmps126
    go_wp2
    go_ret2
    exact ⟨⟨H1, LO, rfl, hE.out, HLb.out, by have := HB.out; omega⟩, rfl⟩
/-- A bit, of the place i. -/
def bitZ (a : Int) (i : Nat) : Int := a / (2 ^ i : Nat) % 2
theorem bit_limb (a : Int) (i : Nat) : limb a (i / 64) / 2 ^ (i % 64) % 2 = bitZ a i := by
  unfold limb bitZ
  obtain ⟨q, hq⟩ : ∃ q, q = i / 64 := ⟨_, rfl⟩
  obtain ⟨r, hr⟩ : ∃ r, r = i % 64 := ⟨_, rfl⟩
  have e : i = 64 * q + r := by omega
  have hr2 : r < 64 := by omega
  rw [← hq, ← hr, e, Nat.pow_add, Int.natCast_mul, ← Int.ediv_ediv_of_nonneg (Int.natCast_nonneg _)]
  generalize a / ((2 ^ (64 * q) : Nat) : Int) = z
  have h1 := Int.emod_add_mul_ediv z 18446744073709551616
  obtain ⟨t, ht⟩ : ∃ t : Nat, t + 1 + r = 64 := ⟨63 - r, by omega⟩
  have e2 : (18446744073709551616 : Int) = 2 ^ r * (2 * 2 ^ t) := by
    rw [show (2:Int) * 2 ^ t = 2 ^ (t + 1) by rw [Int.pow_succ, Int.mul_comm], ← Int.pow_add, show r + (t + 1) = 64 by omega]; decide
  have hp : (0:Int) < 2 ^ r := Int.pow_pos (by decide)
  have e3 : (((2 ^ r : Nat)) : Int) = 2 ^ r := by rw [Int.natCast_pow]; rfl
  rw [e3]
  conv => rhs; rw [← h1]
  rw [e2, Int.mul_assoc (2 ^ r), Int.add_mul_ediv_left _ _ (Int.ne_of_gt hp), Int.mul_assoc 2, Int.add_mul_emod_self_left]
theorem bit_none (a i : Int) (hi : i < 0) (w : World) : Calls Tryz.prog 124 #[.agg (lim a), .int .i64 i] w fun e w' => e = .returned (.int .u64 0) ∧ Below w.heap.size w w' := by
  have HB := Lib.hid (belowE_new w (.cells (lim a) 143))
  go_enter Tryz.func124, Tryz.ntmps124
  go_wp2
  go_ret
  exact ⟨rfl, HB.out⟩
theorem bit_c (a : Int) (i : Nat) (hi : i < 4608) (w : World) : Calls Tryz.prog 124 #[.agg (lim a), .int .i64 (i : Nat)] w fun e w' => e = .returned (.int .u64 (bitZ a i)) ∧ Below w.heap.size w w' := by
  have hrow := heap_alloc_last w (.cells (lim a) 143)
  obtain ⟨z, hz⟩ : ∃ z, z = limb a (i / 64) := ⟨_, rfl⟩
  have HE := Lib.hid (bit_limb a i)
  rw [← hz] at HE
  obtain ⟨q, hq⟩ : ∃ q, q = i / 64 := ⟨_, rfl⟩
  obtain ⟨r, hr⟩ : ∃ r, r = i % 64 := ⟨_, rfl⟩
  have c1 : (w.alloc (.cells (lim a) 143)).cell? ⟨w.heap.size, q, none⟩ = some (.int .u64 z) := by
    rw [cell_of_row _ _ q _ _ _ hrow, lim_at (by omega), hz, hq]
  have HB := Lib.hid (belowE_new w (.cells (lim a) 143))
  have h0 : 0 ≤ z := by rw [hz]; exact limb_nonneg _ _
  have h1 : z < 18446744073709551616 := by rw [hz]; exact limb_lt _ _
  have e1 : (i : Int) / 64 = (q : Int) := by omega
  have e2 : (i : Int) % 64 = (r : Int) := by omega
  have hr1 : r < 64 := by omega
  have hq1 : q < 72 := by omega
  rw [← hr] at HE
  have HZ := Lib.hid h0
  clear hz hrow hq hr
  go_enter Tryz.func124, Tryz.ntmps124
  go_wp2
  go_ret
  refine ⟨ret_int ?_, HB.out⟩
  rw [← HE.out, Int.tmod_eq_emod_of_nonneg (Int.ediv_nonneg HZ.out (Int.pow_nonneg (by decide)))]
end Go.Proofs.YtandllekeimpgaaGreat
