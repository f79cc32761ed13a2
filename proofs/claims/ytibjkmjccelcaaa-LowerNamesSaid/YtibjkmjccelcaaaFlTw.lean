/- Whole numbers are reckoned exactly; powers of two go in and out of products and quotients. -/
import Derived.Test.YtibjkmjccelcaaaFlEx
import Derived.Test.YtibjkmjccelcaaaFlSz
namespace Fl
open Ieee Go
/-- x is z times 2^k, in units of the least. -/
def Ex (x : Nat) (z : Int) (k : Nat) : Prop := x < 18446744073709551616 ∧ fin double x ∧ sval double x = z * (2 ^ k : Nat)
theorem ex_round {c k D r : Nat} (hD : 0 < D) (hc : c < 9007199254740992) (hk : k ≤ 2045) (h : Rne double (c * 2 ^ k * D) D r) : r < double.infRung ∧ val double r = c * 2 ^ k := by
  obtain ⟨s, hs⟩ := repr double k c (by rw [binade64]; omega)
  have e : r = s := h.eq_of_exact hD (by rw [hs])
  subst e
  refine ⟨(val_lt_iff (f := double)).1 ?_, hs⟩
  obtain ⟨M, hM, e⟩ := val_inf_ex
  rw [hs, e]
  have h1 : c * 2 ^ k < 2 ^ 53 * 2 ^ k := Nat.mul_lt_mul_of_pos_right (by omega) (Nat.two_pow_pos _)
  rw [← Nat.pow_add] at h1
  exact Nat.lt_of_lt_of_le h1 (Nat.pow_le_pow_right (by omega) (by omega))
theorem ex_of {x r k : Nat} {s : Bool} {z : Int} (hx : x = double.word s (min r double.infRung)) (hr : r < double.infRung) (hv : val double r = z.natAbs * 2 ^ k) (hs : z ≠ 0 → s = decide (z < 0)) : Ex x z k := by
  have hl := infRung_lt double
  have e : min r double.infRung = r := by omega
  rw [e] at hx
  refine ⟨by rw [hx]; exact word_lt (f := double) s (by omega), by rw [hx]; exact fin_word s hr, ?_⟩
  rw [hx, sval_word s (Nat.le_of_lt hr), hv]
  by_cases hz : z = 0
  · subst hz; cases s <;> simp
  · rw [hs hz]
    by_cases hn : z < 0
    · have e2 : (z.natAbs : Int) = -z := by omega
      rw [decide_eq_true hn, if_pos rfl, Int.natCast_mul, e2, Int.neg_mul, Int.neg_neg]
    · have e2 : (z.natAbs : Int) = z := by omega
      rw [decide_eq_false hn, if_neg (by simp), Int.natCast_mul, e2]
theorem two_pos (k : Nat) : (0 : Int) < ((2 ^ k : Nat) : Int) := by have := Nat.two_pow_pos k; omega
theorem mul_two_lt {z : Int} {k : Nat} : z * (2 ^ k : Nat) < 0 ↔ z < 0 := by
  have hp := two_pos k
  constructor
  · intro h
    rcases Int.lt_or_le z 0 with h1 | h1
    · exact h1
    · have := Int.mul_nonneg h1 (Int.le_of_lt hp); omega
  · intro h; exact Int.mul_neg_of_neg_of_pos h hp
theorem mul_two_eq {z : Int} {k : Nat} : z * (2 ^ k : Nat) = 0 ↔ z = 0 := by
  have hp := two_pos k
  constructor
  · intro h; rcases Int.mul_eq_zero.1 h with h1 | h1
    · exact h1
    · omega
  · intro h; rw [h]; simp
theorem Ex.add {x y k : Nat} {a b : Int} (hx : Ex x a k) (hy : Ex y b k) (hb : (a + b).natAbs < 9007199254740992) (hk : k ≤ 2045) : Ex (fadd x y) (a + b) k := by
  obtain ⟨r, s, h1, h2, h3⟩ := add_sval hx.2.1 hy.2.1
  have e : sval double x + sval double y = (a + b) * (2 ^ k : Nat) := by rw [hx.2.2, hy.2.2, Int.add_mul]
  rw [e] at h2 h3
  have e2 : ((a + b) * (2 ^ k : Nat)).natAbs = (a + b).natAbs * 2 ^ k * 1 := by rw [Int.natAbs_mul, Nat.mul_one]; rfl
  rw [e2] at h2
  have h4 := ex_round Nat.one_pos hb hk h2
  refine ex_of h1 h4.1 h4.2 (fun hz => ?_)
  rw [h3 (fun h => hz (mul_two_eq.1 h)), decide_eq_decide]
  exact mul_two_lt
theorem Ex.neg {x k : Nat} {a : Int} (hx : Ex x a k) : Ex (fneg x) (-a) k := by
  have nx : isNaN double x = false := by have := hx.2.1; unfold fin at this; unfold isNaN; simp; omega
  refine ⟨fneg_lt hx.1, by have := hx.2.1; unfold fin at *; rw [rung_fneg hx.1 nx]; exact this, ?_⟩
  rw [sval_fneg hx.1 hx.2.1, hx.2.2, Int.neg_mul]
theorem Ex.sub {x y k : Nat} {a b : Int} (hx : Ex x a k) (hy : Ex y b k) (hb : (a - b).natAbs < 9007199254740992) (hk : k ≤ 2045) : Ex (fsub x y) (a - b) k := by
  rw [fsub_eq x hy.1]
  have h := hx.add hy.neg (by rw [← Int.sub_eq_add_neg]; exact hb) hk
  rw [← Int.sub_eq_add_neg] at h; exact h
theorem sgn_of_ex {x k : Nat} {a : Int} (hx : Ex x a k) (h0 : a ≠ 0) : Fl.sgn double x = decide (a < 0) := by
  rw [sgn_of_sval (by rw [hx.2.2]; exact fun h => h0 (mul_two_eq.1 h)), hx.2.2, decide_eq_decide]
  exact mul_two_lt
theorem xor_lt {a b : Int} (ha : a ≠ 0) (hb : b ≠ 0) : (decide (a < 0) ^^ decide (b < 0)) = decide (a * b < 0) := by
  rcases Int.lt_or_le a 0 with h1 | h1 <;> rcases Int.lt_or_le b 0 with h2 | h2
  · have := Int.mul_pos_of_neg_of_neg h1 h2
    rw [decide_eq_true h1, decide_eq_true h2, decide_eq_false (by omega)]; rfl
  · have := Int.mul_neg_of_neg_of_pos h1 (show 0 < b by omega)
    rw [decide_eq_true h1, decide_eq_false (by omega), decide_eq_true this]; rfl
  · have := Int.mul_neg_of_pos_of_neg (show 0 < a by omega) h2
    rw [decide_eq_false (by omega), decide_eq_true h2, decide_eq_true this]; rfl
  · have := Int.mul_pos (show 0 < a by omega) (show 0 < b by omega)
    rw [decide_eq_false (by omega), decide_eq_false (by omega), decide_eq_false (by omega)]; rfl
theorem Ex.mul {x y k m n : Nat} {a b : Int} (hx : Ex x a k) (hy : Ex y b m) (hn : n + 1074 = k + m) (hb : (a * b).natAbs < 9007199254740992) (hk : n ≤ 2045) : Ex (fmul x y) (a * b) n := by
  obtain ⟨r, h1, h2⟩ := mul_sval hx.2.1 hy.2.1
  obtain ⟨K, hK, eU⟩ := one_pow
  rw [← hK] at hn
  have e : (sval double x).natAbs * (sval double y).natAbs = (a * b).natAbs * 2 ^ n * one_ double := by
    rw [hx.2.2, hy.2.2, Int.natAbs_mul, Int.natAbs_mul, Int.natAbs_mul, eU, Nat.mul_assoc _ (2 ^ n), ← Nat.pow_add, hn, Nat.pow_add]
    exact Nat.mul_mul_mul_comm _ _ _ _
  rw [e] at h2
  have h4 := ex_round (one_pos double) hb hk h2
  refine ex_of h1 h4.1 h4.2 (fun hz => ?_)
  have ha : a ≠ 0 := fun h => hz (by rw [h]; simp)
  have hb' : b ≠ 0 := fun h => hz (by rw [h]; simp)
  rw [sgn_of_ex hx ha, sgn_of_ex hy hb', xor_lt ha hb']
/-- A quotient by one, or by minus one. -/
theorem Ex.div {x y k : Nat} {a u : Int} (hx : Ex x a k) (hy : Ex y u 1074) (hu : u = 1 ∨ u = -1) (hb : a.natAbs < 9007199254740992) (hk : k ≤ 2045) : Ex (fdiv x y) (a * u) k := by
  obtain ⟨K, hK, eU⟩ := one_pow
  have hy' : Ex y u K := by rw [hK]; exact hy
  have hu0 : u ≠ 0 := by omega
  obtain ⟨r, h1, h2⟩ := div_sval hx.2.1 hy.2.1 (by rw [hy'.2.2]; exact fun h => hu0 (mul_two_eq.1 h))
  have e1 : (sval double y).natAbs = one_ double := by
    rw [hy'.2.2, Int.natAbs_mul, eU]
    have : u.natAbs = 1 := by omega
    rw [this, Nat.one_mul]; rfl
  have e : (sval double x).natAbs = (a * u).natAbs * 2 ^ k := by
    rw [hx.2.2, Int.natAbs_mul, Int.natAbs_mul]
    have : u.natAbs = 1 := by omega
    rw [this, Nat.mul_one]; rfl
  rw [e1, e] at h2
  have h4 := ex_round (one_pos double) (by rw [Int.natAbs_mul]; have : u.natAbs = 1 := by omega
                                           rw [this, Nat.mul_one]; exact hb) hk h2
  refine ex_of h1 h4.1 h4.2 (fun hz => ?_)
  have ha : a ≠ 0 := fun h => hz (by rw [h]; simp)
  rw [sgn_of_ex hx ha, sgn_of_ex hy' hu0, xor_lt ha hu0]
theorem Ex.feq {x y k : Nat} {a : Int} (hx : Ex x a k) (hy : Ex y a k) : feq .f64 x y = true := feq_of_sval hx.2.1 hy.2.1 (by rw [hx.2.2, hy.2.2])
theorem Ex.nan {x k : Nat} {a : Int} (hx : Ex x a k) : isNaN double x = false := by have := hx.2.1; unfold fin at this; unfold isNaN; simp; omega
theorem Ex.cn {x k : Nat} {a : Int} (hx : Ex x a k) : Fl.cn .f64 x = x := cn_of_not (k := .f64) hx.nan
theorem Ex.bd {x k n : Nat} {a : Int} (hx : Ex x a k) (hn : a.natAbs ≤ 2 ^ n) : Bd x k (k + n) := by
  have e : (sval double x).natAbs = a.natAbs * 2 ^ k := by rw [hx.2.2, Int.natAbs_mul]; rfl
  refine ⟨hx.2.1, ?_, ?_⟩
  · by_cases h : a = 0
    · left; rw [hx.2.2, h]; simp
    · right; rw [e]; exact Nat.le_mul_of_pos_left _ (by omega)
  · rw [e, Nat.pow_add, Nat.mul_comm (2 ^ k)]; exact Nat.mul_le_mul_right _ hn
theorem Ex.sc {x y k i : Nat} {a : Int} (hx : Ex x a k) (hy : Ex y a (k + i)) : Sc i x y := by
  refine ⟨hx.2.1, hy.2.1, ?_⟩
  rw [hx.2.2, hy.2.2, Nat.pow_add, Int.natCast_mul, Int.mul_assoc]
/-- The float of a whole number. -/
theorem ex_nearest {z : Int} (h : z.natAbs < 9007199254740992) : Ex (FloatKind.f64.nearest z) z 1074 := by
  obtain ⟨r, h1, h2⟩ := nearest_rounds ok_double (decide (z < 0)) z.natAbs 0
  obtain ⟨K, hK, eU⟩ := one_pow
  rw [least64] at h1
  have e1 : ((0 : Int) - -1074).toNat = K := by omega
  have e2 : ((-1074 : Int) - 0).toNat = 0 := by omega
  rw [e1, e2, Nat.pow_zero] at h1
  have h3 := ex_round (c := z.natAbs) (k := K) Nat.one_pos h (by omega) (by rw [Nat.mul_one]; exact h1)
  have h4 : Ex (FloatKind.f64.nearest z) z K := ex_of h2 h3.1 h3.2 (fun _ => rfl)
  rw [hK] at h4; exact h4
/-- Two to a power, above the subnormals. -/
theorem ex_two {n : Nat} (h : n ≤ 2045) : Ex (double.binade * (n + 1)) 1 (n + 52) := by
  have hv : val double (double.binade * (n + 1)) = 2 ^ (n + 52) := by
    have := val_mul_add (f := double) (q := n) (m := 0) (by rw [binade64]; omega)
    rw [Nat.add_zero, Nat.add_zero] at this
    rw [this, Nat.add_comm n 52, Nat.pow_add]; congr 1
  have hi : double.binade * (n + 1) < double.infRung := by
    rw [binade64, infRung64]; omega
  have hw := wordF (Nat.le_of_lt hi)
  refine ex_of (r := double.binade * (n + 1)) (s := false) ?_ hi (by rw [hv]; simp) (fun _ => by decide)
  have e : min (double.binade * (n + 1)) double.infRung = double.binade * (n + 1) := by omega
  rw [e, hw]
/-! ### A power of two goes in and out of a quotient -/
theorem Bd.add_nz {x y a b c d l h : Nat} (hx : Bd x a b) (hy : Bd y c d) (hl1 : l + 52 ≤ a) (hl2 : l + 52 ≤ c) (hh1 : b + 1 ≤ h) (hh2 : d + 1 ≤ h) (hh' : h ≤ 2097) (hlh : l ≤ 2097)
    (hz : sval double x + sval double y ≠ 0) : sval double (fadd x y) ≠ 0 := by
  obtain ⟨r, s, h1, h2, _⟩ := add_sval hx.1 hy.1
  have f1 : fin double (fadd x y) := (Bd.add hx hy hl1 hl2 hh1 hh2 hh' hlh).1
  have hr := fin_of_eq h1 f1
  have hn := natAbs_word (s := s) hr
  rw [← h1] at hn
  intro e
  rw [e] at hn
  have hd : ((2 ^ l : Nat) : Int) ∣ sval double x + sval double y := Int.dvd_add (hx.dvd hl1) (hy.dvd hl2)
  have h3 := Nat.le_of_dvd (by omega) (Int.ofNat_dvd_left.1 hd)
  have h4 := rne_lo Nat.one_pos h2 hlh (by rw [Nat.mul_one]; exact h3)
  have := Nat.two_pow_pos l
  simp at hn; omega
theorem sgn_of_mul {x y : Nat} (hx : fin double x) (hy : fin double y) : Fl.sgn double (fmul x y) = (Fl.sgn double x ^^ Fl.sgn double y) := by
  have hl := infRung_lt double
  obtain ⟨r, h1, _⟩ := mul_sval hx hy
  rw [h1, sgn_word _ (by omega)]
theorem sgn_of_div {x y : Nat} (hx : fin double x) (hy : fin double y) (h0 : sval double y ≠ 0) : Fl.sgn double (fdiv x y) = (Fl.sgn double x ^^ Fl.sgn double y) := by
  have hl := infRung_lt double
  obtain ⟨r, h1, _⟩ := div_sval hx hy h0
  rw [h1, sgn_word _ (by omega)]
/-- Of two numbers of one sign, of which the one is not nought, the sum is not. -/
theorem same_sgn_sum {x y : Nat} (h : Fl.sgn double x = Fl.sgn double y) (h0 : sval double x ≠ 0) : sval double x + sval double y ≠ 0 := by
  unfold sval at *
  rw [← h]
  cases Fl.sgn double x <;> simp at * <;> omega
/-- The ratio of two bounds, and what the quotient is divided by. -/
theorem ratio_bd {b c : Nat} (hb : Bd b 1074 1089) (hc : Bd c 1074 1089) (h0 : sval double b ≠ 0) :
    Bd (fdiv c b) 1059 1089 ∧ Bd (fadd b (fmul c (fdiv c b))) 1007 1105 ∧ sval double (fadd b (fmul c (fdiv c b))) ≠ 0 := by
  have h1 : Bd (fdiv c b) 1059 1089 := hc.div hb h0 (by omega) (by omega) (by omega) (by omega)
  have h2 : Bd (fmul c (fdiv c b)) 1059 1104 := hc.mul h1 (by omega) (by omega) (by omega) (by omega)
  have hs : Fl.sgn double b = Fl.sgn double (fmul c (fdiv c b)) := by
    rw [sgn_of_mul hc.1 h1.1, sgn_of_div hc.1 hb.1 h0]
    cases Fl.sgn double c <;> cases Fl.sgn double b <;> rfl
  exact ⟨h1, hb.add h2 (by omega) (by omega) (by omega) (by omega) (by omega) (by omega), hb.add_nz h2 (l := 1007) (h := 1105) (by omega) (by omega) (by omega) (by omega) (by omega) (by omega) (same_sgn_sum hs h0)⟩
/-- One part of a quotient. -/
theorem part_sc {i x y u v r t : Nat} (h : Sc i x y) (h' : Sc i u v) (hi : i ≤ 128) (bx : Bd x 946 1216) (bu : Bd u 946 1216) (br : Bd r 1059 1089) (bt : Bd t 1007 1105) (ht : sval double t ≠ 0) :
    Sc i (fdiv (fadd x (fmul u r)) t) (fdiv (fadd y (fmul v r)) t) ∧ Bd (fdiv (fadd x (fmul u r)) t) 848 1299 := by
  have b1 : Bd (fmul u r) 931 1231 := bu.mul br (by omega) (by omega) (by omega) (by omega)
  have b2 : Bd (fadd x (fmul u r)) 879 1232 := bx.add b1 (by omega) (by omega) (by omega) (by omega) (by omega) (by omega)
  have s1 : Sc i (fmul u r) (fmul v r) := h'.mul bu br (by omega) (by omega) (by omega) (by omega)
  have s2 : Sc i (fadd x (fmul u r)) (fadd y (fmul v r)) := h.add s1 bx b1 (l := 879) (k := 1231) (by omega) (by omega) (by omega) (by omega) (by omega) (by omega) (by omega)
  exact ⟨s2.div b2 bt ht (by omega) (by omega) (by omega) (by omega), b2.div bt ht (by omega) (by omega) (by omega) (by omega)⟩
theorem part_sc_neg {i x y u v r t : Nat} (h : Sc i x y) (h' : Sc i u v) (hi : i ≤ 128) (bx : Bd x 946 1216) (bu : Bd u 946 1216) (br : Bd r 1059 1089) (bt : Bd t 1007 1105) (ht : sval double t ≠ 0) :
    Sc i (fdiv (fsub x (fmul u r)) t) (fdiv (fsub y (fmul v r)) t) ∧ Bd (fdiv (fsub x (fmul u r)) t) 848 1299 := by
  have b1 : Bd (fmul u r) 931 1231 := bu.mul br (by omega) (by omega) (by omega) (by omega)
  have b1n := b1.neg (fmul_lt _ _)
  have b2 : Bd (fadd x (fneg (fmul u r))) 879 1232 := bx.add b1n (by omega) (by omega) (by omega) (by omega) (by omega) (by omega)
  have s1 : Sc i (fmul u r) (fmul v r) := h'.mul bu br (by omega) (by omega) (by omega) (by omega)
  have s1n := s1.neg (fmul_lt _ _) (fmul_lt _ _)
  have s2 : Sc i (fadd x (fneg (fmul u r))) (fadd y (fneg (fmul v r))) := h.add s1n bx b1n (l := 879) (k := 1231) (by omega) (by omega) (by omega) (by omega) (by omega) (by omega) (by omega)
  rw [fsub_eq x (fmul_lt _ _), fsub_eq y (fmul_lt _ _)]
  exact ⟨s2.div b2 bt ht (by omega) (by omega) (by omega) (by omega), b2.div bt ht (by omega) (by omega) (by omega) (by omega)⟩
/-- Less the product's other side. -/
theorem part_sc_rev {i x y u v r t : Nat} (h : Sc i x y) (h' : Sc i u v) (hi : i ≤ 128) (bx : Bd x 946 1216) (bu : Bd u 946 1216) (hlx : x < 18446744073709551616) (hly : y < 18446744073709551616) (br : Bd r 1059 1089) (bt : Bd t 1007 1105) (ht : sval double t ≠ 0) :
    Sc i (fdiv (fsub (fmul u r) x) t) (fdiv (fsub (fmul v r) y) t) ∧ Bd (fdiv (fsub (fmul u r) x) t) 848 1299 := by
  have b1 : Bd (fmul u r) 931 1231 := bu.mul br (by omega) (by omega) (by omega) (by omega)
  have bxn := bx.neg hlx
  have b2 : Bd (fadd (fmul u r) (fneg x)) 879 1232 := b1.add bxn (by omega) (by omega) (by omega) (by omega) (by omega) (by omega)
  have s1 : Sc i (fmul u r) (fmul v r) := h'.mul bu br (by omega) (by omega) (by omega) (by omega)
  have sxn := h.neg hlx hly
  have s2 : Sc i (fadd (fmul u r) (fneg x)) (fadd (fmul v r) (fneg y)) := s1.add sxn b1 bxn (l := 879) (k := 1231) (by omega) (by omega) (by omega) (by omega) (by omega) (by omega) (by omega)
  rw [fsub_eq (fmul u r) hlx, fsub_eq (fmul v r) hly]
  exact ⟨s2.div b2 bt ht (by omega) (by omega) (by omega) (by omega), b2.div bt ht (by omega) (by omega) (by omega) (by omega)⟩
theorem fle_of_zero {b c : Nat} (hb : fin double b) (hc : fin double c) (h0 : sval double b = 0) (h : fle .f64 (fabs c) (fabs b) = true) : sval double c = 0 := by
  have nb : isNaN double b = false := by unfold fin at hb; unfold isNaN; simp; omega
  have nc : isNaN double c = false := by unfold fin at hc; unfold isNaN; simp; omega
  have ib : isInf double b = false := by unfold fin at hb; unfold isInf; simp; omega
  have ic : isInf double c = false := by unfold fin at hc; unfold isInf; simp; omega
  have eb := fabs_fin ib nb
  have ec := fabs_fin ic nc
  rw [eb.1, ec.1, fle_rungs (Nat.le_of_lt ec.2) (Nat.le_of_lt eb.2), zero_rung.1 h0] at h
  have h1 : rung double c = 0 := by simpa using h
  exact zero_rung.2 h1
theorem fle_total {b c : Nat} (hb : fin double b) (hc : fin double c) (h : fle .f64 (fabs c) (fabs b) = false) : sval double c ≠ 0 := by
  intro h0
  have nb : isNaN double b = false := by unfold fin at hb; unfold isNaN; simp; omega
  have nc : isNaN double c = false := by unfold fin at hc; unfold isNaN; simp; omega
  have ib : isInf double b = false := by unfold fin at hb; unfold isInf; simp; omega
  have ic : isInf double c = false := by unfold fin at hc; unfold isInf; simp; omega
  have eb := fabs_fin ib nb
  have ec := fabs_fin ic nc
  rw [eb.1, ec.1, fle_rungs (Nat.le_of_lt ec.2) (Nat.le_of_lt eb.2), zero_rung.1 h0] at h
  simp at h
theorem div_sc {i : Nat} {x y b : C} (h1 : Sc i x.1 y.1) (h2 : Sc i x.2 y.2) (hi : i ≤ 128) (b1 : Bd x.1 946 1216) (b2 : Bd x.2 946 1216) (lx : ltC x) (ly : ltC y)
    (c1 : Bd b.1 1074 1089) (c2 : Bd b.2 1074 1089) (h0 : sval double b.1 ≠ 0 ∨ sval double b.2 ≠ 0) :
    (Sc i (pDiv x b).1 (pDiv y b).1 ∧ Bd (pDiv x b).1 848 1299) ∧ (Sc i (pDiv x b).2 (pDiv y b).2 ∧ Bd (pDiv x b).2 848 1299) := by
  unfold pDiv
  by_cases hf : fle .f64 (fabs b.2) (fabs b.1) = true
  · rw [if_pos hf, if_pos hf]
    have hn : sval double b.1 ≠ 0 := by
      intro e
      rcases h0 with h | h
      · exact h e
      · exact h (fle_of_zero c1.1 c2.1 e hf)
    obtain ⟨br, bt, ht⟩ := ratio_bd c1 c2 hn
    exact ⟨part_sc h1 h2 hi b1 b2 br bt ht, part_sc_neg h2 h1 hi b2 b1 br bt ht⟩
  · rw [if_neg hf, if_neg hf]
    have hn : sval double b.2 ≠ 0 := fle_total c1.1 c2.1 (Bool.eq_false_iff.2 hf)
    obtain ⟨br, bt, ht⟩ := ratio_bd c2 c1 hn
    rw [fadd_comm] at bt ht
    dsimp only
    rw [fadd_comm (fmul x.1 _), fadd_comm (fmul y.1 _)]
    exact ⟨part_sc h2 h1 hi b2 b1 br bt ht, part_sc_rev h1 h2 hi b1 b2 lx.1 ly.1 br bt ht⟩
/-- A power of two times a number. -/
theorem two_mul_up {x T i a b : Nat} (hT : Ex T 1 (1074 + i)) (bx : Bd x a b) (ha : 54 ≤ a) (hh : b + i ≤ 2097) : Sc i x (fmul T x) := by
  obtain ⟨K, hK, eU⟩ := one_pow
  rw [← hK] at hT
  obtain ⟨r, h1, h2⟩ := mul_sval hT.2.1 bx.1
  have e : (sval double T).natAbs = 2 ^ K * 2 ^ i := by rw [hT.2.2, Int.one_mul, ← Nat.pow_add]; rfl
  rw [e, Nat.mul_assoc, Nat.mul_comm, ← eU, Nat.mul_comm (2 ^ i)] at h2
  rcases bx.2.1 with h0 | h0
  · rw [h0] at h2; simp at h2
    have hr := rne_zero (one_pos double) h2
    subst hr
    refine ⟨bx.1, by rw [h1]; exact fin_word _ (by rw [infRung64]; decide), ?_⟩
    have : min 0 double.infRung = 0 := by omega
    rw [h1, this, sval_word _ (Nat.zero_le _), val_zero, h0]; simp
  · rw [abs_sval] at h0 h2
    have hbig := binade_of_lo ha h0
    have hv := val_shift (r := rung double x) i (Nat.le_of_lt hbig)
    rw [← hv] at h2
    have hr : r = rung double x + i * double.binade := h2.eq_of_exact (one_pos double) rfl
    have hi : r < double.infRung := by
      refine (val_lt_iff (f := double)).1 ?_
      obtain ⟨M, hM, eM⟩ := val_inf_ex
      rw [hr, hv, eM, ← abs_sval]
      have h3 : (sval double x).natAbs * 2 ^ i ≤ 2 ^ b * 2 ^ i := Nat.mul_le_mul_right _ bx.2.2
      rw [← Nat.pow_add] at h3
      exact Nat.lt_of_le_of_lt h3 (Nat.pow_lt_pow_right (by omega) (by omega))
    have em : min r double.infRung = r := by omega
    have hs : Fl.sgn double T = false := by rw [sgn_of_ex hT (by omega)]; rfl
    rw [em, hs, Bool.false_xor] at h1
    refine ⟨bx.1, by rw [h1]; exact fin_word _ hi, ?_⟩
    rw [h1, sval_word _ (Nat.le_of_lt hi), hr, hv]
    unfold sval
    cases Fl.sgn double x <;> simp [Int.neg_mul]
theorem two_mul_down {x T i a b : Nat} (hT : Ex T 1 (1074 - i)) (hi : i ≤ 1000) (bx : Bd x a b) (ha : 54 + i ≤ a) : Sc i (fmul T x) x := by
  obtain ⟨K, hK, eU⟩ := one_pow
  rw [← hK] at hT
  obtain ⟨r, h1, h2⟩ := mul_sval hT.2.1 bx.1
  have e : (sval double T).natAbs = 2 ^ (K - i) := by rw [hT.2.2, Int.one_mul]; rfl
  rw [e] at h2
  rcases bx.2.1 with h0 | h0
  · rw [h0] at h2; simp at h2
    have hr := rne_zero (one_pos double) h2
    subst hr
    have : min 0 double.infRung = 0 := by omega
    refine ⟨by rw [h1]; exact fin_word _ (by rw [infRung64]; decide), bx.1, ?_⟩
    rw [h1, this, sval_word _ (Nat.zero_le _), val_zero, h0]; simp
  · rw [abs_sval] at h0 h2
    -- the rung so many binades below
    have hbx : double.binade * (i + 1) < rung double x := by
      refine (val_lt_iff (f := double)).1 (Nat.lt_of_lt_of_le ?_ h0)
      have hv := val_mul_add (f := double) (q := i) (m := 0) (by rw [binade64]; omega)
      rw [Nat.add_zero, Nat.add_zero] at hv
      rw [hv, binade64]
      have h3 : 4503599627370496 * 2 ^ i < 2 ^ 53 * 2 ^ i := Nat.mul_lt_mul_of_pos_right (by omega) (Nat.two_pow_pos _)
      rw [← Nat.pow_add] at h3
      exact Nat.lt_of_lt_of_le h3 (Nat.pow_le_pow_right (by omega) (by omega))
    have em1 : double.binade * (i + 1) = i * double.binade + double.binade := by rw [Nat.mul_add, Nat.mul_one, Nat.mul_comm]
    obtain ⟨p, hp⟩ : ∃ p, rung double x = p + i * double.binade := ⟨rung double x - i * double.binade, by omega⟩
    have hpb : double.binade ≤ p := by omega
    have hv := val_shift (r := p) i hpb
    rw [hp, hv] at h2
    have hN : 2 ^ (K - i) * (val double p * 2 ^ i) = val double p * one_ double := by
      have hki : K - i + i = K := by omega
      rw [eU, Nat.mul_left_comm, ← Nat.pow_add, hki]
    rw [hN] at h2
    have hr : r = p := h2.eq_of_exact (one_pos double) rfl
    subst hr
    have hif : r < double.infRung := by have := bx.1; unfold fin at this; omega
    have em : min r double.infRung = r := by omega
    have hs : Fl.sgn double T = false := by rw [sgn_of_ex hT (by omega)]; rfl
    rw [em, hs, Bool.false_xor] at h1
    refine ⟨by rw [h1]; exact fin_word _ hif, bx.1, ?_⟩
    rw [h1, sval_word _ (Nat.le_of_lt hif)]
    have e3 : sval double x = if Fl.sgn double x then -(val double (rung double x) : Int) else (val double (rung double x) : Int) := rfl
    rw [e3, hp, hv]
    cases Fl.sgn double x <;> simp [Int.neg_mul]
theorem sc_eq {i x y z : Nat} (h : Sc i x y) (h' : Sc i x z) : feq .f64 y z = true := feq_of_sval h.2.1 h'.2.1 (by rw [h.2.2, h'.2.2])
theorem sc_eq' {i x y z : Nat} (h : Sc i y x) (h' : Sc i z x) : feq .f64 y z = true := by
  refine feq_of_sval h.1 h'.1 ?_
  have hp := two_pos i
  have e : sval double y * (2 ^ i : Nat) = sval double z * (2 ^ i : Nat) := by rw [← h.2.2, ← h'.2.2]
  exact Int.eq_of_mul_eq_mul_right (by omega) e
end Fl
