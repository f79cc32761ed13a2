/- float32 and float64: to and fro. -/
import Derived.Test.YtajdfbjjgjpicaaFlO
import Derived.Test.YtajdfbjjgjpicaaFlW
namespace Fl
open Ieee Go

/-- What has few digits is on a rung. -/
theorem repr (f : Format) (t : Nat) : ∀ c, c ≤ 2 * f.binade → ∃ q, val f q = c * 2 ^ t := by
  have hB := binade_pos f
  induction t with
  | zero =>
    intro c hc
    by_cases h : c < f.binade
    · exact ⟨c, by rw [val_small h]; simp⟩
    · by_cases h2 : c = 2 * f.binade
      · refine ⟨f.binade * (1 + 1) + 0, ?_⟩
        rw [val_mul_add hB, h2]; omega
      · refine ⟨f.binade * (0 + 1) + (c - f.binade), ?_⟩
        rw [val_mul_add (by omega)]; congr 1; omega
  | succ t ih =>
    intro c hc
    by_cases h : c < f.binade
    · obtain ⟨q, hq⟩ := ih (2 * c) (by omega)
      refine ⟨q, ?_⟩
      rw [hq, Nat.pow_succ, Nat.mul_comm 2, Nat.mul_assoc, Nat.mul_comm 2]
    · by_cases h2 : c = 2 * f.binade
      · refine ⟨f.binade * (t + 2 + 1) + 0, ?_⟩
        rw [val_mul_add hB, h2, Nat.pow_succ, Nat.pow_succ, Nat.add_zero]
        rw [Nat.mul_comm 2 f.binade]
        simp only [Nat.mul_assoc]
        congr 1
        omega
      · refine ⟨f.binade * (t + 1 + 1) + (c - f.binade), ?_⟩
        rw [val_mul_add (by omega)]; congr 1; omega

/-- A rung's value is of few digits. -/
theorem val_form (f : Format) (r : Nat) : ∃ c e, val f r = c * 2 ^ e ∧ c < 2 * f.binade ∧ e ≤ r / f.binade := by
  have hB := binade_pos f
  rcases rung_cases f r with h | ⟨q, m, hm, rfl⟩
  · exact ⟨r, 0, by rw [val_small h]; simp, by omega, Nat.zero_le _⟩
  · refine ⟨f.binade + m, q, val_mul_add hm, by omega, ?_⟩
    exact (Nat.le_div_iff_mul_le hB).2 (by rw [Nat.mul_comm q, Nat.mul_add]; omega)

theorem mul_pow_lt {v a b c : Nat} (h : v < 2 ^ a) (hc : a + b ≤ c) : v * 2 ^ b < 2 ^ c :=
  Nat.lt_of_lt_of_le (Nat.mul_lt_mul_of_pos_right h (Nat.two_pow_pos b)) (by rw [← Nat.pow_add]; exact Nat.pow_le_pow_right (by omega) hc)

/-- The wider word. -/
def fwide (x : Nat) : Nat := (floatToFloatBits .f32 x .f64).getD (qn .f64)
/-- The narrower word, an infinity where it is too great. -/
def fnarrow (x : Nat) : Nat := if isNaN double x then qn .f32 else single.write (double.read x)
/-- Finite, but too great for a float32. -/
def over (x : Nat) : Bool := isFin double x && !isFin single (fnarrow x)

def IsWide (x r : Nat) : Prop := cn .f64 r = fwide (cn .f32 x) ∧ r < 18446744073709551616
def IsNarrow (x r : Nat) : Prop := (over x = false → cn .f32 r = fnarrow (cn .f64 x)) ∧ r < 4294967296

theorem val_inf_single : val single single.infRung = 2 ^ 277 := by decide +kernel
theorem val_inf_double : val double double.infRung = 2 ^ 2098 := by decide +kernel

/-- A finite narrow word is widened exactly. -/
theorem fwide_fin {x : Nat} (h : fin single x) : floatToFloatBits .f32 x .f64 = some (fwide x) ∧ fin double (fwide x) ∧ sgn double (fwide x) = sgn single x ∧
    val double (rung double (fwide x)) = val single (rung single x) * 2 ^ 925 ∧ fwide x < 18446744073709551616 := by
  obtain ⟨m, e, hr, hl, hv⟩ := read_fin h
  have hlS : single.leastPlace = -149 := by decide
  have hlD : double.leastPlace = -1074 := by decide
  rw [hlS] at hl hv
  have hround := nearest_rounds ok_double (sgn single x) m e
  rw [hlD] at hround
  have e1 : (-1074 - e).toNat = 0 := by omega
  have e2 : (e - -1074).toNat = (e - -149).toNat + 925 := by omega
  rw [e1, e2, Nat.pow_add, ← Nat.mul_assoc, hv, Nat.pow_zero] at hround
  -- it is on a rung
  obtain ⟨c, t, hc, hc2, _⟩ := val_form single (rung single x)
  obtain ⟨q, hq⟩ := repr double (t + 925) c (by
    have h1 : single.binade = 8388608 := by decide
    have h2 : double.binade = 4503599627370496 := by decide
    omega)
  have hq' : val double q = val single (rung single x) * 2 ^ 925 := by
    rw [hq, hc, Nat.pow_add, Nat.mul_assoc]
  have hqlt : q < double.infRung := by
    have h1 : val single (rung single x) < val single single.infRung := val_lt h
    rw [val_inf_single] at h1
    refine (val_lt_iff (f := double)).1 ?_
    rw [val_inf_double, hq']
    have h2 := mul_pow_lt (b := 925) (c := 2098) h1 (by omega)
    exact h2
  obtain ⟨r, hr1, hr2⟩ := hround.rung
  have hrq : r = q := hr1.eq_of_exact (by omega) (by rw [hq']; omega)
  subst hrq
  have hmin : min r double.infRung = r := by omega
  rw [hmin] at hr2
  have hbits : floatToFloatBits .f32 x .f64 = some (double.nearest (sgn single x) m e) := by
    have hr' : FloatKind.decode .f32 x = .number (sgn single x) m e := hr
    have hni : (FloatKind.decode .f64 (FloatKind.encode .f64 (.number (sgn single x) m e))).isInfinity = false := by
      have hf : fin double (double.nearest (sgn single x) m e) := by unfold fin; rw [hr2]; exact hqlt
      obtain ⟨m', e', h', _⟩ := read_fin hf
      show (double.read (double.nearest (sgn single x) m e)).isInfinity = false
      rw [h']; rfl
    unfold floatToFloatBits
    rw [if_neg (by decide), hr']
    simp only [hni]
    rfl
  have hw : fwide x = double.nearest (sgn single x) m e := by unfold fwide; rw [hbits]; rfl
  rw [hw]
  refine ⟨hbits, ?_, hround.sgn, ?_, hround.lt⟩
  · unfold fin; rw [hr2]; exact hqlt
  · rw [hr2, hq']

theorem fwide_inf {x : Nat} (h : rung single x = single.infRung) : floatToFloatBits .f32 x .f64 = some (fwide x) ∧ fwide x = double.word (sgn single x) double.infRung := by
  have hr : FloatKind.decode .f32 x = .infinity (sgn single x) := read_inf ok_single h
  have hb : floatToFloatBits .f32 x .f64 = some (double.word (sgn single x) double.infRung) := by
    unfold floatToFloatBits
    rw [if_neg (by decide), hr]
    rfl
  exact ⟨by rw [fwide, hb]; rfl, by rw [fwide, hb]; rfl⟩

theorem fwide_nan {x : Nat} (h : isNaN single x = true) : floatToFloatBits .f32 x .f64 = none ∧ fwide x = qn .f64 := by
  have hr : FloatKind.decode .f32 x = .nan (sgn single x) (rung single x - single.infRung) := read_nan ok_single (by simpa [isNaN] using h)
  have hb : floatToFloatBits .f32 x .f64 = none := by
    unfold floatToFloatBits
    rw [if_neg (by decide), hr]
  exact ⟨hb, by rw [fwide, hb]; rfl⟩

theorem fwide_cn (x : Nat) : fwide (cn .f32 x) = fwide x := by
  by_cases h : isNaN single x = true
  · rw [(fwide_nan h).2, (fwide_nan (by have := isNaN_cn .f32 x; exact this.trans h)).2]
  · rw [cn_of_not (k := .f32) (Bool.eq_false_iff.2 h)]

theorem isNaN_fwide (x : Nat) : isNaN double (fwide x) = isNaN single x := by
  have i1 := infRung_lt double
  rcases kinds single x with h | h | h
  · have h1 := (fwide_fin h).2.1
    unfold fin at h h1
    simp only [isNaN]; rw [decide_eq_false (by omega), decide_eq_false (by omega)]
  · rw [(fwide_inf h).2]
    simp only [isNaN]; rw [rung_word _ i1, decide_eq_false (by omega), decide_eq_false (by omega)]
  · have h' : isNaN single x = true := by simp [isNaN, h]
    rw [(fwide_nan h').2, h']; exact isNaN_qn .f64
theorem isInf_fwide (x : Nat) : isInf double (fwide x) = isInf single x := by
  have i1 := infRung_lt double
  rcases kinds single x with h | h | h
  · have h1 := (fwide_fin h).2.1
    unfold fin at h h1
    simp only [isInf]; rw [decide_eq_false (by omega), decide_eq_false (by omega)]
  · rw [(fwide_inf h).2]
    simp only [isInf]; rw [rung_word _ i1, h]; rfl
  · have h' : isNaN single x = true := by simp [isNaN, h]
    rw [(fwide_nan h').2]
    simp only [isInf]; rw [decide_eq_false (p := rung single x = single.infRung) (by omega)]; decide
theorem cn_fwide (x : Nat) : cn .f64 (fwide x) = fwide x := by
  by_cases h : isNaN single x = true
  · rw [(fwide_nan h).2]; exact cn_of_nan (isNaN_qn .f64)
  · exact cn_of_not (by have := isNaN_fwide x; simp at h; exact this.trans h)
theorem fwide_lt (x : Nat) : fwide x < 18446744073709551616 := by
  rcases kinds single x with h | h | h
  · exact (fwide_fin h).2.2.2.2
  · rw [(fwide_inf h).2]; exact word_lt _ (infRung_lt double)
  · rw [(fwide_nan (by simp [isNaN, h])).2]; exact qn_lt .f64

section
variable {P : Program} {o : Oper} {a : Act} {K : Act → World → Prop} {Q : Exit → Act → World → Prop} {w : World}
theorem run_widen {src dst : TypeId} (hs : (P.underlying src).isSome = true) (hd : P.underlying dst = some (.float .f64)) (x : Nat) :
    ∃ r n, (convert src dst (.float .f32 x)).run P w = .ok (.float .f64 r) (w.drewN n) ∧ IsWide x r := by
  by_cases h : isNaN single x = true
  · obtain ⟨u, hs'⟩ := Option.isSome_iff_exists.1 hs
    have hr : FloatKind.decode .f32 x = .nan (sgn single x) (rung single x - single.infRung) := read_nan ok_single (by simpa [isNaN] using h)
    refine ⟨(Question.nanConv .f64 x).cut (w.tape w.drawn (.nanConv .f64 x)), 1, ?_, ?_, (nanConv_cut .f64 x _).2⟩
    · cases u <;> simp [convert, run_underlying hs', run_underlying hd, Conv.floatToFloat, hr, choose, Sem.run, Question.forced, World.drewN]
    · rw [fwide_cn, (fwide_nan h).2, cn_of_nan (nanConv_cut .f64 x _).1]
  · have hb : floatToFloatBits .f32 x .f64 = some (fwide x) := by
      rcases kinds single x with g | g | g
      · exact (fwide_fin g).1
      · exact (fwide_inf g).1
      · exact absurd (by simp [isNaN, g]) h
    exact ⟨fwide x, 0, run_convert_float_float w src dst .f32 .f64 x _ hs hd hb, by rw [fwide_cn, cn_fwide], fwide_lt x⟩
theorem upon_widen {src dst : TypeId} (hs : (P.underlying src).isSome = true) (hd : P.underlying dst = some (.float .f64)) (x : Nat)
    (h : ∀ r n, IsWide x r → K (a.put o.dst (.float .f64 r)) (w.drewN n)) :
    o.upon P a K Q (((convert src dst (.float .f32 x)).run P w).andThen fun v w' => .ok (.value v) w') := by
  obtain ⟨r, n, h1, h2⟩ := run_widen (P := P) (w := w) hs hd x
  rw [h1]
  exact h r n h2
end
end Fl
