/- The signs of what the operations give. -/
import Derived.Test.YtajdfbjjgjpicaaFlN
namespace Fl
open Ieee Go

theorem neg_read (f : Format) (x : Nat) : (f.read x).neg = sgn f x := by
  rw [read_eq]; split
  · rfl
  · split
    · rfl
    · split <;> rfl
theorem sgn_write {f : Format} (ok : Ok f) (d : Datum) : sgn f (f.write d) = d.neg := by
  cases d with
  | number s m e => exact (nearest_rounds ok s m e).sgn
  | infinity s => exact sgn_word s (infRung_lt f)
  | nan s t =>
    refine sgn_word s ?_
    have h : t % f.binade < f.binade := Nat.mod_lt _ (binade_pos f)
    have := infRung_add f
    omega
theorem product_neg {a b d : Datum} (h : a.product b = some d) : d.neg = (a.neg ^^ b.neg) := by
  cases a <;> cases b <;> simp [Datum.product] at h
  · subst h; rfl
  · obtain ⟨_, rfl⟩ := h; simp [Datum.neg, Bool.xor_comm]
  · obtain ⟨_, rfl⟩ := h; rfl
  · subst h; rfl
theorem quotient_neg {g : Nat} {a b d : Datum} (h : Datum.quotient g a b = some d) : d.neg = (a.neg ^^ b.neg) := by
  cases a with
  | nan => simp [quotient_nan_l] at h
  | infinity s =>
    cases b with
    | nan => simp [quotient_nan_r] at h
    | infinity t => simp [Datum.quotient] at h
    | number t n j => simp [Datum.quotient] at h; subst h; rfl
  | number s m i =>
    cases b with
    | nan => simp [quotient_nan_r] at h
    | infinity t => simp [Datum.quotient] at h; subst h; rfl
    | number t n j =>
      simp only [Datum.quotient] at h
      split at h
      · split at h
        · cases h
        · cases h; rfl
      · cases h; rfl
theorem root_neg {g : Nat} {a d : Datum} (h : Datum.root g a = some d) : d.neg = a.neg ∨ d.neg = false := by
  cases a with
  | nan => simp [Datum.root] at h
  | infinity s => simp [Datum.root] at h; obtain ⟨_, rfl⟩ := h; exact .inl rfl
  | number s m i =>
    simp only [Datum.root] at h
    split at h
    · cases h; exact .inl rfl
    · split at h
      · cases h
      · cases h; exact .inr rfl
theorem sum_neg {a b d : Datum} (h : a.sum b = some d) (ha : a.neg = false) (hb : b.neg = false) : d.neg = false := by
  cases a <;> cases b <;> simp [Datum.sum] at h
  · rename_i s m i t n j
    simp only [Datum.neg] at ha hb
    subst ha; subst hb
    subst h
    simp only [Datum.neg, signed, Bool.false_eq_true, if_false]
    split
    · rfl
    · simp only [decide_eq_false_iff_not]
      exact Int.not_lt.2 (Int.add_nonneg (Int.natCast_nonneg _) (Int.natCast_nonneg _))
  · subst h; exact hb
  · subst h; exact ha
  · obtain ⟨_, rfl⟩ := h; exact ha

/-- Not a NaN: then its sign is not set. -/
def pos (x : Nat) : Prop := isNaN double x = false → sgn double x = false
theorem pos_qn : pos (qn .f64) := fun h => by rw [qn_nan] at h; cases h
theorem pos_rung (x : Nat) : pos (rung double x) := fun _ => sgn_rung double x
theorem pos_cn {x : Nat} (h : pos x) : pos (cn .f64 x) := by
  by_cases hn : isNaN double x = true
  · rw [cn_of_nan (k := .f64) hn]; exact pos_qn
  · rw [cn_of_not (k := .f64) (Bool.eq_false_iff.2 hn)]; exact h
theorem pos_fabs (x : Nat) : pos (fabs x) := by
  unfold fabs; split
  · exact pos_qn
  · exact pos_rung x
theorem sgn_fop {op : BinOp} (h2 : op = .mul ∨ op = .quo) {x y : Nat} (h : isNaN double (fop op .f64 x y) = false) : sgn double (fop op .f64 x y) = (sgn double x ^^ sgn double y) := by
  unfold fop at h ⊢
  cases hb : floatBits op .f64 x y with
  | none => rw [hb] at h; exact absurd (qn_nan.symm.trans h) (by simp)
  | some r =>
    show sgn double r = _
    rcases h2 with rfl | rfl
    · obtain ⟨d, hd, rfl⟩ := Option.map_eq_some_iff.1 (show ((double.read x).product (double.read y)).map double.write = some r from hb)
      rw [sgn_write ok_double, product_neg hd, neg_read, neg_read]
    · obtain ⟨d, hd, rfl⟩ := Option.map_eq_some_iff.1 (show (Datum.quotient 54 (double.read x) (double.read y)).map double.write = some r from hb)
      rw [sgn_write ok_double, quotient_neg hd, neg_read, neg_read]
/-- An operand that is a NaN makes a NaN. -/
theorem not_nan_of_fop {op : BinOp} {x y : Nat} (h : isNaN double (fop op .f64 x y) = false) : isNaN double x = false ∧ isNaN double y = false := by
  constructor
  · cases hx : isNaN double x
    · rfl
    · rw [fop_nan_l (k := .f64) hx, qn_nan] at h; cases h
  · cases hy : isNaN double y
    · rfl
    · rw [fop_nan_r (k := .f64) hy, qn_nan] at h; cases h
theorem pos_mul {x y : Nat} (hx : pos x) (hy : pos y) : pos (fmul x y) := fun h => by
  have hn := not_nan_of_fop h
  rw [sgn_fop (.inl rfl) h, hx hn.1, hy hn.2]; rfl
theorem pos_div {x y : Nat} (hx : pos x) (hy : pos y) : pos (fdiv x y) := fun h => by
  have hn := not_nan_of_fop h
  rw [sgn_fop (.inr rfl) h, hx hn.1, hy hn.2]; rfl
theorem pos_add {x y : Nat} (hx : pos x) (hy : pos y) : pos (fadd x y) := fun h => by
  have hn := not_nan_of_fop h
  unfold fadd fop at h ⊢
  cases hb : floatBits .add .f64 x y with
  | none => rw [hb] at h; exact absurd (qn_nan.symm.trans h) (by simp)
  | some r =>
    show sgn double r = _
    obtain ⟨d, hd, rfl⟩ := Option.map_eq_some_iff.1 (show ((double.read x).sum (double.read y)).map double.write = some r from hb)
    rw [sgn_write ok_double]
    exact sum_neg hd ((neg_read double x).trans (hx hn.1)) ((neg_read double y).trans (hy hn.2))
theorem not_nan_of_sqrt {x : Nat} (h : isNaN double (fsqrt x) = false) : isNaN double x = false := by
  cases hx : isNaN double x
  · rfl
  · rw [fsqrt_nan hx, qn_nan] at h; cases h
theorem pos_sqrt {x : Nat} (hx : pos x) : pos (fsqrt x) := fun h => by
  have hn := not_nan_of_sqrt h
  unfold fsqrt at h ⊢
  cases hb : FloatKind.f64.format.sqrt x with
  | none => rw [hb] at h; exact absurd (qn_nan.symm.trans h) (by simp)
  | some r =>
    show sgn double r = _
    obtain ⟨d, hd, rfl⟩ := Option.map_eq_some_iff.1 (show (Datum.root 54 (double.read x)).map double.write = some r from hb)
    rw [sgn_write ok_double]
    rcases root_neg hd with h1 | h1
    · rw [h1, neg_read]; exact hx hn
    · exact h1
theorem pos_sub {x y : Nat} (hx : pos x) (hy : isNaN double y = false → sgn double y = true) (ly : y < 18446744073709551616) : pos (fsub x y) := by
  have e : fsub x y = fadd x (flip double y) := by
    unfold fsub fadd fop
    have : floatBits .sub .f64 x y = floatBits .add .f64 x (flip double y) := sub_eq (f := double) ly
    rw [this]
  rw [e]
  refine pos_add hx fun h => ?_
  rw [isNaN_flip ly] at h
  rw [sgn_flip (f := double) ly, hy h]; rfl
theorem pos_one : pos fone := fun _ => by decide
theorem pos_two : pos ftwo := fun _ => by decide
theorem pos_zero : pos 0 := fun _ => by decide
theorem pos_inf : pos finf := fun _ => by decide
theorem pos_absOf {g l : Nat} (hg : pos g) (hl : pos l) : pos (absOf g l) :=
  pos_mul hg (pos_sqrt (pos_add pos_one (pos_mul (pos_div hl hg) (pos_div hl hg))))
theorem pos_pAbs (z : C) : pos (pAbs z) := by
  unfold pAbs
  dsimp only
  split
  · exact pos_inf
  · split
    · exact pos_qn
    · split
      · exact pos_zero
      · split
        · exact pos_absOf (pos_fabs _) (pos_fabs _)
        · exact pos_absOf (pos_fabs _) (pos_fabs _)
theorem isNaN_word {f : Format} (s : Bool) (x : Nat) : isNaN f (f.word s (rung f x)) = isNaN f x := by
  unfold isNaN; rw [rung_word s (rung_lt f x)]
theorem cn_word (s : Bool) (x : Nat) : cn .f64 (double.word s (rung double x)) = if isNaN double x then qn .f64 else double.word s (rung double x) := by
  unfold cn
  have : isNaN FloatKind.f64.format (double.word s (rung double x)) = isNaN double x := isNaN_word s x
  rw [this]
end Fl
