/- The bits of a float up to NaN: one word stands for all NaNs. The operations as plain functions on such words. -/
import Derived.Test.YtdkcdcbbpebgmaaFlD
import Derived.Laws.FloatArith
namespace Fl
open Ieee Go

theorem ok_kind (k : FloatKind) : Ok k.format := by cases k; exact ok_single; exact ok_double

/-- The one NaN. -/
def qn (k : FloatKind) : Nat := k.format.infRung + 1
/-- A word, all NaNs being one. -/
def cn (k : FloatKind) (x : Nat) : Nat := if isNaN k.format x then qn k else x

theorem isNaN_qn (k : FloatKind) : isNaN k.format (qn k) = true := by cases k <;> decide
theorem qn_lt (k : FloatKind) : qn k < 2 ^ k.format.width := by cases k <;> decide
theorem cn_of_nan {k : FloatKind} {x : Nat} (h : isNaN k.format x = true) : cn k x = qn k := by simp [cn, h]
theorem cn_of_not {k : FloatKind} {x : Nat} (h : isNaN k.format x = false) : cn k x = x := by simp [cn, h]
theorem cn_cn (k : FloatKind) (x : Nat) : cn k (cn k x) = cn k x := by
  by_cases h : isNaN k.format x = true
  · rw [cn_of_nan h, cn_of_nan (isNaN_qn k)]
  · have h' : isNaN k.format x = false := by simpa using h
    rw [cn_of_not h', cn_of_not h']
theorem isNaN_cn (k : FloatKind) (x : Nat) : isNaN k.format (cn k x) = isNaN k.format x := by
  by_cases h : isNaN k.format x = true
  · rw [cn_of_nan h, isNaN_qn, h]
  · rw [cn_of_not (by simpa using h)]
theorem cn_lt {k : FloatKind} {x : Nat} (h : x < 2 ^ k.format.width) : cn k x < 2 ^ k.format.width := by
  unfold cn; split
  · exact qn_lt k
  · exact h
/-- Two words are one up to NaN just if their bits are the same, or both are NaN. -/
theorem cn_eq_iff {k : FloatKind} {x y : Nat} : cn k x = cn k y ↔ x = y ∨ (isNaN k.format x = true ∧ isNaN k.format y = true) := by
  by_cases hx : isNaN k.format x = true <;> by_cases hy : isNaN k.format y = true
  · simp [cn_of_nan hx, cn_of_nan hy, hx, hy]
  · rw [cn_of_nan hx, cn_of_not (by simpa using hy)]
    constructor
    · intro h; rw [← h, isNaN_qn] at hy; simp at hy
    · rintro (rfl | ⟨_, h⟩)
      · exact absurd hx hy
      · exact absurd h hy
  · rw [cn_of_nan hy, cn_of_not (by simpa using hx)]
    constructor
    · intro h; rw [h, isNaN_qn] at hx; simp at hx
    · rintro (rfl | ⟨h, _⟩)
      · exact absurd hy hx
      · exact absurd h hx
  · rw [cn_of_not (by simpa using hx), cn_of_not (by simpa using hy)]
    simp [hx]

/-- A NaN reads as a NaN; else a word and its canonical one are one. -/
theorem read_cn_cases (k : FloatKind) (x : Nat) : cn k x = x ∨ (∃ s t s' t', k.format.read x = .nan s t ∧ k.format.read (cn k x) = .nan s' t') := by
  by_cases h : isNaN k.format x = true
  · right
    have h1 := read_nan (ok_kind k) (x := x) (by simpa [isNaN] using h)
    have h2 := read_nan (ok_kind k) (x := cn k x) (by have := isNaN_cn k x; rw [h] at this; simpa [isNaN] using this)
    exact ⟨_, _, _, _, h1, h2⟩
  · left; exact cn_of_not (by simpa using h)

theorem sum_nan_l (s t d) : Datum.sum (.nan s t) d = none := by simp [Datum.sum]
theorem sum_nan_r (s t d) : Datum.sum d (.nan s t) = none := by cases d <;> simp [Datum.sum]
theorem product_nan_l (s t d) : Datum.product (.nan s t) d = none := by simp [Datum.product]
theorem product_nan_r (s t d) : Datum.product d (.nan s t) = none := by cases d <;> simp [Datum.product]
theorem quotient_nan_l (g s t d) : Datum.quotient g (.nan s t) d = none := by simp [Datum.quotient]
theorem quotient_nan_r (g s t d) : Datum.quotient g d (.nan s t) = none := by cases d <;> simp [Datum.quotient]

/-- An operation hangs on its operands up to NaN. -/
theorem floatBits_cn (op : BinOp) (k : FloatKind) (x y : Nat) : floatBits op k (cn k x) (cn k y) = floatBits op k x y := by
  have hx := read_cn_cases k x
  have hy := read_cn_cases k y
  rcases hx with hx | ⟨s, t, s', t', h1, h2⟩
  · rcases hy with hy | ⟨s, t, s', t', h1, h2⟩
    · rw [hx, hy]
    · rw [hx]
      cases op <;> simp only [floatBits, Format.add, Format.sub, Format.mul, Format.div, h1, h2, Datum.opposite, sum_nan_r, product_nan_r, quotient_nan_r]
  · cases op <;> simp only [floatBits, Format.add, Format.sub, Format.mul, Format.div, h1, h2, sum_nan_l, product_nan_l, quotient_nan_l]

/-- The operation as a function, the one NaN where it has no answer. -/
def fop (op : BinOp) (k : FloatKind) (x y : Nat) : Nat := (floatBits op k x y).getD (qn k)

theorem fop_cn (op : BinOp) (k : FloatKind) (x y : Nat) : fop op k (cn k x) (cn k y) = fop op k x y := by
  unfold fop; rw [floatBits_cn]

theorem nearest_not_nan (k : FloatKind) (s : Bool) (m : Nat) (e : Int) : isNaN k.format (k.format.nearest s m e) = false := by
  obtain ⟨r, _, h⟩ := (nearest_rounds (ok_kind k) s m e).rung
  simp [isNaN, h]; omega

theorem write_not_nan (k : FloatKind) {d : Datum} (h : d.isNaN = false) : isNaN k.format (k.format.write d) = false := by
  cases d with
  | number s m e => exact nearest_not_nan k s m e
  | infinity s =>
    have := infRung_lt k.format
    simp [Format.write, isNaN, rung_word s this]
  | nan s t => simp [Datum.isNaN] at h

theorem sum_not_nan {a b d : Datum} (h : a.sum b = some d) : d.isNaN = false := by
  cases a <;> cases b <;> simp [Datum.sum] at h
  · subst h; rfl
  · subst h; rfl
  · subst h; rfl
  · obtain ⟨_, rfl⟩ := h; rfl
theorem product_not_nan {a b d : Datum} (h : a.product b = some d) : d.isNaN = false := by
  cases a <;> cases b <;> simp [Datum.product] at h
  · subst h; rfl
  · obtain ⟨_, rfl⟩ := h; rfl
  · obtain ⟨_, rfl⟩ := h; rfl
  · subst h; rfl
theorem quotient_not_nan {g : Nat} {a b d : Datum} (h : Datum.quotient g a b = some d) : d.isNaN = false := by
  cases a with
  | nan => simp [quotient_nan_l] at h
  | infinity s =>
    cases b with
    | nan => simp [quotient_nan_r] at h
    | infinity t => simp [Datum.quotient] at h
    | number t n j => simp [Datum.quotient] at h; subst h; rfl
  | number s m i =>
    cases b with
    | nan => simp [quotient_nan_r] at h
    | infinity t => simp [Datum.quotient] at h; subst h; rfl
    | number t n j =>
      simp only [Datum.quotient] at h
      split at h
      · split at h
        · cases h
        · cases h; rfl
      · cases h; rfl

theorem map_write_not_nan (k : FloatKind) {o : Option Datum} {r : Nat} (h : o.map k.format.write = some r) (hn : ∀ d, o = some d → d.isNaN = false) : isNaN k.format r = false := by
  obtain ⟨d, hd, rfl⟩ := Option.map_eq_some_iff.1 h
  exact write_not_nan k (hn d hd)

theorem floatBits_not_nan {op : BinOp} {k : FloatKind} {x y r : Nat} (h : floatBits op k x y = some r) : isNaN k.format r = false := by
  unfold floatBits at h
  cases op <;> simp only at h <;> first | (cases h; done) | skip
  · exact map_write_not_nan k h fun d hd => sum_not_nan hd
  · exact map_write_not_nan k h fun d hd => sum_not_nan hd
  · exact map_write_not_nan k h fun d hd => product_not_nan hd
  · exact map_write_not_nan k h fun d hd => quotient_not_nan hd

theorem cn_fop (op : BinOp) (k : FloatKind) (x y : Nat) : cn k (fop op k x y) = fop op k x y := by
  unfold fop
  cases h : floatBits op k x y with
  | none => simp [cn_of_nan (isNaN_qn k)]
  | some r => simp [cn_of_not (floatBits_not_nan h)]

theorem floatBits_lt {op : BinOp} {k : FloatKind} {x y r : Nat} (h : floatBits op k x y = some r) : r < 2 ^ k.format.width := by
  have := floatBits_wf h
  cases k
  · have h' : r < 4294967296 := by simpa [Lit.wf] using this
    exact h'
  · have h' : r < 18446744073709551616 := by simpa [Lit.wf] using this
    exact h'

theorem fop_lt (op : BinOp) (k : FloatKind) (x y : Nat) : fop op k x y < 2 ^ k.format.width := by
  unfold fop
  cases h : floatBits op k x y with
  | none => exact qn_lt k
  | some r => exact floatBits_lt h

/-- How two words stand to each other hangs on them up to NaN. -/
theorem order_cn (k : FloatKind) (x y : Nat) : k.format.order (cn k x) (cn k y) = k.format.order x y := by
  have hx := read_cn_cases k x
  have hy := read_cn_cases k y
  unfold Format.order
  rcases hx with hx | ⟨s, t, s', t', h1, h2⟩
  · rcases hy with hy | ⟨s, t, s', t', h1, h2⟩
    · rw [hx, hy]
    · rw [hx, h1, h2]
      cases k.format.read x <;> simp [Datum.order]
  · rw [h1, h2]; simp [Datum.order]

/-- The square root as a function. -/
def fsqrt (x : Nat) : Nat := (FloatKind.f64.format.sqrt x).getD (qn .f64)
theorem fsqrt_cn (x : Nat) : fsqrt (cn .f64 x) = fsqrt x := by
  unfold fsqrt Format.sqrt
  rcases read_cn_cases .f64 x with h | ⟨s, t, s', t', h1, h2⟩
  · rw [h]
  · rw [h1, h2]; simp [Datum.root]
theorem root_not_nan {g : Nat} {a d : Datum} (h : Datum.root g a = some d) : d.isNaN = false := by
  cases a with
  | nan => simp [Datum.root] at h
  | infinity s => simp [Datum.root] at h; obtain ⟨_, rfl⟩ := h; rfl
  | number s m i =>
    simp only [Datum.root] at h
    split at h
    · cases h; rfl
    · split at h
      · cases h
      · cases h; rfl
theorem cn_fsqrt (x : Nat) : cn .f64 (fsqrt x) = fsqrt x := by
  unfold fsqrt
  cases h : FloatKind.f64.format.sqrt x with
  | none => exact cn_of_nan (isNaN_qn .f64)
  | some r => exact cn_of_not (map_write_not_nan .f64 h fun d hd => root_not_nan hd)
theorem fsqrt_lt (x : Nat) : fsqrt x < 2 ^ 64 := by
  unfold fsqrt
  cases h : FloatKind.f64.format.sqrt x with
  | none => exact qn_lt .f64
  | some r => exact FloatKind.f64.format.sqrt_lt h

/-- What a NaN that the tape draws comes to. -/
theorem nan_cut (k : FloatKind) (x y t : Nat) : isNaN k.format ((Question.nanBits k x y).cut t) = true ∧ (Question.nanBits k x y).cut t < 2 ^ k.format.width := by
  cases k
  · have h1 : (t / 2) % (2 ^ 23 - 1) < 2 ^ 23 - 1 := Nat.mod_lt _ (by decide)
    have h2 : t % 2 < 2 := Nat.mod_lt _ (by decide)
    have e : (Question.nanBits .f32 x y).cut t = (t % 2) * 2 ^ 31 + 0x7f800000 + 1 + (t / 2) % (2 ^ 23 - 1) := rfl
    have s : FloatKind.f32.format.signWeight = 2147483648 := by decide
    have i : FloatKind.f32.format.infRung = 2139095040 := by decide
    have wd : 2 ^ FloatKind.f32.format.width = 4294967296 := by decide
    rw [e, wd]; unfold isNaN rung; rw [s, i]
    generalize (t / 2) % (2 ^ 23 - 1) = a at *
    generalize t % 2 = b at *
    simp only [decide_eq_true_eq]
    omega
  · have h1 : (t / 2) % (2 ^ 52 - 1) < 2 ^ 52 - 1 := Nat.mod_lt _ (by decide)
    have h2 : t % 2 < 2 := Nat.mod_lt _ (by decide)
    have e : (Question.nanBits .f64 x y).cut t = (t % 2) * 2 ^ 63 + 0x7ff0000000000000 + 1 + (t / 2) % (2 ^ 52 - 1) := rfl
    have s : FloatKind.f64.format.signWeight = 9223372036854775808 := by decide
    have i : FloatKind.f64.format.infRung = 9218868437227405312 := by decide
    have wd : 2 ^ FloatKind.f64.format.width = 18446744073709551616 := by decide
    rw [e, wd]; unfold isNaN rung; rw [s, i]
    generalize (t / 2) % (2 ^ 52 - 1) = a at *
    generalize t % 2 = b at *
    simp only [decide_eq_true_eq]
    omega
theorem nanConv_cut (k : FloatKind) (x t : Nat) : isNaN k.format ((Question.nanConv k x).cut t) = true ∧ (Question.nanConv k x).cut t < 2 ^ k.format.width := by
  have := nan_cut k 0 0 t
  cases k <;> exact this
end Fl
