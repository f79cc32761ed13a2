/- How two words stand to each other. -/
import Derived.Test.YtajdfbjjgjpicaaFlA
namespace Fl
open Ieee Go

theorem compare_signed (s t : Bool) (m n a b : Nat) : compare (signed s m a) (signed t n b) =
    compare (if s then -((m * 2 ^ a : Nat) : Int) else ((m * 2 ^ a : Nat) : Int)) (if t then -((n * 2 ^ b : Nat) : Int) else ((n * 2 ^ b : Nat) : Int)) := by
  rw [signed_eq, signed_eq]

theorem compare_scale (a b c : Int) (hc : 0 < c) : compare (a * c) (b * c) = compare a b := by
  have h1 : a * c < b * c ↔ a < b := ⟨fun h => Int.lt_of_mul_lt_mul_right h (Int.le_of_lt hc), fun h => Int.mul_lt_mul_of_pos_right h hc⟩
  have h2 : a * c = b * c ↔ a = b := ⟨fun h => Int.eq_of_mul_eq_mul_right (by omega) h, fun h => by rw [h]⟩
  simp only [compare, compareOfLessAndEq, h1, h2]

/-- Of two finite words: as their values. -/
theorem order_fin {f : Format} {x y : Nat} (hx : fin f x) (hy : fin f y) : f.order x y = some (compare (sval f x) (sval f y)) := by
  obtain ⟨m, i, hrx, hi, hvx⟩ := read_fin hx
  obtain ⟨n, j, hry, hj, hvy⟩ := read_fin hy
  have hb : f.leastPlace ≤ min i j := by omega
  have e1 := sval_eq (x := x) hb (Int.min_le_left i j) hvx
  have e2 := sval_eq (x := y) hb (Int.min_le_right i j) hvy
  unfold Format.order
  rw [hrx, hry, ← e1, ← e2, compare_scale _ _ _ (Int.pow_pos (by omega))]
  rfl

theorem compare_self (a : Int) : compare a a = .eq := by simp [compare, compareOfLessAndEq]

/-- A word is equal to itself just if it is no NaN. -/
theorem order_self (k : FloatKind) (x : Nat) : (k.format.order x x == some .eq) = !isNaN k.format x := by
  rcases kinds k.format x with h | h | h
  · have h' : isNaN k.format x = false := by unfold fin at h; simp [isNaN]; omega
    rw [order_fin h h, compare_self, h']; rfl
  · have h' : isNaN k.format x = false := by simp [isNaN, h]
    unfold Format.order
    rw [read_inf (ok_kind k) h, h']
    simp [Datum.order]
  · have h' : isNaN k.format x = true := by simp [isNaN, h]
    unfold Format.order
    rw [read_nan (ok_kind k) h, h']
    simp [Datum.order]
theorem order_self' (k : FloatKind) (x : Nat) : (k.format.order x x != some .eq) = isNaN k.format x := by
  have := order_self k x
  rw [bne, this]; simp

/-- A word's place among the words: its rung with its sign. -/
def key (f : Format) (x : Nat) : Int := if sgn f x then -(rung f x : Int) else (rung f x : Int)

theorem compare_congr {a b c d : Int} (h1 : a < b ↔ c < d) (h2 : a = b ↔ c = d) : compare a b = compare c d := by
  simp only [compare, compareOfLessAndEq, h1, h2]

theorem sval_key_lt {f : Format} {x y : Nat} : sval f x < sval f y ↔ key f x < key f y := by
  have h1 := @val_lt_iff f (rung f x) (rung f y)
  have h2 := @val_lt_iff f (rung f y) (rung f x)
  have z1 : 0 < val f (rung f x) ↔ 0 < rung f x := by have := @val_lt_iff f 0 (rung f x); rwa [val_zero] at this
  have z2 : 0 < val f (rung f y) ↔ 0 < rung f y := by have := @val_lt_iff f 0 (rung f y); rwa [val_zero] at this
  unfold sval key
  cases sgn f x <;> cases sgn f y <;> simp only [if_true, if_false, Bool.false_eq_true] <;> omega
theorem sval_key_eq {f : Format} {x y : Nat} : sval f x = sval f y ↔ key f x = key f y := by
  have h1 := @sval_key_lt f x y
  have h2 := @sval_key_lt f y x
  omega

/-- Of words that are no NaN: as their places. -/
theorem order_key {k : FloatKind} {x y : Nat} (hx : isNaN k.format x = false) (hy : isNaN k.format y = false) : k.format.order x y = some (compare (key k.format x) (key k.format y)) := by
  have hx' : ¬ k.format.infRung < rung k.format x := by simpa [isNaN] using hx
  have hy' : ¬ k.format.infRung < rung k.format y := by simpa [isNaN] using hy
  rcases kinds k.format x with h | h | h
  · rcases kinds k.format y with g | g | g
    · rw [order_fin h g, compare_congr sval_key_lt sval_key_eq]
    · obtain ⟨m, i, hrx, hi, hvx⟩ := read_fin h
      unfold Format.order fin at *
      rw [hrx, read_inf (ok_kind k) g]
      unfold key
      cases sgn k.format x <;> cases sgn k.format y <;> simp [Datum.order, compare, compareOfLessAndEq] <;> (try split) <;> (try split) <;> simp_all <;> omega
    · omega
  · rcases kinds k.format y with g | g | g
    · obtain ⟨m, i, hry, hi, hvy⟩ := read_fin g
      unfold Format.order fin at *
      rw [hry, read_inf (ok_kind k) h]
      unfold key
      cases sgn k.format x <;> cases sgn k.format y <;> simp [Datum.order, compare, compareOfLessAndEq] <;> (try split) <;> (try split) <;> simp_all <;> omega
    · have := binade_le_inf (ok_kind k)
      have := binade_pos k.format
      unfold Format.order
      rw [read_inf (ok_kind k) h, read_inf (ok_kind k) g]
      unfold key
      cases sgn k.format x <;> cases sgn k.format y <;> simp [Datum.order, compare, compareOfLessAndEq] <;> (try split) <;> (try split) <;> simp_all <;> omega
    · omega
  · omega
theorem order_nan_l {k : FloatKind} {x y : Nat} (hx : isNaN k.format x = true) : k.format.order x y = none := by
  have h : k.format.infRung < rung k.format x := by simpa [isNaN] using hx
  unfold Format.order
  rw [read_nan (ok_kind k) h]; simp [Datum.order]
theorem order_nan_r {k : FloatKind} {x y : Nat} (hy : isNaN k.format y = true) : k.format.order x y = none := by
  have h : k.format.infRung < rung k.format y := by simpa [isNaN] using hy
  unfold Format.order
  rw [read_nan (ok_kind k) h]; cases k.format.read x <;> simp [Datum.order]

/-- ==, <, <= of floats. -/
def feq (k : FloatKind) (x y : Nat) : Bool := k.format.order x y == some .eq
def flt (k : FloatKind) (x y : Nat) : Bool := k.format.order x y == some .lt
def fle (k : FloatKind) (x y : Nat) : Bool := k.format.order x y == some .lt || k.format.order x y == some .eq
theorem order_eq (k : FloatKind) (x y : Nat) : (k.format.order x y == some .eq) = feq k x y := rfl
theorem order_ne (k : FloatKind) (x y : Nat) : (k.format.order x y != some .eq) = !feq k x y := rfl
theorem order_lt (k : FloatKind) (x y : Nat) : (k.format.order x y == some .lt) = flt k x y := rfl
theorem order_le (k : FloatKind) (x y : Nat) : (k.format.order x y == some .lt || k.format.order x y == some .eq) = fle k x y := rfl

theorem feq_def (k : FloatKind) (x y : Nat) : feq k x y = (!isNaN k.format x && !isNaN k.format y && decide (key k.format x = key k.format y)) := by
  unfold feq
  cases hx : isNaN k.format x
  · cases hy : isNaN k.format y
    · rw [order_key hx hy]
      simp only [compare, compareOfLessAndEq]
      split <;> (try split) <;> simp <;> omega
    · rw [order_nan_r hy]; simp
  · rw [order_nan_l hx]; simp
theorem flt_def (k : FloatKind) (x y : Nat) : flt k x y = (!isNaN k.format x && !isNaN k.format y && decide (key k.format x < key k.format y)) := by
  unfold flt
  cases hx : isNaN k.format x
  · cases hy : isNaN k.format y
    · rw [order_key hx hy]
      simp only [compare, compareOfLessAndEq]
      split <;> (try split) <;> simp <;> omega
    · rw [order_nan_r hy]; simp
  · rw [order_nan_l hx]; simp
theorem fle_def (k : FloatKind) (x y : Nat) : fle k x y = (!isNaN k.format x && !isNaN k.format y && decide (key k.format x ≤ key k.format y)) := by
  have h1 := flt_def k x y
  have h2 := feq_def k x y
  have h : fle k x y = (flt k x y || feq k x y) := rfl
  rw [h, h1, h2]
  cases isNaN k.format x <;> cases isNaN k.format y <;> simp
  rw [Bool.eq_iff_iff]; simp; omega
theorem order_gt (k : FloatKind) (x y : Nat) : (k.format.order x y == some .gt) = flt k y x := by
  rw [flt_def]
  cases hx : isNaN k.format x
  · cases hy : isNaN k.format y
    · rw [order_key hx hy]
      simp only [compare, compareOfLessAndEq]
      split <;> (try split) <;> simp <;> omega
    · rw [order_nan_r hy]; simp
  · rw [order_nan_l hx]; simp
theorem order_ge (k : FloatKind) (x y : Nat) : (k.format.order x y == some .gt || k.format.order x y == some .eq) = fle k y x := by
  rw [order_gt, order_eq, flt_def, feq_def, fle_def]
  cases isNaN k.format x <;> cases isNaN k.format y <;> simp
  rw [Bool.eq_iff_iff]; simp; omega
theorem fle_fold (k : FloatKind) (x y : Nat) : (flt k x y || feq k x y) = fle k x y := rfl
theorem fge_fold (k : FloatKind) (x y : Nat) : (flt k y x || feq k x y) = fle k y x := by
  have := order_ge k x y
  rwa [order_gt, order_eq] at this
theorem feq_self (k : FloatKind) (x : Nat) : feq k x x = !isNaN k.format x := order_self k x
theorem feq_cn (k : FloatKind) (x y : Nat) : feq k (cn k x) (cn k y) = feq k x y := by unfold feq; rw [order_cn]
theorem flt_cn (k : FloatKind) (x y : Nat) : flt k (cn k x) (cn k y) = flt k x y := by unfold flt; rw [order_cn]
theorem fle_cn (k : FloatKind) (x y : Nat) : fle k (cn k x) (cn k y) = fle k x y := by unfold fle; rw [order_cn]
end Fl
