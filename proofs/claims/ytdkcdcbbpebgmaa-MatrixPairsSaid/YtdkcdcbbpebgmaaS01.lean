/- Layer 1: sums and their errors. -/
import Derived.Test.YtdkcdcbbpebgmaaMem
import Derived.Test.YtdkcdcbbpebgmaaR01N
namespace Go.Proofs.Ytdkcdcbbpebgmaa
open Go.RowKit Fl Ieee
set_option maxRecDepth 20000
/-- A sum and its error, up to NaN. -/
def twoSum (a b : Nat) : Nat × Nat :=
  let s := fadd a b
  let t := fsub s a
  let u := fsub s t
  let v := fsub a u
  let w := fsub b t
  (s, fadd v w)
def sumStep (st : Nat × List Nat) (x : Nat) : Nat × List Nat := ((twoSum st.1 x).1, st.2 ++ [(twoSum st.1 x).2])
def sumErr (l : List Nat) : Nat × List Nat := l.foldl sumStep (0, [])
theorem sumErr_take {l : List Nat} {k x : Nat} (h : l[k]? = some x) :
    sumErr ((l.take (k + 1)).map (cn .f64)) = sumStep (sumErr ((l.take k).map (cn .f64))) (cn .f64 x) := by
  have hk : k < l.length := by
    rcases Nat.lt_or_ge k l.length with h1 | h1
    · exact h1
    · rw [List.getElem?_eq_none h1] at h; cases h
  have e : l[k] = x := by rw [List.getElem?_eq_getElem hk] at h; exact Option.some.inj h
  rw [List.take_succ_eq_append_getElem hk, e, List.map_append]
  unfold sumErr
  rw [List.foldl_append]; rfl
/-- Two reals that are v up to NaN are handed back. -/
def RetRR (v : Nat × Nat) (w : World) (e : Ending) (w' : World) : Prop :=
  ∃ x y n, e = .returned (.tuple #[.float .f64 x, .float .f64 y]) ∧ (cn .f64 x, cn .f64 y) = v ∧ x < 18446744073709551616 ∧ y < 18446744073709551616 ∧ w' = w.drewN n
theorem closeRR {v : Nat × Nat} {x y n : Nat} {w : World} (h1 : cn .f64 x = v.1) (h2 : cn .f64 y = v.2) (hx : x < 18446744073709551616) (hy : y < 18446744073709551616) :
    RetRR v w (.returned (.tuple #[.float .f64 x, .float .f64 y])) (w.drewN n) := ⟨x, y, n, rfl, by rw [h1, h2], hx, hy, rfl⟩
end Go.Proofs.Ytdkcdcbbpebgmaa
