/- Layer 7: what stands at a place of a matrix that was made (no program in sight). -/
import Derived.Test.YtdkcdcbbpebgmaaMX14
namespace Go.Proofs.Ytdkcdcbbpebgmaa
open Go.RowKit Fl Ieee
theorem at_made {zs : List C} {c r i j : Nat} {E : Nat → Nat → C} (h : zs.map cnC = entries c E (r * c)) (hi : i < r) (hj : j < c) : ent zs c i j = E i j := by
  have hlt : i * c + j < r * c := by
    have h1 : (i + 1) * c ≤ r * c := Nat.mul_le_mul_right _ hi
    rw [Nat.add_mul, Nat.one_mul] at h1; omega
  have h2 := congrArg (fun t : List C => t[i * c + j]?) h
  simp only [List.getElem?_map] at h2
  unfold entries at h2
  rw [List.getElem?_map, List.getElem?_range hlt] at h2
  unfold ent
  rw [List.getD_eq_getElem?_getD]
  cases hz : zs[i * c + j]? with
  | none => rw [hz] at h2; cases h2
  | some z =>
    rw [hz] at h2
    have h3 : cnC z = entry c E (i * c + j) := Option.some.inj h2
    show cnC z = _
    rw [h3, entry_at E hj]
theorem own_reads {W : World} {B n : Nat} {e : TypeId} {v : Value} {xs : List Value} (h : W.ownsRow B e 1 v n xs) : ∃ A cap, v = .slice A n cap ∧ Reads W W.heap.size A xs ∧ n ≤ cap ∧ (A = none → cap = 0) := by
  obtain ⟨A, m, c, rfl, rfl⟩ := slice_of_own h
  obtain ⟨-, h1, h2⟩ := own_slice h
  exact ⟨A, c, rfl, Reads.of_own h, h1, h2⟩
theorem len_made {zs : List C} {c r : Nat} {E : Nat → Nat → C} (h : zs.map cnC = entries c E (r * c)) : zs.length = r * c := by
  have := congrArg List.length h; simpa [entries] using this
theorem rowOf_ent {l : List C} {r c a : Nat} (hl : l.length = r * c) (ha : a < r) : (rowOf l c a).map cnC = (List.range c).map fun i => ent l c a i := by
  apply List.ext_getElem?
  intro k
  rw [rowOf_map, List.getElem?_take, List.getElem?_map]
  by_cases hk : k < c
  · rw [if_pos hk, List.getElem?_drop, List.getElem?_range hk, List.getElem?_map]
    have := at_ok hl ha hk
    rw [this]; rfl
  · rw [if_neg hk, List.getElem?_eq_none (by simp; omega)]; rfl
theorem map_range_congr {n : Nat} {f g : Nat → C} (h : ∀ i, i < n → f i = g i) : (List.range n).map f = (List.range n).map g :=
  List.map_congr_left fun i hi => h i (List.mem_range.1 hi)
theorem entries_congr {c n : Nat} {E F : Nat → Nat → C} (h : ∀ k, k < n → entry c E k = entry c F k) : entries c E n = entries c F n :=
  List.map_congr_left fun i hi => h i (List.mem_range.1 hi)
theorem cnC_cnC (z : C) : cnC (cnC z) = cnC z := Prod.ext (cn_cn .f64 z.1) (cn_cn .f64 z.2)
theorem cnC_ent (l : List C) (c i j : Nat) : cnC (ent l c i j) = ent l c i j := cnC_cnC _
/-- A list is its own entries. -/
theorem ents_self {l : List C} {r c : Nat} (hl : l.length = r * c) : l.map cnC = entries c (fun i j => ent l c i j) (r * c) := by
  apply List.ext_getElem?
  intro k
  unfold entries
  rw [List.getElem?_map, List.getElem?_map]
  by_cases hk : k < r * c
  · have hc : 0 < c := by
      rcases Nat.eq_zero_or_pos c with h | h
      · subst h; simp at hk
      · exact h
    rw [List.getElem?_range hk]
    unfold entry ent
    have e : k / c * c + k % c = k := by rw [Nat.mul_comm]; exact Nat.div_add_mod k c
    rw [List.getElem?_eq_getElem (by omega)]
    show some _ = some _
    simp only [e]
    rw [List.getD_eq_getElem?_getD, List.getElem?_eq_getElem (by omega)]; rfl
  · rw [List.getElem?_eq_none (by omega), List.getElem?_eq_none (by simp; omega)]; rfl
end Go.Proofs.Ytdkcdcbbpebgmaa
