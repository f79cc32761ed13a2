/- Layer 7: every row, every column. -/
import Derived.Test.YtajdfbjjgjpicaaMX6
namespace Go.Proofs.Ytajdfbjjgjpicaa
open Go.RowKit Fl Ieee
set_option maxRecDepth 20000
attribute [local go_sem] run_store_float run_store_complex
theorem wpList_append_none {P : Program} {w : World} {ops : Array Oper} {rest : List Oper} {o : Oper} {a : Act} {Q : Exit → Act → World → Prop} (hgd : o.guard = none) (s x : Operand) (t : TypeId)
    (ho : o.op = .call { callee := .builtin .append, args := #[s, x], argTypes := #[t, t] })
    (base : Nat) (e : TypeId) (i : TypeInfo) (size : Nat) (ht : P.underlying t = some (.slice e)) (hi : P.info? e = some i)
    (v : Value) (n : Nat) (xs : List Value) (hs : a.eval s = v) (hown : w.ownsRow base e size v n xs) (hx : a.eval x = .slice none 0 0)
    (h : wpList P ops Q rest (a.put o.dst v) w) : wpList P ops Q (o :: rest) a w :=
  wpList_plain hgd fun _ hK => by
    have hr := run_append_owned_none (P := P) w base t o.type e i size ht hi v n xs hown
    unfold Oper.wp execOp
    simp only [ho, resolve, invoke, builtin, Sem.run_bind, Sem.run_pure, Result.andThen_ok, List.map_toArray, List.map_cons, List.map_nil, hs, hx, hr]
    exact hK _ _ h
/-- A list, told up to NaN, and what is told of it. -/
def RetLC (l : List C) (er : Int) (w : World) (e : Ending) (w' : World) : Prop := ∃ s zs, e = .returned (.tuple #[s, .int .i64 er]) ∧ zs.map cnC = l ∧ ltCs zs ∧ w'.ownsRow w.heap.size 53 1 s l.length (nums zs) ∧ Below w.heap.size w w'
theorem own_slice {w : World} {B n m : Nat} {A : Option Addr} {e : TypeId} {cap : Nat} {xs : List Value} (h : w.ownsRow B e 1 (.slice A m cap) n xs) : m = n ∧ n ≤ cap ∧ (A = none → cap = 0) := by
  rcases h.2 with ⟨h, h'⟩ | ⟨g, cap', cur, h, _, _, hn, _⟩
  · injection h with h1 h2 h3
    subst h1 h2 h3
    exact ⟨h'.symm, by omega, fun _ => rfl⟩
  · injection h with h1 h2 h3
    subst h1 h2 h3
    exact ⟨rfl, hn, fun h => by cases h⟩
end Go.Proofs.Ytajdfbjjgjpicaa
namespace Go.Proofs.Ytajdfbjjgjpicaa
open Go.RowKit Fl Ieee
theorem at_made {zs : List C} {c r i j : Nat} {E : Nat → Nat → C} (h : zs.map cnC = entries c E (r * c)) (hi : i < r) (hj : j < c) : ent zs c i j = E i j := by
  have hlt : i * c + j < r * c := by
    have h1 : (i + 1) * c ≤ r * c := Nat.mul_le_mul_right _ hi
    rw [Nat.add_mul, Nat.one_mul] at h1; omega
  have h2 := congrArg (fun t : List C => t[i * c + j]?) h
  simp only [List.getElem?_map] at h2
  unfold entries at h2
  rw [List.getElem?_map, List.getElem?_range hlt] at h2
  unfold ent
  rw [List.getD_eq_getElem?_getD]
  cases hz : zs[i * c + j]? with
  | none => rw [hz] at h2; cases h2
  | some z =>
    rw [hz] at h2
    have h3 : cnC z = entry c E (i * c + j) := Option.some.inj h2
    show cnC z = _
    rw [h3, entry_at E hj]
theorem own_reads {W : World} {B n : Nat} {e : TypeId} {v : Value} {xs : List Value} (h : W.ownsRow B e 1 v n xs) : ∃ A cap, v = .slice A n cap ∧ Reads W W.heap.size A xs ∧ n ≤ cap ∧ (A = none → cap = 0) := by
  obtain ⟨A, m, c, rfl, rfl⟩ := slice_of_own h
  obtain ⟨-, h1, h2⟩ := own_slice h
  exact ⟨A, c, rfl, Reads.of_own h, h1, h2⟩
theorem len_made {zs : List C} {c r : Nat} {E : Nat → Nat → C} (h : zs.map cnC = entries c E (r * c)) : zs.length = r * c := by
  have := congrArg List.length h; simpa [entries] using this
theorem map_range_congr {n : Nat} {f g : Nat → C} (h : ∀ i, i < n → f i = g i) : (List.range n).map f = (List.range n).map g :=
  List.map_congr_left fun i hi => h i (List.mem_range.1 hi)
theorem entries_congr {c n : Nat} {E F : Nat → Nat → C} (h : ∀ k, k < n → entry c E k = entry c F k) : entries c E n = entries c F n :=
  List.map_congr_left fun i hi => h i (List.mem_range.1 hi)
theorem cnC_cnC (z : C) : cnC (cnC z) = cnC z := Prod.ext (cn_cn .f64 z.1) (cn_cn .f64 z.2)
theorem cnC_ent (l : List C) (c i j : Nat) : cnC (ent l c i j) = ent l c i j := cnC_cnC _
/-- A list is its own entries. -/
theorem ents_self {l : List C} {r c : Nat} (hl : l.length = r * c) : l.map cnC = entries c (fun i j => ent l c i j) (r * c) := by
  apply List.ext_getElem?
  intro k
  unfold entries
  rw [List.getElem?_map, List.getElem?_map]
  by_cases hk : k < r * c
  · have hc : 0 < c := by
      rcases Nat.eq_zero_or_pos c with h | h
      · subst h; simp at hk
      · exact h
    rw [List.getElem?_range hk]
    unfold entry ent
    have e : k / c * c + k % c = k := by rw [Nat.mul_comm]; exact Nat.div_add_mod k c
    rw [List.getElem?_eq_getElem (by omega)]
    show some _ = some _
    simp only [e]
    rw [List.getD_eq_getElem?_getD, List.getElem?_eq_getElem (by omega)]; rfl
  · rw [List.getElem?_eq_none (by omega), List.getElem?_eq_none (by simp; omega)]; rfl
end Go.Proofs.Ytajdfbjjgjpicaa
