/- Layer 11: what is left, as the document does, whatever is handed in: the law's walk. -/
import Derived.Test.YtandllekeimpgaaGreatRfS
import Derived.Test.YtandllekeimpgaaGreatRf5
import Derived.Test.YtandllekeimpgaaGreatApB
import Derived.Test.YtandllekeimpgaaGreatMX21
import Derived.Great.BuildSlice
import Derived.Deep.DeepCutAuto
import Derived.Deep.CutBlock
import Derived.Deep.RegionHeld3
import Derived.Deep.RegionLaw
namespace Go.Proofs.YtandllekeimpgaaGreat
open Go.RowKit Fl Ieee
set_option maxRecDepth 20000
attribute [local go_sem] run_store_float run_store_complex
/-- Lists of their own, kept while the world grows: where, what, capacity, from, to. -/
structure LsK (w W : World) (ls : List (Option Addr × List C × Nat × Nat × Nat)) : Prop where
  bel : Below w.heap.size w W
  l : ∀ t ∈ ls, Lst W t.2.2.2.1 t.2.2.2.2 t.1 t.2.1 t.2.2.1
namespace LsK
variable {w W V : World} {ls : List (Option Addr × List C × Nat × Nat × Nat)}
theorem below (h : LsK w W ls) (hb : Below W.heap.size W V) : LsK w V ls := ⟨h.bel.trans (hb.mono h.bel.size), fun t ht => (h.l t ht).below hb⟩
theorem add {A : Option Addr} {L : List C} {c lo hi : Nat} (h : LsK w W ls) (hL : Lst W lo hi A L c) : LsK w W ((A, L, c, lo, hi) :: ls) := ⟨h.bel, fun t ht => by
  rcases List.mem_cons.1 ht with rfl | ht
  · exact hL
  · exact h.l t ht⟩
theorem get {A : Option Addr} {L : List C} {c lo hi : Nat} (h : LsK w W ls) (i : Nat) (hi' : ls[i]? = some (A, L, c, lo, hi)) : Lst W lo hi A L c := h.l (A, L, c, lo, hi) (List.mem_of_getElem? hi')
theorem over {g : Nat} (h : LsK w W ls) (hg : W.grownBy V (some g)) (h0 : w.heap.size ≤ g) (hlo : ∀ t ∈ ls, g < t.2.2.2.1) : LsK w V ls :=
  ⟨h.bel.grown hg h.bel.size (fun j hj => by injection hj with hj; rw [← hj]; exact h0), fun t ht => (h.l t ht).over hg (.inr (hlo t ht))⟩
end LsK
structure KR9 (W : World) (rows : List (Nat × Obj)) : Prop where
  row : ∀ t ∈ rows, W.heap[t.1]? = some t.2
namespace KR9
variable {W V : World} {rows : List (Nat × Obj)}
theorem below (h : KR9 W rows) (hb : Below W.heap.size W V) : KR9 V rows := ⟨fun t ht => row_keep hb (h.row t ht)⟩
theorem grown {g : Nat} (h : KR9 W rows) (hg : W.grownBy V (some g)) (hn : ∀ t ∈ rows, t.1 ≠ g) : KR9 V rows := ⟨fun t ht => by
  rw [hg.block t.1 (row_lt (h.row t ht)) (fun e => hn t ht (by injection e))]; exact h.row t ht⟩
theorem add {b : Nat} {o : Obj} (h : KR9 W rows) (ho : W.heap[b]? = some o) : KR9 W ((b, o) :: rows) := ⟨fun t ht => by
  rcases List.mem_cons.1 ht with rfl | ht
  · exact ho
  · exact h.row t ht⟩
theorem get {b : Nat} {o : Obj} (h : KR9 W rows) (i : Nat) (hi : rows[i]? = some (b, o)) : W.heap[b]? = some o := h.row (b, o) (List.mem_of_getElem? hi)
end KR9
theorem LsK.sub {w W : World} {ls ls' : List (Option Addr × List C × Nat × Nat × Nat)} (h : LsK w W ls) (hs : ∀ t ∈ ls', t ∈ ls) : LsK w W ls' := ⟨h.bel, fun t ht => h.l t (hs t ht)⟩
/-- List t is written over: the others stay. -/
theorem LsK.over2 {w W V : World} {ls : List (Option Addr × List C × Nat × Nat × Nat)} {g : Nat} (h : LsK w W ls) (hg : W.grownBy V (some g)) (h0 : w.heap.size ≤ g) (hlo : ∀ t ∈ ls, t.2.2.2.2 ≤ g ∨ g < t.2.2.2.1) : LsK w V ls :=
  ⟨h.bel.grown hg h.bel.size (fun j hj => by injection hj with hj; rw [← hj]; exact h0), fun t ht => (h.l t ht).over hg (hlo t ht)⟩
/-- A list of one's own and its error. -/
def RetLt (L : List C) (er : Int) (w : World) (e : Ending) (w' : World) : Prop :=
  ∃ A c, e = .returned (.tuple #[.slice A L.length c, .int .i64 er]) ∧ Lst w' w.heap.size w'.heap.size A L c ∧ Below w.heap.size w w'
theorem lt_of {P : Program} {f : FuncId} {args : Array Value} {w : World} {L : List C} {er : Int} (h : Calls P f args w (RetLf L er w)) : Calls P f args w (RetLt L er w) := by
  refine h.mono ?_
  rintro e w' ⟨s, rfl, hown, hb⟩
  obtain ⟨A, m, c, rfl, rfl⟩ := slice_of_own hown
  exact ⟨A, c, rfl, OwnIn.of hown, hb⟩
theorem left_cn {r c : Int} {m m' x x' b b' : List C} (hm : m'.map cnC = m.map cnC) (hx : x'.map cnC = x.map cnC) (hb : b'.map cnC = b.map cnC) : leftE r c m' x' b' = leftE r c m x b ∧ leftR r c m' x' b' = leftR r c m x b := by
  have am : m'.all pFinite = m.all pFinite := (all_fin_cn hm).trans (all_fin_cn rfl).symm
  have ax : x'.all pFinite = x.all pFinite := (all_fin_cn hx).trans (all_fin_cn rfl).symm
  have ab : b'.all pFinite = b.all pFinite := (all_fin_cn hb).trans (all_fin_cn rfl).symm
  have lm : m'.length = m.length := by have := congrArg List.length hm; simpa using this
  have lx : x'.length = x.length := by have := congrArg List.length hx; simpa using this
  have lb : b'.length = b.length := by have := congrArg List.length hb; simpa using this
  have hsh : shape11 r c m' x' b' = shape11 r c m x b := by unfold shape11; rw [lm, lx, lb]
  have hnu : num11 m' x' b' = num11 m x b := by unfold num11; rw [am, ax, ab]
  have hl : num11 m x b = true → leftL r.toNat c.toNat m' x' b' = leftL r.toNat c.toNat m x b := fun h => by
    unfold num11 at h
    simp only [Bool.and_eq_true] at h
    obtain ⟨⟨h1, h2⟩, h3⟩ := h
    have em : m' = m := (fin_exact hm (by rw [am]; exact h1)).trans (fin_exact (zs := m) rfl h1).symm
    have ex : x' = x := (fin_exact hx (by rw [ax]; exact h2)).trans (fin_exact (zs := x) rfl h2).symm
    have eb : b' = b := (fin_exact hb (by rw [ab]; exact h3)).trans (fin_exact (zs := b) rfl h3).symm
    rw [em, ex, eb]
  have he : leftE r c m' x' b' = leftE r c m x b := by
    unfold leftE
    rw [hsh, hnu]
    by_cases h1 : shape11 r c m x b = true
    · by_cases h2 : num11 m x b = true
      · rw [hl h2]
      · rw [if_neg h2, if_neg h2]
    · rw [if_neg h1, if_neg h1]
  refine ⟨he, ?_⟩
  unfold leftR
  rw [he]
  by_cases h0 : leftE r c m x b = 0
  · have hn : num11 m x b = true := by
      unfold leftE at h0
      by_cases h1 : shape11 r c m x b = true
      · rw [if_pos h1] at h0
        by_cases h2 : num11 m x b = true
        · exact h2
        · rw [if_neg h2] at h0; cases h0
      · rw [if_neg h1] at h0; cases h0
    rw [if_pos h0, if_pos h0, hl hn]
  · rw [if_neg h0, if_neg h0]
theorem left_len {r c : Int} {m x b : List C} : (leftR r c m x b).length ≤ 64 := by
  unfold leftR
  split
  · rename_i h0
    have h1 : shape11 r c m x b = true := by
      unfold leftE at h0
      by_cases h1 : shape11 r c m x b = true
      · exact h1
      · rw [if_neg h1] at h0; cases h0
    unfold shape11 at h1
    simp only [Bool.and_eq_true] at h1
    have h2 := okM_iff.1 h1.1.1
    unfold leftL
    rw [List.length_map, List.length_range]
    omega
  · exact Nat.zero_le _
theorem apt_two {q : Nat} {Ss : List Value} {lo hi : Nat → Nat} (h : ∀ (k : Nat) (S : Value) (b : Nat), Ss[k]? = some S → S.ownBlock = some b → lo k ≤ b ∧ b < hi k) (hd : ∀ j k, j < Ss.length → k < Ss.length → j ≠ k → hi j ≤ lo k ∨ hi k ≤ lo j) (hq : ∀ k, k < Ss.length → hi k ≤ q) : Apt q Ss where
  apart j k S S' h1 h2 hjk := by
    cases hb : S.ownBlock with
    | none => exact .inl rfl
    | some b =>
      refine .inr fun e => ?_
      have a1 := h j S b h1 hb
      have a2 := h k S' b h2 e.symm
      have := hd j k (lt_of_some h1) (lt_of_some h2) hjk
      omega
  notq k S h1 e := by
    have a1 := h k S q h1 e
    have := hq k (lt_of_some h1)
    omega
/-- Five lists: the last three below the first two. -/
theorem apt5' {q : Nat} {S0 S1 S2 S3 S4 : Value} {a0 b0 a1 b1 a2 b2 a3 b3 a4 b4 : Nat} (h0 : ∀ b, S0.ownBlock = some b → a0 ≤ b ∧ b < b0) (h1 : ∀ b, S1.ownBlock = some b → a1 ≤ b ∧ b < b1) (h2 : ∀ b, S2.ownBlock = some b → a2 ≤ b ∧ b < b2)
    (h3 : ∀ b, S3.ownBlock = some b → a3 ≤ b ∧ b < b3) (h4 : ∀ b, S4.ownBlock = some b → a4 ≤ b ∧ b < b4) (e0 : b2 ≤ a3) (e1 : b3 ≤ a4) (e2 : b4 ≤ a0) (e3 : b0 ≤ a1) (e4 : b1 ≤ q) (f0 : a0 ≤ b0) (f1 : a1 ≤ b1) (_f2 : a2 ≤ b2) (f3 : a3 ≤ b3) (f4 : a4 ≤ b4) : Apt q [S0, S1, S2, S3, S4] := by
  refine apt_two (lo := fun i => match i with | 0 => a0 | 1 => a1 | 2 => a2 | 3 => a3 | _ => a4) (hi := fun i => match i with | 0 => b0 | 1 => b1 | 2 => b2 | 3 => b3 | _ => b4) (fun k S b hS hb => ?_) (fun j k hj hk hjk => ?_) (fun k hk => ?_)
  · match k, hS with
    | 0, hS => injection hS with hS; subst hS; exact h0 b hb
    | 1, hS => injection hS with hS; subst hS; exact h1 b hb
    | 2, hS => injection hS with hS; subst hS; exact h2 b hb
    | 3, hS => injection hS with hS; subst hS; exact h3 b hb
    | 4, hS => injection hS with hS; subst hS; exact h4 b hb
    | n + 5, hS => cases hS
  · have hj' : j = 0 ∨ j = 1 ∨ j = 2 ∨ j = 3 ∨ j = 4 := by simp at hj; omega
    have hk' : k = 0 ∨ k = 1 ∨ k = 2 ∨ k = 3 ∨ k = 4 := by simp at hk; omega
    rcases hj' with rfl | rfl | rfl | rfl | rfl <;> rcases hk' with rfl | rfl | rfl | rfl | rfl <;> first | exact absurd rfl hjk | (simp only; omega)
  · have hk' : k = 0 ∨ k = 1 ∨ k = 2 ∨ k = 3 ∨ k = 4 := by simp at hk; omega
    rcases hk' with rfl | rfl | rfl | rfl | rfl <;> (simp only; omega)
end Go.Proofs.YtandllekeimpgaaGreat
