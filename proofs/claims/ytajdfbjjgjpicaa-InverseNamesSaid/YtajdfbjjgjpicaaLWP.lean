/- Layer 9: what is being eliminated, as it lies in memory. -/
import Derived.Test.YtajdfbjjgjpicaaLW1
import Derived.Test.YtajdfbjjgjpicaaMX4
import Derived.Test.YtajdfbjjgjpicaaReg
namespace Go.Proofs.Ytajdfbjjgjpicaa
open Go.RowKit Fl Ieee
set_option maxRecDepth 20000
def sgI (s : Bool) : Int := if s then -1 else 1
theorem sgI_not (s : Bool) : sgI (!s) = - sgI s := by cases s <;> rfl
/-- What is being eliminated: its cell, and its table. -/
structure Lo (W : World) (B b q p n qc pc : Nat) (g c : Nat → Nat) (S : El) : Prop where
  box : W.heap[b]? = some (.cells #[.bool true, .slice (some ⟨q, 0, none⟩) n qc, .slice (some ⟨p, 0, none⟩) n pc, .int .i64 (sgI S.s)] 104)
  tab : Tab W B q p n g c S.E S.o
  bB : B ≤ b
  bq : b ≠ q
  bp : b ≠ p
  bg : ∀ i, i < n → g i ≠ b
theorem box4 {w : World} {b : Nat} {x y z u : Value} {t : TypeId} (hx : w.heap[b]? = some (.cells #[x, y, z, u] t)) :
    w.cell? ⟨b, 0, none⟩ = some x ∧ w.cell? ⟨b, 1, none⟩ = some y ∧ w.cell? ⟨b, 2, none⟩ = some z ∧ w.cell? ⟨b, 3, none⟩ = some u ∧ (∀ j, w.frozen? ⟨b, j, none⟩ = false) := by
  refine ⟨?_, ?_, ?_, ?_, fun j => frozen_of_row w b j _ _ hx⟩
  · rw [cell_of_row w b 0 _ _ _ hx]; rfl
  · rw [cell_of_row w b 1 _ _ _ hx]; rfl
  · rw [cell_of_row w b 2 _ _ _ hx]; rfl
  · rw [cell_of_row w b 3 _ _ _ hx]; rfl
theorem row_lt' {Z : World} {b : Nat} {o : Obj} (hr : Z.heap[b]? = some o) : b < Z.heap.size := by
  rcases Nat.lt_or_ge b Z.heap.size with h1 | h1
  · exact h1
  · rw [Array.getElem?_eq_none h1] at hr; cases hr
namespace Lo
variable {W V : World} {B b q p n qc pc : Nat} {g c : Nat → Nat} {S : El}
theorem below (h : Lo W B b q p n qc pc g c S) (hb : Below W.heap.size W V) : Lo V B b q p n qc pc g c S :=
  { h with
    box := (hb.block b (row_lt' h.box)).trans h.box
    tab := h.tab.below hb }
theorem lt (h : Lo W B b q p n qc pc g c S) : b < W.heap.size := row_lt' h.box
/-- Rows k and v are changed, v another than k. -/
theorem swap {k v : Nat} (h : Lo W B b q p n qc pc g c S) (hk : k < n) (hv : v < n) (hne : v ≠ k) :
    Lo (((((W.setCell ⟨q, k, none⟩ (.slice (some ⟨g v, 0, none⟩) n (c v))).setCell ⟨q, v, none⟩ (.slice (some ⟨g k, 0, none⟩) n (c k))).setCell ⟨p, k, none⟩ (.int .i64 (S.o v : Nat))).setCell ⟨p, v, none⟩ (.int .i64 (S.o k : Nat))).setCell ⟨b, 3, none⟩ (.int .i64 (- sgI S.s)))
      B b q p n qc pc (fun i => g (xch k v i)) (fun i => c (xch k v i)) (elSwap k v S) where
  box := by
    have e1 : ((((W.setCell ⟨q, k, none⟩ (.slice (some ⟨g v, 0, none⟩) n (c v))).setCell ⟨q, v, none⟩ (.slice (some ⟨g k, 0, none⟩) n (c k))).setCell ⟨p, k, none⟩ (.int .i64 (S.o v : Nat))).setCell ⟨p, v, none⟩ (.int .i64 (S.o k : Nat))).heap[b]? = some (.cells #[.bool true, .slice (some ⟨q, 0, none⟩) n qc, .slice (some ⟨p, 0, none⟩) n pc, .int .i64 (sgI S.s)] 104) := by
      rw [Below.heap_setCell _ _ _ _ h.bp, Below.heap_setCell _ _ _ _ h.bp, Below.heap_setCell _ _ _ _ h.bq, Below.heap_setCell _ _ _ _ h.bq]
      exact h.box
    rw [heap_setCell_same _ b 3 _ _ _ e1]
    have e2 : (elSwap k v S).s = !S.s := by unfold elSwap; rw [if_neg hne]
    rw [e2, sgI_not]; rfl
  tab := (h.tab.swap hk hv).setOther (fun e => h.bq e.symm) (fun e => h.bp e.symm) (fun i hi => h.bg _ (xch_lt hk hv hi)) _
  bB := h.bB
  bq := h.bq
  bp := h.bp
  bg i hi := h.bg _ (xch_lt hk hv hi)
theorem same {k : Nat} (h : Lo W B b q p n qc pc g c S) : Lo W B b q p n qc pc g c (elSwap k k S) := by
  have e : elSwap k k S = S := by
    unfold elSwap
    rw [if_pos rfl, show (fun i => S.E (xch k k i)) = S.E from funext fun i => by rw [xch_self], show (fun i => S.o (xch k k i)) = S.o from funext fun i => by rw [xch_self]]
  rw [e]; exact h
theorem set {i j : Nat} {z : C} {Z : Mat} {o : Nat → Nat} {s : Bool} (h : Lo W B b q p n qc pc g c ⟨Z, o, s⟩) (hi : i < n) (hj : j < n) (hz : ltC z) : Lo (W.setCell ⟨g i, j, none⟩ (.complex .f64 z.1 z.2)) B b q p n qc pc g c ⟨upd Z i j z, o, s⟩ :=
  { h with
    box := (Below.heap_setCell _ _ _ _ (fun e => h.bg i hi e.symm)).trans h.box
    tab := h.tab.set hi hj hz }
end Lo
theorem mk_rowGe (W : World) (n : Nat) : rowGe (W.alloc (.cells (madeCells #[.complex .f64 0 0] n) 53)) W.heap.size 53 n (fun _ => .complex .f64 0 0) := by
  obtain ⟨c, h1, h2, h3⟩ := World.rowIs_made W (.complex .f64 0 0) n 53
  exact ⟨c, h1, by omega, h3⟩
/-- A number that is v, or v up to NaN. -/
def like (z v : C) : Prop := z = v ∨ cnC z = v
theorem like.fin {z v : C} (h : like z v) (hf : pFinite v = true) : z = v := by
  rcases h with h | h
  · exact h
  · obtain ⟨-, -, n1, n2, -, -⟩ := fin_parts hf
    have e1 : z.1 = v.1 := cn_only' (congrArg Prod.fst h) n1
    have e2 : z.2 = v.2 := cn_only' (congrArg Prod.snd h) n2
    exact Prod.ext e1 e2
/-- The rows ahead of row i are eliminated. -/
def ElimR (E Z : Mat) (n k i : Nat) : Prop := ∀ a b, a < n → b < n → (a < i → like (Z a b) (elE E k a b)) ∧ (i ≤ a → Z a b = E a b)
/-- Row i too, up to place j; its factor is not there yet. -/
def RowR (E Z : Mat) (n k i j : Nat) : Prop := ∀ a b, a < n → b < n → (a < i → like (Z a b) (elE E k a b)) ∧ (i < a → Z a b = E a b) ∧ (a = i → k < b → b < j → like (Z a b) (elE E k a b)) ∧ (a = i → (b ≤ k ∨ j ≤ b) → Z a b = E a b)
theorem ElimR.start (E : Mat) (n k : Nat) : ElimR E E n k (k + 1) := fun a b _ _ => ⟨fun h => .inl (elE_old (by omega)).symm, fun _ => rfl⟩
theorem ElimR.old {E Z : Mat} {n k i a b : Nat} (h : ElimR E Z n k i) (hf : finTo E n) (ha : a ≤ k) (hki : k < i) (han : a < n) (hb : b < n) : Z a b = E a b := by
  have h1 := (h a b han hb).1 (by omega)
  rw [elE_old ha] at h1
  exact h1.fin (hf a b han hb)
theorem RowR.start {E Z : Mat} {n k i : Nat} (h : ElimR E Z n k i) : RowR E Z n k i (k + 1) := fun a b ha hb =>
  ⟨(h a b ha hb).1, fun h2 => (h a b ha hb).2 (by omega), fun _ h3 h4 => by omega, fun e _ => (h a b ha hb).2 (by omega)⟩
theorem RowR.old {E Z : Mat} {n k i j a b : Nat} (h : RowR E Z n k i j) (hf : finTo E n) (ha : a ≤ k) (hki : k < i) (han : a < n) (hb : b < n) : Z a b = E a b := by
  have h1 := (h a b han hb).1 (by omega)
  rw [elE_old ha] at h1
  exact h1.fin (hf a b han hb)
theorem RowR.next {E Z : Mat} {n k i j : Nat} {z : C} (h : RowR E Z n k i j) (hkj : k < j) (hz : like z (elE E k i j)) : RowR E (upd Z i j z) n k i (j + 1) := fun a b ha hb => by
  obtain ⟨h1, h2, h3, h4⟩ := h a b ha hb
  refine ⟨fun e => ?_, fun e => ?_, fun e e2 e3 => ?_, fun e e2 => ?_⟩
  · rw [upd_other (by omega)]; exact h1 e
  · rw [upd_other (by omega)]; exact h2 e
  · by_cases hj : b = j
    · subst e hj; rw [upd_same]; exact hz
    · rw [upd_other (by omega)]; exact h3 e e2 (by omega)
  · rw [upd_other (by omega)]; exact h4 e (by omega)
theorem RowR.finish {E Z : Mat} {n k i : Nat} {z : C} (h : RowR E Z n k i n) (hki : k < i) (hz : like z (elE E k i k)) : ElimR E (upd Z i k z) n k (i + 1) := fun a b ha hb => by
  obtain ⟨h1, h2, h3, h4⟩ := h a b ha hb
  refine ⟨fun e => ?_, fun e => ?_⟩
  · by_cases hi : a = i
    · subst hi
      by_cases hk : b = k
      · subst hk; rw [upd_same]; exact hz
      · rw [upd_other (by omega)]
        rcases Nat.lt_or_ge k b with h5 | h5
        · exact h3 rfl h5 hb
        · rw [elE_left (by omega)]; exact .inl (h4 rfl (.inl h5))
    · rw [upd_other (by omega)]; exact h1 (by omega)
  · rw [upd_other (by omega)]; exact h2 (by omega)
theorem ElimR.done {E Z : Mat} {n k : Nat} (h : ElimR E Z n k n) (hf : finTo E n) (hk : k < n) (hfine : fineTo (elE E k) n k (n - (k + 1)) = true) (a b : Nat) (ha : a < n) (hb : b < n) : Z a b = elE E k a b := by
  refine ((h a b ha hb).1 ha).fin ?_
  rw [fineTo_all hk] at hfine
  rcases Nat.lt_or_ge k a with h1 | h1
  · rcases Nat.lt_or_ge b k with h2 | h2
    · rw [elE_left h2]; exact hf a b ha hb
    · exact hfine a b h1 (by omega) h2 hb
  · rw [elE_old h1]; exact hf a b ha hb
def Rel2 (B b q p n qc pc k : Nat) (g c : Nat → Nat) (S : El) (w : World) (fv iv : Value) (wr : World) : Prop :=
  ∃ (i : Nat) (Z : Mat), k < i ∧ i ≤ n ∧ iv = .int .i64 (i : Nat) ∧ fv = .bool (fineTo (elE S.E k) n k (i - (k + 1))) ∧ Lo wr B b q p n qc pc g c ⟨Z, S.o, S.s⟩ ∧ ElimR S.E Z n k i ∧ Below B w wr
def Rel3 (B b q p n qc pc k i : Nat) (g c : Nat → Nat) (S : El) (f0 : Bool) (w : World) (fv jv : Value) (wr : World) : Prop :=
  ∃ (j : Nat) (Z : Mat), k < j ∧ j ≤ n ∧ jv = .int .i64 (j : Nat) ∧ fv = .bool (f0 && fineRow (elE S.E k) k i (j - (k + 1))) ∧ Lo wr B b q p n qc pc g c ⟨Z, S.o, S.s⟩ ∧ RowR S.E Z n k i j ∧ Below B w wr
def Put (B b q p n qc pc : Nat) (g c : Nat → Nat) (S : El) (Z : Mat) (k i j : Nat) (w wx : World) : Prop :=
  ∃ z : C, cnC z = elE S.E k i j ∧ ltC z ∧ Lo wx B b q p n qc pc g c ⟨upd Z i j z, S.o, S.s⟩ ∧ Below B w wx
def Fin1 (f : Bool) (B : Nat) (w : World) (s : Value) (wx : World) : Prop := s = .bool f ∧ Below B w wx
end Go.Proofs.Ytajdfbjjgjpicaa
