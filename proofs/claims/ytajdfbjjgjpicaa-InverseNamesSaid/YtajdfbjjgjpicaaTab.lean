/- A table of numbers: a list of rows, each a block of its own, and an order beside it. -/
import Derived.Test.YtajdfbjjgjpicaaMX1
import Derived.Test.YtajdfbjjgjpicaaEL0
import Derived.Deep.OwnRows
namespace Go.Proofs.Ytajdfbjjgjpicaa
open Go.RowKit Fl Ieee
set_option maxRecDepth 20000
/-- Block b's first n cells, none frozen, by their index. -/
def rowGe (W : World) (b : Nat) (t : TypeId) (n : Nat) (f : Nat → Value) : Prop :=
  ∃ cs : Array Value, W.heap[b]? = some (.cells cs t (0, 0)) ∧ n ≤ cs.size ∧ ∀ i, i < n → cs[i]? = some (f i)
namespace rowGe
variable {W V : World} {b n : Nat} {t : TypeId} {f f' : Nat → Value}
theorem cell (h : rowGe W b t n f) {i : Nat} (hi : i < n) : W.cell? ⟨b, i, none⟩ = some (f i) := by
  obtain ⟨c, hb, _, hc⟩ := h
  simp [World.cell?, hb, hc i hi]
theorem frozen (h : rowGe W b t n f) (i : Nat) : W.frozen? ⟨b, i, none⟩ = false := by
  obtain ⟨c, hb, _, _⟩ := h
  simp [World.frozen?, hb]
theorem lt (h : rowGe W b t n f) : b < W.heap.size := by
  obtain ⟨c, hb, _, _⟩ := h
  obtain ⟨hlt, _⟩ := Array.getElem?_eq_some_iff.1 hb
  exact hlt
theorem congr (h : rowGe W b t n f) (e : ∀ i, i < n → f i = f' i) : rowGe W b t n f' := by
  obtain ⟨c, hb, hn, hc⟩ := h
  exact ⟨c, hb, hn, fun i hi => by rw [hc i hi, e i hi]⟩
theorem of_block (h : rowGe W b t n f) (e : V.heap[b]? = W.heap[b]?) : rowGe V b t n f := by
  obtain ⟨c, hb, hn, hc⟩ := h
  exact ⟨c, e.trans hb, hn, hc⟩
theorem set (h : rowGe W b t n f) (i : Nat) (v : Value) : rowGe (W.setCell ⟨b, i, none⟩ v) b t n (fun j => if j = i then v else f j) := by
  obtain ⟨c, hb, hn, hc⟩ := h
  refine ⟨c.setIfInBounds i v, ?_, by simpa using hn, fun j hj => ?_⟩
  · simp [World.setCell, Array.getElem?_modify, hb]
  · rw [Array.getElem?_setIfInBounds]
    by_cases e : j = i
    · subst e
      simp; omega
    · rw [if_neg (fun h => e h.symm)]
      show c[j]? = some (if j = i then v else f j)
      rw [if_neg e]
      exact hc j hj
theorem setOther (h : rowGe W b t n f) {a : Addr} (ha : b ≠ a.block) (v : Value) : rowGe (W.setCell a v) b t n f := h.of_block (Go.Deep.blk_setCell_other _ _ _ _ ha)
theorem below (h : rowGe W b t n f) {B : Nat} (hb : Below B W V) (hlt : b < B) : rowGe V b t n f := h.of_block (hb.block b hlt)
theorem of_own {B g c : Nat} {xs : List Value} (h : W.ownsRow B t 1 (.slice (some ⟨g, 0, none⟩) n c) n xs) (hf : ∀ i, i < n → xs[i]? = some (f i)) : rowGe W g t n f := by
  rcases h.2 with ⟨h1, _⟩ | ⟨g', cap, cur, hv, hbg, hg, hnc, hcm, hcs, htk⟩
  · cases h1
  · injection hv with e1 e2 e3
    injection e1 with e4
    injection e4 with e5
    subst e5
    refine ⟨cur, hg, by omega, fun i hi => ?_⟩
    have := hf i hi
    rw [← htk, List.getElem?_take, if_pos (by omega)] at this
    simpa using this
end rowGe
/-- The rows of a table (g: where each lies, c: its room), in a list (block q), and an order (block p). -/
structure Tab (W : World) (B q p n : Nat) (g c : Nat → Nat) (Z : Mat) (o : Nat → Nat) : Prop where
  rows : rowGe W q 25 n (fun i => .slice (some ⟨g i, 0, none⟩) n (c i))
  ord : rowGe W p 3 n (fun i => .int .i64 (o i : Nat))
  row : ∀ i, i < n → rowGe W (g i) 53 n (fun j => .complex .f64 (Z i j).1 (Z i j).2)
  inj : ∀ i j, i < n → j < n → g i = g j → i = j
  farq : ∀ i, i < n → g i ≠ q
  farp : ∀ i, i < n → g i ≠ p
  qp : q ≠ p
  gB : ∀ i, i < n → B ≤ g i
  qB : B ≤ q
  pB : B ≤ p
  cap : ∀ i, i < n → n ≤ c i
  lt : ∀ i j, i < n → j < n → ltC (Z i j)
/-- One number is another. -/
def upd (Z : Mat) (i j : Nat) (z : C) : Mat := fun a b => if a = i ∧ b = j then z else Z a b
theorem upd_same (Z : Mat) (i j : Nat) (z : C) : upd Z i j z i j = z := if_pos ⟨rfl, rfl⟩
theorem upd_other {Z : Mat} {i j a b : Nat} {z : C} (h : ¬ (a = i ∧ b = j)) : upd Z i j z a b = Z a b := if_neg h
namespace Tab
variable {W V : World} {B q p n : Nat} {g c o : Nat → Nat} {Z Z' : Mat}
theorem below (h : Tab W B q p n g c Z o) (hb : Below W.heap.size W V) : Tab V B q p n g c Z o :=
  { h with
    rows := h.rows.below hb h.rows.lt
    ord := h.ord.below hb h.ord.lt
    row := fun i hi => (h.row i hi).below hb (h.row i hi).lt }
theorem congr (h : Tab W B q p n g c Z o) (e : ∀ i j, i < n → j < n → Z i j = Z' i j) : Tab W B q p n g c Z' o :=
  { h with
    row := fun i hi => (h.row i hi).congr fun j hj => by rw [e i j hi hj]
    lt := fun i j hi hj => by rw [← e i j hi hj]; exact h.lt i j hi hj }
/-- One number is written. -/
theorem set {i j : Nat} {z : C} (h : Tab W B q p n g c Z o) (hi : i < n) (_hj : j < n) (hz : ltC z) : Tab (W.setCell ⟨g i, j, none⟩ (.complex .f64 z.1 z.2)) B q p n g c (upd Z i j z) o :=
  { h with
    rows := h.rows.setOther (fun e => h.farq i hi e.symm) _
    ord := h.ord.setOther (fun e => h.farp i hi e.symm) _
    row := fun a ha => by
      by_cases e : a = i
      · subst e
        refine ((h.row a hi).set j _).congr fun b hb => ?_
        by_cases e2 : b = j
        · subst e2; rw [if_pos rfl, upd_same]
        · rw [if_neg e2, upd_other (fun h => e2 h.2)]
      · refine ((h.row a ha).setOther (fun e2 => e (h.inj a i ha hi e2)) _).congr fun b hb => ?_
        rw [upd_other (fun h => e h.1)]
    lt := fun a b ha hb => by
      by_cases e : a = i ∧ b = j
      · rw [e.1, e.2, upd_same]; exact hz
      · rw [upd_other e]; exact h.lt a b ha hb }
/-- Rows k and v are changed. -/
theorem swap {k v : Nat} (h : Tab W B q p n g c Z o) (hk : k < n) (hv : v < n) :
    Tab ((((W.setCell ⟨q, k, none⟩ (.slice (some ⟨g v, 0, none⟩) n (c v))).setCell ⟨q, v, none⟩ (.slice (some ⟨g k, 0, none⟩) n (c k))).setCell ⟨p, k, none⟩ (.int .i64 (o v : Nat))).setCell ⟨p, v, none⟩ (.int .i64 (o k : Nat)))
      B q p n (fun i => g (xch k v i)) (fun i => c (xch k v i)) (fun i => Z (xch k v i)) (fun i => o (xch k v i)) where
  rows := by
    refine (((((h.rows.set k _).set v _).setOther ?_ _).setOther ?_ _)).congr fun i hi => ?_
    · exact h.qp
    · exact h.qp
    · unfold xch
      by_cases e1 : i = v
      · subst e1
        rw [if_pos rfl]
        by_cases e2 : i = k
        · subst e2; rw [if_pos rfl]
        · rw [if_neg e2, if_pos rfl]
      · rw [if_neg e1]
        by_cases e2 : i = k
        · subst e2; rw [if_pos rfl, if_pos rfl]
        · rw [if_neg e2, if_neg e2, if_neg e1]
  ord := by
    refine (((((h.ord.setOther ?_ _).setOther ?_ _).set k _).set v _)).congr fun i hi => ?_
    · exact fun e => h.qp e.symm
    · exact fun e => h.qp e.symm
    · unfold xch
      by_cases e1 : i = v
      · subst e1
        rw [if_pos rfl]
        by_cases e2 : i = k
        · subst e2; rw [if_pos rfl]
        · rw [if_neg e2, if_pos rfl]
      · rw [if_neg e1]
        by_cases e2 : i = k
        · subst e2; rw [if_pos rfl, if_pos rfl]
        · rw [if_neg e2, if_neg e2, if_neg e1]
  row i hi := by
    have hx := xch_lt hk hv hi
    exact (((((h.row _ hx).setOther (h.farq _ hx) _).setOther (h.farq _ hx) _).setOther (h.farp _ hx) _).setOther (h.farp _ hx) _)
  inj i j hi hj e := xch_inj (h.inj _ _ (xch_lt hk hv hi) (xch_lt hk hv hj) e)
  farq i hi := h.farq _ (xch_lt hk hv hi)
  farp i hi := h.farp _ (xch_lt hk hv hi)
  qp := h.qp
  gB i hi := h.gB _ (xch_lt hk hv hi)
  qB := h.qB
  pB := h.pB
  cap i hi := h.cap _ (xch_lt hk hv hi)
  lt i j hi hj := h.lt _ _ (xch_lt hk hv hi) hj
/-- A store elsewhere. -/
theorem setOther {a : Addr} (h : Tab W B q p n g c Z o) (h1 : q ≠ a.block) (h2 : p ≠ a.block) (h3 : ∀ i, i < n → g i ≠ a.block) (v : Value) : Tab (W.setCell a v) B q p n g c Z o :=
  { h with
    rows := h.rows.setOther h1 _
    ord := h.ord.setOther h2 _
    row := fun i hi => (h.row i hi).setOther (h3 i hi) _ }
/-- Row i as a list that reads. -/
theorem cellZ (h : Tab W B q p n g c Z o) {i j : Nat} (hi : i < n) (hj : j < n) : W.cell? ⟨g i, j, none⟩ = some (.complex .f64 (Z i j).1 (Z i j).2) := (h.row i hi).cell hj
theorem cellS (h : Tab W B q p n g c Z o) {i : Nat} (hi : i < n) : W.cell? ⟨q, i, none⟩ = some (.slice (some ⟨g i, 0, none⟩) n (c i)) := h.rows.cell hi
theorem cellO (h : Tab W B q p n g c Z o) {i : Nat} (hi : i < n) : W.cell? ⟨p, i, none⟩ = some (.int .i64 (o i : Nat)) := h.ord.cell hi
end Tab
end Go.Proofs.Ytajdfbjjgjpicaa
