/- Layer 9, the document's answer: the whole elimination (gridworkref09.Of). -/
import Derived.Test.YtandllekeimpgaaGreatRC1
import Derived.Test.YtandllekeimpgaaGreatLW3
namespace Go.Proofs.YtandllekeimpgaaGreat
open Go.RowKit Fl Ieee
set_option maxRecDepth 20000
attribute [local go_sem] run_store_float run_store_complex
/-- What lies in the list of rows, each with its room. -/
def rowVals9 (g c : Nat → Nat) (n k : Nat) : List Value := (List.range k).map fun i => .slice (some ⟨g i, 0, none⟩) n (c i)
theorem rowVals9_succ (g c : Nat → Nat) (n k : Nat) : rowVals9 g c n (k + 1) = rowVals9 g c n k ++ [.slice (some ⟨g k, 0, none⟩) n (c k)] := by
  unfold rowVals9; rw [List.range_succ, List.map_append]; rfl
theorem rowVals9_congr {g g' c c' : Nat → Nat} {n k : Nat} (h : ∀ i, i < k → g i = g' i) (h2 : ∀ i, i < k → c i = c' i) : rowVals9 g c n k = rowVals9 g' c' n k :=
  List.map_congr_left fun i hi => by rw [h i (List.mem_range.1 hi), h2 i (List.mem_range.1 hi)]
/-- k rows have been laid, kr of them are in the list, ko in the order. -/
structure rSt (W0 W : World) (b n k kr ko : Nat) (Z : Mat) (g c : Nat → Nat) (sR sO : Value) : Prop where
  box : W.heap[b]? = some (.cells #[.int .i64 (n : Nat), sR, sO, .bool false, .bool false, .bool true] 81)
  rows : W.ownsRow (b + 1) 25 1 sR kr (rowVals9 g c n kr)
  ord : W.ownsRow (b + 1) 3 1 sO ko (ordVals ko)
  row : ∀ i, i < k → rowGe W (g i) 60 n (fun j => .complex .f64 (Z i j).1 (Z i j).2)
  gB : ∀ i, i < k → b + 1 ≤ g i
  inj : ∀ i j, i < k → j < k → g i = g j → i = j
  offR : ∀ i, i < k → sR.ownBlock ≠ some (g i)
  offO : ∀ i, i < k → sO.ownBlock ≠ some (g i)
  ro : ∀ c, sR.ownBlock = some c → sO.ownBlock ≠ some c
  cap : ∀ i, i < k → n ≤ c i
  bel : Below b W0 W
namespace rSt
variable {W0 W V : World} {b n k kr ko : Nat} {Z : Mat} {g c : Nat → Nat} {sR sO : Value}
theorem below (h : rSt W0 W b n k kr ko Z g c sR sO) (hb : Below W.heap.size W V) : rSt W0 V b n k kr ko Z g c sR sO :=
  { h with
    box := row_keep hb h.box
    rows := own_below h.rows hb
    ord := own_below h.ord hb
    row := fun i hi => (h.row i hi).below hb (h.row i hi).lt
    bel := h.bel.trans (hb.mono (Nat.le_of_lt (row_lt h.box))) }
theorem cells (h : rSt W0 W b n k kr ko Z g c sR sO) : W.cell? ⟨b, 1, none⟩ = some sR ∧ W.cell? ⟨b, 2, none⟩ = some sO ∧ (∀ j, W.frozen? ⟨b, j, none⟩ = false) := by
  obtain ⟨-, y, z, -, -, -, f⟩ := box6 h.box
  exact ⟨y, z, f⟩
/-- A row more. -/
theorem new {N cN : Nat} (h : rSt W0 W b n k kr ko Z g c sR sO) (hb : Below W.heap.size W V) (hN : W.heap.size ≤ N) (hr : rowGe V N 60 n (fun j => .complex .f64 (Z k j).1 (Z k j).2)) (_hkr : kr ≤ k) (hcN : n ≤ cN) :
    rSt W0 V b n (k + 1) kr ko Z (fun i => if i = k then N else g i) (fun i => if i = k then cN else c i) sR sO := by
  have h' := h.below hb
  have hbl := row_lt h.box
  have hlt : ∀ i, i < k → g i < N := fun i hi => Nat.lt_of_lt_of_le (h.row i hi).lt hN
  have eg : ∀ i, i < k → (if i = k then N else g i) = g i := fun i hi => if_neg (by omega)
  have ek : (if k = k then N else g k) = N := if_pos rfl
  have eg2 : ∀ i, i < k → (if i = k then cN else c i) = c i := fun i hi => if_neg (by omega)
  refine { h' with rows := ?_, row := ?_, gB := ?_, inj := ?_, offR := ?_, offO := ?_, cap := ?_ }
  · rw [rowVals9_congr (fun i hi => eg i (by omega)) (fun i hi => eg2 i (by omega))]; exact h'.rows
  · intro i hi
    by_cases e : i = k
    · subst e; rw [ek]; exact hr
    · rw [eg i (by omega)]; exact h'.row i (by omega)
  · intro i hi
    by_cases e : i = k
    · subst e; rw [ek]; omega
    · rw [eg i (by omega)]; exact h.gB i (by omega)
  · intro i j hi hj e
    by_cases e1 : i = k
    · by_cases e2 : j = k
      · omega
      · rw [e1, ek, eg j (by omega)] at e
        have := hlt j (by omega); omega
    · by_cases e2 : j = k
      · rw [e2, ek, eg i (by omega)] at e
        have := hlt i (by omega); omega
      · rw [eg i (by omega), eg j (by omega)] at e
        exact h.inj i j (by omega) (by omega) e
  · intro i hi e
    by_cases e1 : i = k
    · rw [e1, ek] at e
      have := (h.rows.lt _ e).2; omega
    · rw [eg i (by omega)] at e
      exact h.offR i (by omega) e
  · intro i hi e
    by_cases e1 : i = k
    · rw [e1, ek] at e
      have := (h.ord.lt _ e).2; omega
    · rw [eg i (by omega)] at e
      exact h.offO i (by omega) e
  · intro i hi
    by_cases e1 : i = k
    · rw [if_pos e1]; exact hcN
    · rw [if_neg e1]; exact h.cap i (by omega)
/-- A row is put into the list. -/
theorem appR {o : Obj} {v' : Value} {w1 : World} (h : rSt W0 W b n k kr ko Z g c sR sO)
    (hown : w1.ownsRow (b + 1) 25 1 v' (kr + 1) (rowVals9 g c n kr ++ [.slice (some ⟨g kr, 0, none⟩) n (c kr)]))
    (hgr : (W.alloc o).grownBy w1 sR.ownBlock) (hv : v'.ownBlock = sR.ownBlock ∨ (v'.ownBlock = some (W.alloc o).heap.size ∧ (W.alloc o).grownBy w1 none)) :
    w1.cell? ⟨b, 1, none⟩ = some sR ∧ w1.cell? ⟨b, 2, none⟩ = some sO ∧ (∀ j, w1.frozen? ⟨b, j, none⟩ = false) ∧ rSt W0 (w1.setCell ⟨b, 1, none⟩ v') b n k (kr + 1) ko Z g c v' sO := by
  have hs : (W.alloc o).heap.size = W.heap.size + 1 := by simp
  have hbl := row_lt h.box
  have FB : ∀ p, p < W.heap.size → sR.ownBlock ≠ some p → w1.heap[p]? = W.heap[p]? := fun p hp hne =>
    (hgr.block p (by omega) (fun e => hne e.symm)).trans (Below.heap_alloc W o p hp)
  have hbR : sR.ownBlock ≠ some b := fun e => by have := (h.rows.lt _ e).1; omega
  have hbx := (FB b hbl hbR).trans h.box
  obtain ⟨-, y, z, -, -, -, f⟩ := box6 hbx
  have hgO : ∀ c, v'.ownBlock = some c → sO.ownBlock ≠ some c := fun c hc e => by
    rcases hv with h1 | ⟨h1, -⟩
    · exact h.ro c (h1.symm.trans hc) e
    · rw [h1] at hc
      injection hc with hc
      have := (h.ord.lt _ e).2; omega
  refine ⟨y, z, f, ?_⟩
  refine { h with box := ?_, rows := ?_, ord := ?_, row := ?_, offR := ?_, ro := hgO, bel := ?_ }
  · rw [heap_setCell_same _ b 1 _ _ _ hbx]; rfl
  · rw [rowVals9_succ]
    exact ownsRow_setCell_below hown (by show b < b + 1; omega) _
  · refine ownsRow_setCell_below ((h.ord.alloc o).kept hgr ?_) (by show b < b + 1; omega) _
    by_cases e : sO.ownBlock = none
    · exact .inl e
    · refine .inr fun e2 => ?_
      cases hc : sR.ownBlock with
      | none => rw [hc] at e2; exact e e2
      | some c => rw [hc] at e2; exact h.ro c hc e2
  · intro i hi
    refine ((h.row i hi).of_block (FB _ (h.row i hi).lt (h.offR i hi))).setOther ?_ _
    show g i ≠ b
    have := h.gB i hi; omega
  · intro i hi e
    rcases hv with h1 | ⟨h1, -⟩
    · exact h.offR i hi (h1.symm.trans e)
    · rw [h1] at e
      injection e with e
      have := (h.row i hi).lt; omega
  · exact ((h.bel.alloc (Nat.le_of_lt hbl) o).grown hgr (by omega) (fun j hj => by have := (h.rows.lt j hj).1; omega)).setCell (Nat.le_refl _) _
/-- A number is put into the order. -/
theorem appO {o : Obj} {v' : Value} {w1 : World} (h : rSt W0 W b n k kr ko Z g c sR sO)
    (hown : w1.ownsRow (b + 1) 3 1 v' (ko + 1) (ordVals ko ++ [.int .i64 (ko : Nat)]))
    (hgr : (W.alloc o).grownBy w1 sO.ownBlock) (hv : v'.ownBlock = sO.ownBlock ∨ (v'.ownBlock = some (W.alloc o).heap.size ∧ (W.alloc o).grownBy w1 none)) :
    w1.cell? ⟨b, 2, none⟩ = some sO ∧ (∀ j, w1.frozen? ⟨b, j, none⟩ = false) ∧ rSt W0 (w1.setCell ⟨b, 2, none⟩ v') b n k kr (ko + 1) Z g c sR v' := by
  have hs : (W.alloc o).heap.size = W.heap.size + 1 := by simp
  have hbl := row_lt h.box
  have FB : ∀ p, p < W.heap.size → sO.ownBlock ≠ some p → w1.heap[p]? = W.heap[p]? := fun p hp hne =>
    (hgr.block p (by omega) (fun e => hne e.symm)).trans (Below.heap_alloc W o p hp)
  have hbO : sO.ownBlock ≠ some b := fun e => by have := (h.ord.lt _ e).1; omega
  have hbx := (FB b hbl hbO).trans h.box
  obtain ⟨-, -, z, -, -, -, f⟩ := box6 hbx
  have hgO : ∀ c, sR.ownBlock = some c → v'.ownBlock ≠ some c := fun c hc e => by
    rcases hv with h1 | ⟨h1, -⟩
    · exact h.ro c hc (h1.symm.trans e)
    · rw [h1] at e
      injection e with e
      have := (h.rows.lt _ hc).2; omega
  refine ⟨z, f, ?_⟩
  refine { h with box := ?_, rows := ?_, ord := ?_, row := ?_, offO := ?_, ro := hgO, bel := ?_ }
  · rw [heap_setCell_same _ b 2 _ _ _ hbx]; rfl
  · refine ownsRow_setCell_below ((h.rows.alloc o).kept hgr ?_) (by show b < b + 1; omega) _
    by_cases e : sR.ownBlock = none
    · exact .inl e
    · refine .inr fun e2 => ?_
      cases hc : sR.ownBlock with
      | none => exact e hc
      | some c => exact h.ro c hc (e2.symm.trans hc)
  · rw [ordVals_succ]
    exact ownsRow_setCell_below hown (by show b < b + 1; omega) _
  · intro i hi
    refine ((h.row i hi).of_block (FB _ (h.row i hi).lt (h.offO i hi))).setOther ?_ _
    show g i ≠ b
    have := h.gB i hi; omega
  · intro i hi e
    rcases hv with h1 | ⟨h1, -⟩
    · exact h.offO i hi (h1.symm.trans e)
    · rw [h1] at e
      injection e with e
      have := (h.row i hi).lt; omega
  · exact ((h.bel.alloc (Nat.le_of_lt hbl) o).grown hgr (by omega) (fun j hj => by have := (h.ord.lt j hj).1; omega)).setCell (Nat.le_refl _) _
/-- All rows are laid. -/
theorem lo {B : Nat} (h : rSt W0 W b n n n n Z g c sR sO) (hn : 0 < n) (hB : B ≤ b) (hlt : ∀ i j, i < n → j < n → ltC (Z i j)) : ∃ q p qc pc, rLo W B b q p n qc pc g c ⟨Z, id, false⟩ false := by
  obtain ⟨q, qc, rfl, hq, -⟩ := h.rows.form hn
  obtain ⟨p, pc, rfl, hp, -⟩ := h.ord.form hn
  refine ⟨q, p, qc, pc, ?_⟩
  exact
    { box := h.box
      tab :=
        { rows := rowGe.of_own h.rows fun i hi => by simp [rowVals9, hi]
          ord := rowGe.of_own h.ord fun i hi => by simp [ordVals, hi]
          row := h.row
          inj := h.inj
          farq := fun i hi e => h.offR i hi (by rw [e]; rfl)
          farp := fun i hi e => h.offO i hi (by rw [e]; rfl)
          qp := fun e => h.ro q rfl (by rw [e]; rfl)
          gB := fun i hi => by have := h.gB i hi; omega
          qB := by omega
          pB := by omega
          cap := h.cap
          lt := hlt }
      bB := hB
      bq := by omega
      bp := by omega
      bg := fun i hi => by have := h.gB i hi; omega }
end rSt
theorem rst_app {w1 w2 w3 : World} {n k b b' N cN : Nat} {Z : Mat} {g c : Nat → Nat} {sR sO v' : Value} {o : Obj} (h : rSt w1 w2 b n (k + 1) k k Z g c sR sO) (hb' : b = b') (hg : g k = N) (hc : c k = cN)
    (hown : w3.ownsRow (b + 1) 25 1 v' (k + 1) (rowVals9 g c n k ++ [.slice (some ⟨N, 0, none⟩) n cN]))
    (hgr : (w2.alloc o).grownBy w3 sR.ownBlock) (hv : v'.ownBlock = sR.ownBlock ∨ (v'.ownBlock = some (w2.alloc o).heap.size ∧ (w2.alloc o).grownBy w3 none)) :
    w3.cell? ⟨b', 1, none⟩ = some sR ∧ w3.cell? ⟨b', 2, none⟩ = some sO ∧ w3.frozen? ⟨b', 1, none⟩ = false ∧ rSt w1 (w3.setCell ⟨b', 1, none⟩ v') b n (k + 1) (k + 1) k Z g c v' sO := by
  subst hb' hg hc
  obtain ⟨a1, a2, a3, a4⟩ := h.appR hown hgr hv
  exact ⟨a1, a2, a3 1, a4⟩
theorem rst_ord {w1 w2 w3 : World} {n k b b' : Nat} {Z : Mat} {g c : Nat → Nat} {sR sO v' : Value} {o : Obj} (h : rSt w1 w2 b n (k + 1) (k + 1) k Z g c sR sO) (hb' : b = b')
    (hown : w3.ownsRow (b + 1) 3 1 v' (k + 1) (ordVals k ++ [.int .i64 (k : Nat)]))
    (hgr : (w2.alloc o).grownBy w3 sO.ownBlock) (hv : v'.ownBlock = sO.ownBlock ∨ (v'.ownBlock = some (w2.alloc o).heap.size ∧ (w2.alloc o).grownBy w3 none)) :
    w3.cell? ⟨b', 2, none⟩ = some sO ∧ w3.frozen? ⟨b', 2, none⟩ = false ∧ rSt w1 (w3.setCell ⟨b', 2, none⟩ v') b n (k + 1) (k + 1) (k + 1) Z g c sR v' := by
  subst hb'
  obtain ⟨a1, a2, a3⟩ := h.appO hown hgr hv
  exact ⟨a1, a2 2, a3⟩
theorem rst_sz {w1 w2 : World} {b n k kr ko : Nat} {Z : Mat} {g c : Nat → Nat} {sR sO : Value} (h : rSt w1 w2 b n k kr ko Z g c sR sO) (o : Obj) : b + 1 ≤ (w2.alloc o).heap.size := by
  have := row_lt h.box; simp; omega
/-- A row that has been laid number by number is put beside the others. -/
theorem rst_row {w1 wr w2 : World} {n k b b' g0 c0 : Nat} {Z : Mat} {g c : Nat → Nat} {sR sO : Value} (h : rSt w1 wr b n k k k Z g c sR sO) (hb' : b = b') (hB : Below wr.heap.size wr w2) (_hn : 0 < n)
    (hown : w2.ownsRow wr.heap.size 60 1 (.slice (some ⟨g0, 0, none⟩) n c0) n (nums ((List.range n).map (Z k)))) :
    ∃ g' c', g' k = g0 ∧ c' k = c0 ∧ rSt w1 w2 b n (k + 1) k k Z g' c' sR sO ∧ w2.cell? ⟨b', 1, none⟩ = some sR := by
  subst hb'
  have hg := (hown.lt g0 rfl).1
  have hr : rowGe w2 g0 60 n (fun j => .complex .f64 (Z k j).1 (Z k j).2) := rowGe.of_own hown fun j hj => by simp [nums, hj]
  obtain ⟨-, hc, -⟩ := own_slice hown
  have h1 := h.new hB hg hr (Nat.le_refl _) hc
  exact ⟨fun i => if i = k then g0 else g i, fun i => if i = k then c0 else c i, if_pos rfl, if_pos rfl, h1, h1.cells.1⟩
theorem shaped_c (r c : Int) (A : Option Addr) (n cap : Nat) (w : World) :
    Calls Tryz.prog 40 #[mval r c (.slice A n cap)] w (RetV (.bool (okM r c n && (r == c))) w) := by
  have bad : ¬ (0 ≤ r ∧ r ≤ 64 ∧ c = r) → (okM r c n && (r == c)) = false := fun h => by
    rw [Bool.eq_false_iff]
    intro h'
    rw [Bool.and_eq_true] at h'
    have h1 := okM_iff.1 h'.1
    have h2 : r = c := by simpa using h'.2
    omega
  by_cases h1 : 0 ≤ r
  · by_cases h2 : r ≤ 64
    · by_cases h3 : c = r
      · subst h3
        obtain ⟨a, rfl⟩ : ∃ a : Nat, c = (a : Int) := ⟨c.toNat, by omega⟩
        have ha : a ≤ 64 := by omega
        have hab : a * a ≤ 64 * 64 := Nat.mul_le_mul ha ha
        obtain ⟨m, hm⟩ : ∃ m, m = a * a := ⟨_, rfl⟩
        have hm1 : wrap64 ((a : Int) * (a : Int)) = (m : Int) := by
          rw [← Int.natCast_mul, ← hm]; unfold wrap64; omega
        have e1 : (okM a a n && ((a : Int) == (a : Int))) = decide (n = m) := by
          rw [hm]
          by_cases h5 : n = a * a
          · rw [decide_eq_true h5, okM_iff.2 ⟨by omega, by omega, by omega, by omega, by rw [h5, Int.natCast_mul]⟩]; simp
          · rw [decide_eq_false h5]
            rw [Bool.eq_false_iff]
            intro h'
            rw [Bool.and_eq_true] at h'
            have := (okM_iff.1 h'.1).2.2.2.2
            rw [← Int.natCast_mul] at this
            omega
        rw [e1]
        clear bad hm hab e1 ha
        by_cases h5 : n = m
        · rw [decide_eq_true h5]
          subst h5
          go_enter Tryz.func40, Tryz.ntmps40
          go_wp2
          go_ret; exact ⟨rfl, below_new _ _⟩
        · have h5d : decide (n = m) = false := decide_eq_false h5
          rw [h5d]
          have h6 : (((n : Nat) : Int) == ((m : Nat) : Int)) = false := by simp; omega
          go_enter Tryz.func40, Tryz.ntmps40
          go_wp2
          go_ret; exact ⟨rfl, below_new _ _⟩
      · rw [bad (fun h => h3 h.2.2)]
        clear bad
        go_enter Tryz.func40, Tryz.ntmps40
        go_wp2
        go_ret; exact ⟨rfl, below_new _ _⟩
    · rw [bad (fun h => h2 h.2.1)]
      clear bad
      go_enter Tryz.func40, Tryz.ntmps40
      go_wp2
      go_ret; exact ⟨rfl, below_new _ _⟩
  · rw [bad (fun h => h1 h.1)]
    clear bad
    go_enter Tryz.func40, Tryz.ntmps40
    go_wp2
    go_ret; exact ⟨rfl, below_new _ _⟩
/-- The document's elimination in memory of its own; of no row: its lists are nil. -/
def rHas (W : World) (B b n : Nat) (S : El) (ti : Bool) : Prop :=
  B ≤ b ∧ ((n = 0 ∧ W.heap[b]? = some (.cells #[.int .i64 (n : Nat), .slice none 0 0, .slice none 0 0, .bool S.s, .bool ti, .bool true] 81)) ∨ (0 < n ∧ ∃ q p qc pc g c, rLo W B b q p n qc pc g c S ti))
theorem rLo.base {W : World} {B B' b q p n qc pc : Nat} {g c : Nat → Nat} {S : El} {ti : Bool} (h : rLo W B b q p n qc pc g c S ti) (hB : B' ≤ B) : rLo W B' b q p n qc pc g c S ti :=
  { h with
    tab := { h.tab with gB := fun i hi => Nat.le_trans hB (h.tab.gB i hi), qB := Nat.le_trans hB h.tab.qB, pB := Nat.le_trans hB h.tab.pB }
    bB := Nat.le_trans hB h.bB }
theorem rLo.keep {W V : World} {B b q p n qc pc : Nat} {g c : Nat → Nat} {S : El} {ti : Bool} (h : rLo W B b q p n qc pc g c S ti) (hk : ∀ j, B ≤ j → j < W.heap.size → V.heap[j]? = W.heap[j]?) : rLo V B b q p n qc pc g c S ti :=
  { h with
    box := (hk b h.bB h.lt).trans h.box
    tab :=
      { h.tab with
        rows := h.tab.rows.of_block (hk q h.tab.qB h.tab.rows.lt)
        ord := h.tab.ord.of_block (hk p h.tab.pB h.tab.ord.lt)
        row := fun i hi => (h.tab.row i hi).of_block (hk _ (h.tab.gB i hi) (h.tab.row i hi).lt) } }
namespace rHas
variable {W V : World} {B B' b n : Nat} {S : El} {ti : Bool}
theorem base (h : rHas W B b n S ti) (hB : B' ≤ B) : rHas W B' b n S ti :=
  ⟨Nat.le_trans hB h.1, h.2.imp id fun ⟨h0, q, p, qc, pc, g, c, hL⟩ => ⟨h0, q, p, qc, pc, g, c, hL.base hB⟩⟩
theorem lt (h : rHas W B b n S ti) : b < W.heap.size := by
  rcases h.2 with ⟨_, h⟩ | ⟨_, q, p, qc, pc, g, c, h⟩
  · exact row_lt h
  · exact h.lt
theorem keep (h : rHas W B b n S ti) (hk : ∀ j, B ≤ j → j < W.heap.size → V.heap[j]? = W.heap[j]?) : rHas V B b n S ti :=
  ⟨h.1, h.2.imp (fun ⟨h0, hx⟩ => ⟨h0, (hk b h.1 (row_lt hx)).trans hx⟩) fun ⟨h0, q, p, qc, pc, g, c, hL⟩ => ⟨h0, q, p, qc, pc, g, c, hL.keep hk⟩⟩
theorem below (h : rHas W B b n S ti) (hb : Below W.heap.size W V) : rHas V B b n S ti :=
  h.keep fun j _ hj => hb.block j hj
theorem other (h : rHas W B b n S ti) {a : Addr} (ha : a.block < B) (v : Value) : rHas (W.setCell a v) B b n S ti :=
  h.keep fun j hj _ => Below.heap_setCell _ _ _ _ (by omega)
end rHas
/-- No two sizes were held against each other that are one, in any column. -/
def NoTies (n : Nat) (S : El) (k : Nat) : Prop := ∀ a, a < k → NoTie n a (elRun n S a).2
def RetROf (f : Int × Int) (n : Nat) (S0' S : El) (w : World) (e : Ending) (w' : World) : Prop :=
  ∃ v, e = .returned (.tuple #[v, .agg #[.int .i64 f.1, .int .i64 f.2]]) ∧ Below w.heap.size w w' ∧ (f.1 = 0 → f = (0, 0) ∧ ∃ b ti, v = .pointer (some ⟨b, 0, none⟩) ∧ rHas w' w.heap.size b n S ti ∧ (ti = false → NoTies n S0' n)) ∧ (f.1 ≠ 0 → v = .pointer none)
theorem rclose9 {w W1 : World} {b : Nat} {f : Int × Int} {n : Nat} {S0' S : El} {x y : Value} (hB : Below w.heap.size w W1) (hb : w.heap.size ≤ b) (hf : f.1 ≠ 0) :
    RetROf f n S0' S w (.returned (.tuple #[.pointer none, .agg #[.int .i64 f.1, .int .i64 f.2]])) ((W1.setCell ⟨b, 0, none⟩ x).setCell ⟨b, 1, none⟩ y) :=
  ⟨_, rfl, (hB.setCell hb _).setCell hb _, fun h => absurd h hf, fun _ => rfl⟩
theorem rOf_shape (r c : Int) (A : Option Addr) (l : List C) (cap : Nat) (w : World) (h : (okM r c l.length && (r == c)) = false) :
    Calls Tryz.prog 19 #[mval r c (.slice A l.length cap)] w (RetROf (ofF r c l) r.toNat (S0 l r.toNat) (ofS r l) w) := by
  have hf : ofF r c l = (4, -1) := by unfold ofF; rw [h]; rfl
  rw [hf]
  have HC := Lib.hid (shaped_c r c A l.length cap)
  rw [h] at HC
  go_enter Tryz.func19, Tryz.ntmps19
  go_wp2_with fail
  refine (HC.out _).mono ?_
  rintro e W1 ⟨rfl, hb⟩
  obtain ⟨-, hrow, hbl, -⟩ := frame9 hb
  obtain ⟨r0, r1, fr⟩ := row2 hrow
  have f0 := fr 0
  have f1 := fr 1
  have HB := Lib.hid hbl
  clear hb hrow fr hbl h hf
  go_wp2
  obtain ⟨q0, q1⟩ := set2 (u := .int .i64 4) (v := .int .i64 (-1)) r0 r1
  refine bodyPost_ret (v := .tuple #[.pointer none, .agg #[.int .i64 4, .int .i64 (-1)]]) (by simp [results, Tryz.results19, go_sem, q0, q1]) rfl ?_
  exact rclose9 (f := (4, -1)) HB.out (by omega) (by decide)
theorem column_e (er : Int) (B b q p n qc pc k : Nat) (g c : Nat → Nat) (S : El) (ti : Bool) (w : World) (hn : n ≤ 64) (hk : k < n) (hL : rLo w B b q p n qc pc g c S ti) (hf : finTo S.E n) (hB : B ≤ w.heap.size) (he : elErr n k S = er) :
    Calls Tryz.prog 42 #[.pointer (some ⟨b, 0, none⟩), .int .i64 (k : Nat)] w fun e w' => e = .returned (.int .i64 er) ∧ Below B w w' ∧ (er = 0 → ∃ g c ti', rLo w' B b q p n qc pc g c (elStep n k S) ti' ∧ (ti' = false → ti = false ∧ NoTie n k S)) :=
  (column_c9 B b q p n qc pc k g c S ti w hn hk hL hf hB).mono fun _ _ ⟨h1, h2, h3⟩ => ⟨by rw [h1, he], h2, fun h => h3 (he.trans h)⟩
theorem range_app {j : Nat} {Z : Nat → C} : nums ((List.range (j + 1)).map Z) = nums ((List.range j).map Z) ++ [.complex .f64 (Z j).1 (Z j).2] := by
  simp [nums, List.range_succ]
set_option maxHeartbeats 8000000 in
theorem rOf_run (n : Nat) (A : Option Addr) (l : List C) (cap : Nat) (w : World) (hn : n ≤ 64) (hl : l.length = n * n) (hrd : Reads w w.heap.size A (nums l)) (hlt : ltCs l) :
    Calls Tryz.prog 19 #[mval n n (.slice A l.length cap)] w (RetROf (ofF n n l) n (S0 l n) (ofS n l) w) := by
  have HC := Lib.hid (shaped_c n n A l.length cap)
  have ho : okM n n l.length = true := okM_iff.2 ⟨by omega, by omega, by omega, by omega, by rw [hl, Int.natCast_mul]⟩
  rw [ho, show (true && ((n : Int) == (n : Int))) = true by simp] at HC
  have hF : ofF n n l = (if badAt l < l.length then (5, (badAt l : Int)) else (elRun n (S0 l n) n).1) := by
    unfold ofF; rw [ho]; simp
  have hS : ofS n l = (elRun n (S0 l n) n).2 := rfl
  obtain ⟨i0, hii, hz0, hz1, hz2⟩ := info_parts infoRowSl
  obtain ⟨j0, hji, hy0, hy1, hy2⟩ := info_parts infoInt9
  obtain ⟨k0, hk0, hx0, hx1, hx2⟩ := info_parts infoNum
  have HF := Lib.hid hF
  have HS := Lib.hid hS
  have HN := Lib.hid hn
  have HL := Lib.hid hl
  have HRd := Lib.hid hrd
  have HLt := Lib.hid hlt
  have hl4 : l.length ≤ 4096 := by rw [hl]; exact prod_small hn hn
  have HL4 := Lib.hid hl4
  clear hn hl hrd hlt ho hF hS hl4
  go_enter Tryz.func19, Tryz.ntmps19
  go_wp2_with fail
  refine (HC.out _).mono ?_
  rintro e W1 ⟨rfl, hb⟩
  obtain ⟨hbx, hrow, hbl, hsz⟩ := frame9 hb
  have HBx := Lib.hid hbx
  obtain ⟨x0, x1, x2⟩ := hbx
  have HRow := Lib.hid hrow
  have HB := Lib.hid hbl
  have HSz := Lib.hid hsz
  clear hb hrow hbl hsz
  go_wp2
  go_loopw [4] (fun i wr => ∃ k d : Nat, k ≤ l.length ∧ i = .int .i64 (k : Nat) ∧ (∀ i u, i < k → l[i]? = some u → pFinite u = true) ∧ wr = W1.drewN d) (fun i _ => l.length - (intOf i).toNat)
  case atStart => exact ⟨0, 0, Nat.zero_le _, rfl, fun i u h => by omega, rfl⟩
  case round =>
    obtain ⟨k, d, hk, rfl, hall, hwr⟩ := hrel
    rename World => wr
    have HAll := Lib.hid hall
    have HWr := Lib.hid hwr
    have hrow : wr.heap[w.heap.size + 1]? = some (.cells #[.int .i64 0, .int .i64 0] 52) := by rw [hwr]; exact HRow.out
    have hbw : Box wr w.heap.size n n (.slice A l.length cap) := by rw [hwr]; exact HBx.out
    have hBw : Below w.heap.size w wr := by rw [hwr]; exact below_drewN HB.out d
    have hsw : w.heap.size + 2 ≤ wr.heap.size := by rw [hwr]; exact HSz.out
    have HRw := Lib.hid hrow
    have HBw := Lib.hid hBw
    have HSw := Lib.hid hsw
    have HXw := Lib.hid hbw
    have hrdw := (HRd.out.below hBw).more hBw.size
    obtain ⟨y0, y1, y2⟩ := hbw
    clear hall hwr hrow hBw hsw x0 x1 x2
    have hkb : (k : Int) + 1 ≤ 5000 := by have := HL4.out; omega
    by_cases hlt : k < l.length
    · have hlti : (k : Int) < (l.length : Int) := Int.ofNat_lt.2 hlt
      obtain ⟨z, hz⟩ := some_of_lt hlt
      have hv : (nums l)[k]? = some (.complex .f64 z.1 z.2) := by simp [nums, hz]
      obtain ⟨ad, rfl, had, hcell⟩ := hrdw.at_ hv
      have hlz := HLt.out z (List.mem_of_getElem? hz)
      have hfi := rFinite_c z.1 z.2 hlz.1 hlz.2 wr
      rw [pFin_cn] at hfi
      have HZ := Lib.hid hz
      have HFi := Lib.hid hfi
      clear hz hv had hlz hfi hrdw
      cases hg : pFinite z
      · rw [hg] at HFi
        have hbad : badAt l = k := badAt_of HAll.out HZ.out hg
        have hff : ofF n n l = (5, (k : Int)) := by rw [HF.out, hbad, if_pos hlt]
        have HFF := Lib.hid hff
        clear hbad hff hg
        go_wp2_with fail
        refine HFi.out.mono ?_
        rintro e w' ⟨d2, rfl, rfl⟩
        obtain ⟨r0, r1, fr⟩ := row2 (show (wr.drewN d2).heap[w.heap.size + 1]? = _ from HRw.out)
        have f0 := fr 0
        have f1 := fr 1
        clear fr
        go_wp2
        obtain ⟨q0, q1⟩ := set2 (u := .int .i64 5) (v := .int .i64 (k : Nat)) r0 r1
        refine bodyPost_ret (v := .tuple #[.pointer none, .agg #[.int .i64 5, .int .i64 (k : Nat)]]) (by simp [results, Tryz.results19, go_sem, q0, q1]) rfl ?_
        rw [HFF.out]
        exact rclose9 (f := (5, (k : Int))) (below_drewN HBw.out d2) (by omega) (by show (5 : Int) ≠ 0; decide)
      · rw [hg] at HFi
        have HG := Lib.hid hg
        clear hg
        go_wp2_with fail
        refine HFi.out.mono ?_
        rintro e w' ⟨d2, rfl, rfl⟩
        go_wp2
        go_roundw
        case rel =>
          refine ⟨k + 1, d + d2, hlt, by go_num, fun i u hi hu => ?_, by rw [HWr.out, World.drewN_drewN]⟩
          by_cases e : i = k
          · subst e
            have := HZ.out.symm.trans hu
            injection this with this
            rw [← this]; exact HG.out
          · exact HAll.out i u (by omega) hu
        case measure => simp [intOf]; omega
    · have e : k = l.length := by omega
      have hfin : ¬ badAt l < l.length := fun hb => by
        have h1 : (!pFinite l[badAt l]) = true := List.findIdx_getElem (w := hb)
        rw [HAll.out (badAt l) _ (by omega) (List.getElem?_eq_getElem hb)] at h1
        cases h1
      have HFn := Lib.hid (show ofF n n l = (elRun n (S0 l n) n).1 by rw [HF.out, if_neg hfin])
      have HFin := Lib.hid (show finTo (S0 l n).E n from matE_fin HL.out (badAt_all hfin))
      have HRw0 := Lib.hid hrdw
      obtain ⟨B0, hB0⟩ : ∃ B0, B0 = wr.heap.size := ⟨_, rfl⟩
      have HSt0 := Lib.hid (show rSt wr (wr.alloc (.cells #[.int .i64 (n : Nat), .slice none 0 0, .slice none 0 0, .bool false, .bool false, .bool true] 81)) B0 n 0 0 0 (matE l n) (fun _ => 0) (fun _ => 0) (.slice none 0 0) (.slice none 0 0) from
        { box := by rw [hB0]; exact heap_alloc_new _ _
          rows := World.ownsRow_nil _ _ _ _
          ord := World.ownsRow_nil _ _ _ _
          row := fun i hi => by omega
          gB := fun i hi => by omega
          inj := fun i j hi => by omega
          offR := fun i hi => by omega
          offO := fun i hi => by omega
          ro := fun c hc => by cases hc
          cap := fun i hi => by omega
          bel := by rw [hB0]; exact below_new _ _ })
      have HB0 := Lib.hid hB0
      clear hfin hrdw e
      go_wp2
      rw [← hB0]
      clear hB0
      go_loopw [7] (fun iv wx => ∃ (k : Nat) (g c : Nat → Nat) (sR sO : Value), k ≤ n ∧ iv = .int .i64 (k : Nat) ∧ rSt wr wx B0 n k k k (matE l n) g c sR sO ∧ (k = 0 → sR = .slice none 0 0 ∧ sO = .slice none 0 0)) (fun iv _ => n - (intOf iv).toNat)
      case atStart => exact ⟨0, _, _, _, _, Nat.zero_le _, rfl, HSt0.out, fun _ => ⟨rfl, rfl⟩⟩
      case round =>
        clear HSt0
        obtain ⟨k, g, c, sR, sO, hk, rfl, hst, hnil⟩ := hrel
        rename World => wk
        have HNil := Lib.hid hnil
        have HStr := Lib.hid hst
        have HBk := Lib.hid (show Below w.heap.size w wk from HBw.out.trans ((by rw [HB0.out] at hst; exact hst.bel : Below wr.heap.size wr wk).mono HBw.out.size))
        have HXk := Lib.hid (show Box wk w.heap.size n n (.slice A l.length cap) from HXw.out.below (by rw [HB0.out] at hst; exact hst.bel) (by have := HSw.out; omega))
        have hkb : (k : Int) + 1 ≤ 65 := by have := HN.out; omega
        clear hnil hst
        by_cases hlt : k < n
        · have hlti : (k : Int) < (n : Int) := Int.ofNat_lt.2 hlt
          have hkn : (k + 1) * n ≤ n * n := Nat.mul_le_mul_right _ hlt
          rw [Nat.add_mul, Nat.one_mul] at hkn
          obtain ⟨p, hp⟩ : ∃ p, p = k * n := ⟨_, rfl⟩
          rw [← hp] at hkn
          have h4 : n * n ≤ 64 * 64 := Nat.mul_le_mul HN.out HN.out
          have hpi : (k : Int) * (n : Int) = (p : Int) := by rw [hp, ← Int.natCast_mul]
          have hpl : p + n ≤ l.length := by have := HL.out; omega
          have hpb : (p : Int) + 65 ≤ 5000 := by have := HL4.out; have := HL.out; omega
          have HP := Lib.hid hp
          have HPl := Lib.hid hpl
          have hnb : (n : Int) ≤ 64 := by have := HN.out; omega
          have H63 := Lib.hid (show k + 1 ≤ maxLen by unfold maxLen; have := HN.out; omega)
          have HBy := Lib.hid (show (k + 1) * 24 ≤ 140737488355328 by have := HN.out; omega)
          have HBy2 := Lib.hid (show (k + 1) * 8 ≤ 140737488355328 by have := HN.out; omega)
          clear hkn h4 hp hpl
          go_wp2
          go_loopw [8, 9] (fun sv jv wx => ∃ j : Nat, j ≤ n ∧ jv = .int .i64 (j : Nat) ∧ wx.ownsRow wk.heap.size 60 1 sv j (nums ((List.range j).map (matE l n k))) ∧ Below wk.heap.size wk wx) (fun _ jv _ => n - (intOf jv).toNat)
          case atStart => exact ⟨0, Nat.zero_le _, rfl, World.ownsRow_nil _ _ _ _, Below.refl _ _⟩
          case round =>
            obtain ⟨j, hj, rfl, hown, hbj⟩ := hrel
            rename World => wj
            rename Value => sv
            have HOj := Lib.hid hown
            have HBj := Lib.hid hbj
            have hjb : (j : Int) + 1 ≤ 65 := by have := HN.out; omega
            clear hown hbj
            by_cases hjn : j < n
            · have hjni : (j : Int) < (n : Int) := Int.ofNat_lt.2 hjn
              obtain ⟨t0, t1, t2⟩ := HXk.out.below HBj.out (by have := HBk.out.size; have := HSw.out; have := HStr.out.bel.size; have := HB0.out; omega)
              obtain ⟨m, hm⟩ : ∃ m, m = p + j := ⟨_, rfl⟩
              have hmi : (p : Int) + (j : Int) = (m : Int) := by omega
              have hml : m < l.length := by have := HPl.out; omega
              have hmli : (m : Int) < (l.length : Int) := Int.ofNat_lt.2 hml
              have hmb : (m : Int) ≤ 5000 := by have := HL4.out; omega
              obtain ⟨z, hz⟩ := some_of_lt hml
              have hZ : matE l n k j = z := by unfold matE; rw [← HP.out, ← hm, List.getD_eq_getElem?_getD, hz]; rfl
              have hv : (nums l)[m]? = some (.complex .f64 z.1 z.2) := by simp [nums, hz]
              obtain ⟨ad, rfl, -, hcell⟩ := (((HRd.out.below HBk.out).more HBk.out.size).below HBj.out |>.more HBj.out.size).at_ hv
              have HZ := Lib.hid hZ
              clear hm hml hz hZ hv
              go_wp2_with (at_builtin; refine wpList_append_own _ rfl (.tmp 47) (.tmp 57) 25 rfl wk.heap.size 60 k0 (.complex .f64 0 0) 1 16 Tryz.underlying25 hk0 hx0 hx1 hx2 rfl (by decide) _ _ _ rfl (HOj.out.alloc _) ⟨wj.heap.size, 0, none⟩ 1 1 [.complex .f64 z.1 z.2] rfl rfl (cell_one_new _ _ _) (by intro u hu; simp at hu; subst hu; rfl) (by unfold maxLen; omega) (by omega) (Nat.le_trans HBj.out.size (below_new wj _).size) ?_; intro v' w1 hown1 hgrow1 hnil1)
              have HO2 := Lib.hid (show w1.ownsRow wk.heap.size 60 1 v' (j + 1) (nums ((List.range (j + 1)).map (matE l n k))) by rw [range_app, HZ.out]; exact hown1)
              have HB2 := Lib.hid (show Below wk.heap.size wk w1 from (HBj.out.alloc HBj.out.size _).grown hgrow1 (Nat.le_trans HBj.out.size (below_new wj _).size) (fun b hb => (HOj.out.lt b hb).1))
              clear hnil1 hown1 hgrow1 hcell t0 t1 t2
              go_wp2
              go_roundw
              case rel => exact ⟨j + 1, hjn, by go_num, HO2.out, HB2.out⟩
              case measure => simp [intOf]; omega
            · have e : n = j := by omega
              subst e
              obtain ⟨g0, c0, rfl, -, -⟩ := HOj.out.form (by omega)
              have hown := HOj.out
              obtain ⟨g', c', hgk, hck, hS2, c1⟩ := rst_row HStr.out rfl HBj.out (by omega) hown
              clear hpi hpb hnb hjb
              have HGk := Lib.hid hgk
              have HCk := Lib.hid hck
              have HS2 := Lib.hid hS2
              clear hgk hck hS2 hown
              go_wp2_with (first
                | (at_builtin; refine wpList_append_stays _ rfl (.tmp 63) (.tmp 65) 47 rfl (B0 + 1) 25 i0 (.slice none 0 0) 24 Tryz.underlying47 hii hz0 hz1 hz2 rfl sR k (rowVals9 g' c' n k) rfl (HS2.out.rows.alloc _) ⟨wj.heap.size, 0, none⟩ 1 1 [.slice (some ⟨g0, 0, none⟩) n c0] rfl rfl (cell_one_new _ _ _) (by intro u hu; simp at hu; subst hu; rfl) H63.out HBy.out (rst_sz HS2.out _) ?_; intro v1 w3 hown1 hgr1 hv1; obtain ⟨q1, cp1, e1, -, -⟩ := hown1.form (Nat.succ_pos k); subst e1; obtain ⟨c3, c4, f3, hS3⟩ := rst_app HS2.out rfl HGk.out HCk.out hown1 hgr1 hv1; have HS3 := Lib.hid hS3; clear hown1 hgr1 hv1 hS3 c1)
                | (at_builtin; refine wpList_append_stays _ rfl (.tmp 73) (.tmp 75) 79 rfl (B0 + 1) 3 j0 (.int .i64 0) 8 Tryz.underlying79 hji hy0 hy1 hy2 rfl sO k (ordVals k) rfl (HS3.out.ord.alloc _) ⟨w3.heap.size, 0, none⟩ 1 1 [.int .i64 (k : Nat)] rfl rfl (cell_one_at _ _ _ (by simp [World.setCell])) (by intro u hu; simp at hu; subst hu; rfl) H63.out HBy2.out (rst_sz HS3.out _) ?_; intro v2 w4 hown2 hgr2 hv2; obtain ⟨q2, cp2, e2, -, -⟩ := hown2.form (Nat.succ_pos k); subst e2; obtain ⟨c5, f5, hS4⟩ := rst_ord HS3.out rfl hown2 hgr2 hv2; have HS4 := Lib.hid hS4; clear hown2 hgr2 hv2 hS4 c3 c4 f3))
              go_wp2
              go_roundw
              case rel => exact ⟨k + 1, g', c', _, _, hlt, by go_num, HS4.out, fun h => by omega⟩
              case measure => simp [intOf]; omega
        · have e : n = k := by omega
          subst e
          have hB0 := HB0.out
          have h9 : rHas wk B0 B0 n (S0 l n) false := by
            refine ⟨Nat.le_refl _, ?_⟩
            rcases Nat.eq_zero_or_pos n with h0 | h0
            · obtain ⟨e1, e2⟩ := HNil.out h0
              have hx := HStr.out.box
              rw [e1, e2] at hx
              exact .inl ⟨h0, hx⟩
            · refine .inr ⟨h0, ?_⟩
              obtain ⟨q, p, qc, pc, h⟩ := HStr.out.lo h0 (Nat.le_refl _) (fun i j hi hj => ltCs_at HLt.out HL.out hi hj)
              exact ⟨q, p, qc, pc, g, c, h⟩
          have hrowk : wk.heap[w.heap.size + 1]? = some (.cells #[.int .i64 0, .int .i64 0] 52) := by
            have hbel := HStr.out.bel
            rw [hbel.block (w.heap.size + 1) (by have := HSw.out; omega)]
            exact HRw.out
          have hszk : B0 ≤ wk.heap.size := by rw [hB0]; have := HStr.out.bel.size; exact this
          have H9 := Lib.hid h9
          have HRk := Lib.hid hrowk
          have HSk := Lib.hid hszk
          clear h9 hrowk hszk HStr HNil hB0
          rcases H9.out.2 with ⟨hn0, hbox⟩ | ⟨hn0, q, p, qc, pc, g9, c9, hLo⟩
          · subst hn0
            have HBox := Lib.hid hbox
            obtain ⟨r0, r1, fr⟩ := row2 HRk.out
            have f0 := fr 0
            have f1 := fr 1
            clear hbox fr
            go_wp2
            go_loopw [10] (fun iv wx => iv = .int .i64 0 ∧ wx = wk) (fun _ _ => 0)
            case atStart => exact ⟨rfl, rfl⟩
            case round =>
              obtain ⟨rfl, rfl⟩ := hrel
              go_wp2
              obtain ⟨q0, q1⟩ := set2 (u := .int .i64 0) (v := .int .i64 0) r0 r1
              refine bodyPost_ret (v := .tuple #[.pointer (some ⟨B0, 0, none⟩), .agg #[.int .i64 0, .int .i64 0]]) (by simp [results, Tryz.results19, go_sem, q0, q1]) rfl ?_
              rw [HFn.out, HS.out]
              refine ⟨_, rfl, (HBk.out.setCell (Nat.le_succ _) _).setCell (Nat.le_succ _) _, fun _ => ⟨rfl, B0, false, rfl, ?_, fun _ a ha => absurd ha (Nat.not_lt_zero _)⟩, fun h => absurd rfl h⟩
              have hsw : w.heap.size + 1 < B0 := by have := HSw.out; have := HB0.out; omega
              exact ((H9.out.other (by show w.heap.size + 1 < B0; omega) _).other (by show w.heap.size + 1 < B0; omega) _).base (by omega)
          · have HLo := Lib.hid hLo
            have HN0 := Lib.hid hn0
            have HSb := Lib.hid (show w.heap.size + 2 ≤ B0 by rw [HB0.out]; exact HSw.out)
            clear hLo H9
            go_wp2
            go_loopw [10] (fun iv wx => ∃ (k : Nat) (g c : Nat → Nat) (ti : Bool), k ≤ n ∧ iv = .int .i64 (k : Nat) ∧ rLo wx B0 B0 q p n qc pc g c (elRun n (S0 l n) k).2 ti ∧ (ti = false → NoTies n (S0 l n) k) ∧ (elRun n (S0 l n) k).1.1 = 0 ∧ wx.heap[w.heap.size + 1]? = some (.cells #[.int .i64 0, .int .i64 0] 52) ∧ Below w.heap.size w wx ∧ B0 ≤ wx.heap.size) (fun iv _ => n - (intOf iv).toNat)
            case atStart => exact ⟨0, g9, c9, false, Nat.zero_le _, rfl, HLo.out, fun _ a ha => absurd ha (Nat.not_lt_zero _), rfl, HRk.out, HBk.out, HSk.out⟩
            case round =>
              obtain ⟨k', g', c', ti, hk', rfl, hLo', hti, h0, hrow', hB', hs'⟩ := hrel
              rename World => wx
              have HLo' := Lib.hid hLo'
              have HTi' := Lib.hid hti
              have HRow' := Lib.hid hrow'
              have HBel' := Lib.hid hB'
              have HSz' := Lib.hid hs'
              have H0 := Lib.hid h0
              have hkb' : (k' : Int) + 1 ≤ 65 := by have := HN.out; omega
              clear hLo' hti h0 hB' hs' y0 y1 y2
              by_cases hlt : k' < n
              · have hlti : (k' : Int) < (n : Int) := Int.ofNat_lt.2 hlt
                obtain ⟨er, her⟩ : ∃ er, elErr n k' (elRun n (S0 l n) k').2 = er := ⟨_, rfl⟩
                have HEr := Lib.hid her
                have hstep := column_e er B0 B0 q p n qc pc k' g' c' _ ti _ HN.out hlt HLo'.out (elRun_fin HFin.out k' (by omega)) HSz'.out her
                have HStep := Lib.hid hstep
                clear hstep her hrow'
                go_wp2_with fail
                refine HStep.out.mono ?_
                rintro e W3 ⟨rfl, hb3, hok⟩
                have hrow3 := (hb3.block (w.heap.size + 1) (by have := HSb.out; omega)).trans HRow'.out
                have HB3 := Lib.hid (HBel'.out.trans (hb3.mono (by have := HSb.out; omega)))
                have HSz3 := Lib.hid (Nat.le_trans HSz'.out hb3.size)
                have HOk := Lib.hid hok
                have HRow3 := Lib.hid hrow3
                clear hb3 hok
                by_cases h0 : er = 0
                · subst h0
                  clear hrow3
                  go_wp2
                  go_roundw
                  case rel =>
                    obtain ⟨g2, c2, ti2, hL2, ht2⟩ := HOk.out (by trivial)
                    refine ⟨k' + 1, g2, c2, ti2, hlt, by go_num, ?_, fun h a ha => ?_, ?_, HRow3.out, HB3.out, HSz3.out⟩
                    · rw [elRun_ok H0.out HEr.out]; exact hL2
                    · obtain ⟨t1, t2⟩ := ht2 h
                      by_cases e : a = k'
                      · rw [e]; exact t2
                      · exact HTi'.out t1 a (by omega)
                    · rw [elRun_ok H0.out HEr.out]
                  case measure => simp [intOf]; omega
                · have hne : (er != 0) = true := by simpa using h0
                  obtain ⟨r0, r1, fr⟩ := row2 hrow3
                  have f0 := fr 0
                  have f1 := fr 1
                  have H0e := Lib.hid h0
                  clear hrow3 fr h0
                  go_wp2
                  obtain ⟨q0, q1⟩ := set2 (u := .int .i64 er) (v := .int .i64 (k' : Nat)) r0 r1
                  refine bodyPost_ret (v := .tuple #[.pointer none, .agg #[.int .i64 er, .int .i64 (k' : Nat)]]) (by simp [results, Tryz.results19, go_sem, q0, q1]) rfl ?_
                  rw [HFn.out, elRun_at hlt H0.out (by rw [HEr.out]; exact H0e.out), HEr.out]
                  exact rclose9 (f := (er, (k' : Int))) HB3.out (by omega) H0e.out
              · have e : n = k' := by omega
                subst e
                obtain ⟨r0, r1, fr⟩ := row2 hrow'
                have f0 := fr 0
                have f1 := fr 1
                clear hrow' fr
                go_wp2
                obtain ⟨q0, q1⟩ := set2 (u := .int .i64 0) (v := .int .i64 0) r0 r1
                refine bodyPost_ret (v := .tuple #[.pointer (some ⟨B0, 0, none⟩), .agg #[.int .i64 0, .int .i64 0]]) (by simp [results, Tryz.results19, go_sem, q0, q1]) rfl ?_
                rw [HFn.out, HS.out, elRun_zero _ H0.out]
                refine ⟨_, rfl, (HBel'.out.setCell (Nat.le_succ _) _).setCell (Nat.le_succ _) _, fun _ => ⟨rfl, B0, ti, rfl, ?_, HTi'.out⟩, fun h => absurd rfl h⟩
                have h : rHas _ B0 B0 n (elRun n (S0 l n) n).2 ti := ⟨Nat.le_refl _, .inr ⟨HN0.out, q, p, qc, pc, g', c', HLo'.out⟩⟩
                exact ((h.other (by show w.heap.size + 1 < B0; have := HSb.out; omega) _).other (by show w.heap.size + 1 < B0; have := HSb.out; omega) _).base (by have := HSb.out; omega)
theorem rOf_c (r c : Int) (A : Option Addr) (l : List C) (cap : Nat) (w : World) (hrd : Reads w w.heap.size A (nums l)) (hlt : ltCs l) :
    Calls Tryz.prog 19 #[mval r c (.slice A l.length cap)] w (RetROf (ofF r c l) r.toNat (S0 l r.toNat) (ofS r l) w) := by
  cases h : (okM r c l.length && (r == c))
  · exact rOf_shape r c A l cap w h
  · rw [Bool.and_eq_true] at h
    have e : r = c := by simpa using h.2
    subst e
    obtain ⟨h3, h4, -, -, h5⟩ := okM_iff.1 h.1
    obtain ⟨n, rfl⟩ : ∃ n : Nat, r = (n : Int) := ⟨r.toNat, by omega⟩
    rw [← Int.natCast_mul] at h5
    exact rOf_run n A l cap w (by omega) (by omega) hrd hlt
end Go.Proofs.YtandllekeimpgaaGreat
