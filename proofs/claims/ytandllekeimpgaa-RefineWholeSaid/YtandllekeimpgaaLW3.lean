/- Layer 9: the rows of a matrix are laid in memory of their own (lower.start). -/
import Derived.Test.YtandllekeimpgaaReg
import Derived.Test.YtandllekeimpgaaMX1
import Derived.Test.YtandllekeimpgaaLW2
import Derived.Laws.CopyOwn
import Derived.Deep.OwnRows
import Derived.Deep.RegionLaw
import Derived.Deep.AppendLies
import Derived.Laws.MakeOwn
namespace Go.Proofs.Ytandllekeimpgaa
open Go.RowKit Fl Ieee
set_option maxRecDepth 20000
attribute [local go_sem] run_store_float run_store_complex
/-- What lies in the list of rows, in the order. -/
def rowVals (g : Nat → Nat) (n k : Nat) : List Value := (List.range k).map fun i => .slice (some ⟨g i, 0, none⟩) n n
def ordVals (k : Nat) : List Value := (List.range k).map fun i => .int .i64 (i : Nat)
theorem rowVals_succ (g : Nat → Nat) (n k : Nat) : rowVals g n (k + 1) = rowVals g n k ++ [.slice (some ⟨g k, 0, none⟩) n n] := by
  unfold rowVals; rw [List.range_succ, List.map_append]; rfl
theorem ordVals_succ (k : Nat) : ordVals (k + 1) = ordVals k ++ [.int .i64 (k : Nat)] := by
  unfold ordVals; rw [List.range_succ, List.map_append]; rfl
theorem rowVals_congr {g g' : Nat → Nat} {n k : Nat} (h : ∀ i, i < k → g i = g' i) : rowVals g n k = rowVals g' n k :=
  List.map_congr_left fun i hi => by rw [h i (List.mem_range.1 hi)]
/-- k rows have been laid, kr of them are in the list, ko in the order. -/
structure St (W0 W : World) (b n k kr ko : Nat) (Z : Mat) (g : Nat → Nat) (sR sO : Value) : Prop where
  box : W.heap[b]? = some (.cells #[.bool true, sR, sO, .int .i64 1] 69)
  rows : W.ownsRow (b + 1) 26 1 sR kr (rowVals g n kr)
  ord : W.ownsRow (b + 1) 3 1 sO ko (ordVals ko)
  row : ∀ i, i < k → rowGe W (g i) 45 n (fun j => .complex .f64 (Z i j).1 (Z i j).2)
  gB : ∀ i, i < k → b + 1 ≤ g i
  inj : ∀ i j, i < k → j < k → g i = g j → i = j
  offR : ∀ i, i < k → sR.ownBlock ≠ some (g i)
  offO : ∀ i, i < k → sO.ownBlock ≠ some (g i)
  ro : ∀ c, sR.ownBlock = some c → sO.ownBlock ≠ some c
  bel : Below b W0 W
namespace St
variable {W0 W V : World} {b n k kr ko : Nat} {Z : Mat} {g : Nat → Nat} {sR sO : Value}
theorem below (h : St W0 W b n k kr ko Z g sR sO) (hb : Below W.heap.size W V) : St W0 V b n k kr ko Z g sR sO :=
  { h with
    box := row_keep hb h.box
    rows := own_below h.rows hb
    ord := own_below h.ord hb
    row := fun i hi => (h.row i hi).below hb (h.row i hi).lt
    bel := h.bel.trans (hb.mono (Nat.le_of_lt (row_lt h.box))) }
theorem cells (h : St W0 W b n k kr ko Z g sR sO) : W.cell? ⟨b, 1, none⟩ = some sR ∧ W.cell? ⟨b, 2, none⟩ = some sO ∧ (∀ j, W.frozen? ⟨b, j, none⟩ = false) := by
  obtain ⟨-, y, z, -, f⟩ := box4 h.box
  exact ⟨y, z, f⟩
/-- A row more. -/
theorem new {N : Nat} (h : St W0 W b n k kr ko Z g sR sO) (hb : Below W.heap.size W V) (hN : W.heap.size ≤ N) (hr : rowGe V N 45 n (fun j => .complex .f64 (Z k j).1 (Z k j).2)) (_hkr : kr ≤ k) :
    St W0 V b n (k + 1) kr ko Z (fun i => if i = k then N else g i) sR sO := by
  have h' := h.below hb
  have hbl := row_lt h.box
  have hlt : ∀ i, i < k → g i < N := fun i hi => Nat.lt_of_lt_of_le (h.row i hi).lt hN
  have eg : ∀ i, i < k → (if i = k then N else g i) = g i := fun i hi => if_neg (by omega)
  have ek : (if k = k then N else g k) = N := if_pos rfl
  refine { h' with rows := ?_, row := ?_, gB := ?_, inj := ?_, offR := ?_, offO := ?_ }
  · rw [rowVals_congr (fun i hi => eg i (by omega))]; exact h'.rows
  · intro i hi
    by_cases e : i = k
    · subst e; rw [ek]; exact hr
    · rw [eg i (by omega)]; exact h'.row i (by omega)
  · intro i hi
    by_cases e : i = k
    · subst e; rw [ek]; omega
    · rw [eg i (by omega)]; exact h.gB i (by omega)
  · intro i j hi hj e
    by_cases e1 : i = k
    · by_cases e2 : j = k
      · omega
      · rw [e1, ek, eg j (by omega)] at e
        have := hlt j (by omega); omega
    · by_cases e2 : j = k
      · rw [e2, ek, eg i (by omega)] at e
        have := hlt i (by omega); omega
      · rw [eg i (by omega), eg j (by omega)] at e
        exact h.inj i j (by omega) (by omega) e
  · intro i hi e
    by_cases e1 : i = k
    · rw [e1, ek] at e
      have := (h.rows.lt _ e).2; omega
    · rw [eg i (by omega)] at e
      exact h.offR i (by omega) e
  · intro i hi e
    by_cases e1 : i = k
    · rw [e1, ek] at e
      have := (h.ord.lt _ e).2; omega
    · rw [eg i (by omega)] at e
      exact h.offO i (by omega) e
/-- A row is put into the list. -/
theorem appR {o : Obj} {v' : Value} {w1 : World} (h : St W0 W b n k kr ko Z g sR sO)
    (hown : w1.ownsRow (b + 1) 26 1 v' (kr + 1) (rowVals g n kr ++ [.slice (some ⟨g kr, 0, none⟩) n n]))
    (hgr : (W.alloc o).grownBy w1 sR.ownBlock) (hv : v'.ownBlock = sR.ownBlock ∨ (v'.ownBlock = some (W.alloc o).heap.size ∧ (W.alloc o).grownBy w1 none)) :
    w1.cell? ⟨b, 1, none⟩ = some sR ∧ w1.cell? ⟨b, 2, none⟩ = some sO ∧ (∀ j, w1.frozen? ⟨b, j, none⟩ = false) ∧ St W0 (w1.setCell ⟨b, 1, none⟩ v') b n k (kr + 1) ko Z g v' sO := by
  have hs : (W.alloc o).heap.size = W.heap.size + 1 := by simp
  have hbl := row_lt h.box
  have FB : ∀ p, p < W.heap.size → sR.ownBlock ≠ some p → w1.heap[p]? = W.heap[p]? := fun p hp hne =>
    (hgr.block p (by omega) (fun e => hne e.symm)).trans (Below.heap_alloc W o p hp)
  have hbR : sR.ownBlock ≠ some b := fun e => by have := (h.rows.lt _ e).1; omega
  have hbx := (FB b hbl hbR).trans h.box
  obtain ⟨-, y, z, -, f⟩ := box4 hbx
  have hgO : ∀ c, v'.ownBlock = some c → sO.ownBlock ≠ some c := fun c hc e => by
    rcases hv with h1 | ⟨h1, -⟩
    · exact h.ro c (h1.symm.trans hc) e
    · rw [h1] at hc
      injection hc with hc
      have := (h.ord.lt _ e).2; omega
  refine ⟨y, z, f, ?_⟩
  refine { h with box := ?_, rows := ?_, ord := ?_, row := ?_, offR := ?_, ro := hgO, bel := ?_ }
  · rw [heap_setCell_same _ b 1 _ _ _ hbx]; rfl
  · rw [rowVals_succ]
    exact ownsRow_setCell_below hown (by show b < b + 1; omega) _
  · refine ownsRow_setCell_below ((h.ord.alloc o).kept hgr ?_) (by show b < b + 1; omega) _
    by_cases e : sO.ownBlock = none
    · exact .inl e
    · refine .inr fun e2 => ?_
      cases hc : sR.ownBlock with
      | none => rw [hc] at e2; exact e e2
      | some c => rw [hc] at e2; exact h.ro c hc e2
  · intro i hi
    refine ((h.row i hi).of_block (FB _ (h.row i hi).lt (h.offR i hi))).setOther ?_ _
    show g i ≠ b
    have := h.gB i hi; omega
  · intro i hi e
    rcases hv with h1 | ⟨h1, -⟩
    · exact h.offR i hi (h1.symm.trans e)
    · rw [h1] at e
      injection e with e
      have := (h.row i hi).lt; omega
  · exact ((h.bel.alloc (Nat.le_of_lt hbl) o).grown hgr (by omega) (fun j hj => by have := (h.rows.lt j hj).1; omega)).setCell (Nat.le_refl _) _
/-- A number is put into the order. -/
theorem appO {o : Obj} {v' : Value} {w1 : World} (h : St W0 W b n k kr ko Z g sR sO)
    (hown : w1.ownsRow (b + 1) 3 1 v' (ko + 1) (ordVals ko ++ [.int .i64 (ko : Nat)]))
    (hgr : (W.alloc o).grownBy w1 sO.ownBlock) (hv : v'.ownBlock = sO.ownBlock ∨ (v'.ownBlock = some (W.alloc o).heap.size ∧ (W.alloc o).grownBy w1 none)) :
    w1.cell? ⟨b, 2, none⟩ = some sO ∧ (∀ j, w1.frozen? ⟨b, j, none⟩ = false) ∧ St W0 (w1.setCell ⟨b, 2, none⟩ v') b n k kr (ko + 1) Z g sR v' := by
  have hs : (W.alloc o).heap.size = W.heap.size + 1 := by simp
  have hbl := row_lt h.box
  have FB : ∀ p, p < W.heap.size → sO.ownBlock ≠ some p → w1.heap[p]? = W.heap[p]? := fun p hp hne =>
    (hgr.block p (by omega) (fun e => hne e.symm)).trans (Below.heap_alloc W o p hp)
  have hbO : sO.ownBlock ≠ some b := fun e => by have := (h.ord.lt _ e).1; omega
  have hbx := (FB b hbl hbO).trans h.box
  obtain ⟨-, -, z, -, f⟩ := box4 hbx
  have hgO : ∀ c, sR.ownBlock = some c → v'.ownBlock ≠ some c := fun c hc e => by
    rcases hv with h1 | ⟨h1, -⟩
    · exact h.ro c hc (h1.symm.trans e)
    · rw [h1] at e
      injection e with e
      have := (h.rows.lt _ hc).2; omega
  refine ⟨z, f, ?_⟩
  refine { h with box := ?_, rows := ?_, ord := ?_, row := ?_, offO := ?_, ro := hgO, bel := ?_ }
  · rw [heap_setCell_same _ b 2 _ _ _ hbx]; rfl
  · refine ownsRow_setCell_below ((h.rows.alloc o).kept hgr ?_) (by show b < b + 1; omega) _
    by_cases e : sR.ownBlock = none
    · exact .inl e
    · refine .inr fun e2 => ?_
      cases hc : sR.ownBlock with
      | none => exact e hc
      | some c => exact h.ro c hc (e2.symm.trans hc)
  · rw [ordVals_succ]
    exact ownsRow_setCell_below hown (by show b < b + 1; omega) _
  · intro i hi
    refine ((h.row i hi).of_block (FB _ (h.row i hi).lt (h.offO i hi))).setOther ?_ _
    show g i ≠ b
    have := h.gB i hi; omega
  · intro i hi e
    rcases hv with h1 | ⟨h1, -⟩
    · exact h.offO i hi (h1.symm.trans e)
    · rw [h1] at e
      injection e with e
      have := (h.row i hi).lt; omega
  · exact ((h.bel.alloc (Nat.le_of_lt hbl) o).grown hgr (by omega) (fun j hj => by have := (h.ord.lt j hj).1; omega)).setCell (Nat.le_refl _) _
/-- All rows are laid. -/
theorem lo {B : Nat} (h : St W0 W b n n n n Z g sR sO) (hn : 0 < n) (hB : B ≤ b) (hlt : ∀ i j, i < n → j < n → ltC (Z i j)) : ∃ q p qc pc, Lo W B b q p n qc pc g (fun _ => n) ⟨Z, id, false⟩ := by
  obtain ⟨q, qc, rfl, hq, -⟩ := h.rows.form hn
  obtain ⟨p, pc, rfl, hp, -⟩ := h.ord.form hn
  refine ⟨q, p, qc, pc, ?_⟩
  exact
    { box := h.box
      tab :=
        { rows := rowGe.of_own h.rows fun i hi => by simp [rowVals, hi]
          ord := rowGe.of_own h.ord fun i hi => by simp [ordVals, hi]
          row := h.row
          inj := h.inj
          farq := fun i hi e => h.offR i hi (by rw [e]; rfl)
          farp := fun i hi e => h.offO i hi (by rw [e]; rfl)
          qp := fun e => h.ro q rfl (by rw [e]; rfl)
          gB := fun i hi => by have := h.gB i hi; omega
          qB := by omega
          pB := by omega
          cap := fun _ _ => Nat.le_refl _
          lt := hlt }
      bB := hB
      bq := by omega
      bp := by omega
      bg := fun i hi => by have := h.gB i hi; omega }
end St
theorem infoRowSl : (Try.prog.info? 26).map (fun i => (i.zero, i.size, i.bytes)) = some (some (.slice none 0 0), 1, 24) := by kernel_rfl
theorem infoInt9 : (Try.prog.info? 3).map (fun i => (i.zero, i.size, i.bytes)) = some (some (.int .i64 0), 1, 8) := by kernel_rfl
/-- What is eliminated: a matrix' numbers. -/
def matE (l : List C) (n : Nat) : Mat := fun i j => l.getD (i * n + j) (0, 0)
/-- An elimination in memory of its own; of no row: its lists are nil. -/
def Has9 (W : World) (B b n : Nat) (S : El) : Prop :=
  B ≤ b ∧ ((n = 0 ∧ W.heap[b]? = some (.cells #[.bool true, .slice none 0 0, .slice none 0 0, .int .i64 (sgI S.s)] 69)) ∨ (0 < n ∧ ∃ q p qc pc g c, Lo W B b q p n qc pc g c S))
def RetStart (n : Nat) (Z : Mat) (w : World) (e : Ending) (w' : World) : Prop :=
  ∃ b, e = .returned (.pointer (some ⟨b, 0, none⟩)) ∧ Has9 w' w.heap.size b n ⟨Z, id, false⟩ ∧ Below w.heap.size w w'
theorem start_row {wr W2 : World} {l : List C} {n k p : Nat} {xs : List Value} (hp : p = k * n) (hl : l.length = n * n) (hk : k < n) (hx : xs = nums ((l.drop p).take n))
    (h : W2.heap[wr.heap.size]? = some (.cells (splice (nums (List.replicate n (0, 0))) 0 xs).toArray 45 (0, 0))) :
    rowGe W2 wr.heap.size 45 n (fun j => .complex .f64 (matE l n k j).1 (matE l n k j).2) := by
  have h1 : (k + 1) * n ≤ n * n := Nat.mul_le_mul_right _ hk
  rw [Nat.add_mul, Nat.one_mul] at h1
  have hxl : xs.length = n := by rw [hx]; simp [nums]; omega
  refine ⟨_, h, ?_, fun i hi => ?_⟩
  · have : (splice (nums (List.replicate n (0, 0))) 0 xs).length = n := by
      rw [length_splice _ _ _ (by simp [nums, hxl])]; simp [nums]
    rw [List.size_toArray, this]; exact Nat.le_refl _
  · have e : splice (nums (List.replicate n (0, 0))) 0 xs = xs := by simp [splice, hxl, nums]
    rw [e, hx]
    have hlt : p + i < l.length := by omega
    simp [nums, matE, hi, ← hp, List.getElem?_eq_getElem hlt]
theorem start_mid {w1 wr w2 : World} {l : List C} {n k p b b' : Nat} {xs : List Value} {g : Nat → Nat} {sR sO : Value} (hst : St w1 wr b n k k k (matE l n) g sR sO) (hb' : b = b') (hp : p = k * n) (hl : l.length = n * n) (hk : k < n) (hx : xs = nums ((l.drop p).take n))
    (h : Hid (w2.heap[wr.heap.size]? = some (.cells (splice (nums (List.replicate n (0, 0))) 0 xs).toArray 45 (0, 0)))) (hB : Below wr.heap.size wr w2) :
    ∃ g', g' k = wr.heap.size ∧ St w1 w2 b n (k + 1) k k (matE l n) g' sR sO ∧ w2.cell? ⟨b', 1, none⟩ = some sR := by
  have h1 := hst.new hB (Nat.le_refl _) (start_row hp hl hk hx h.out) (Nat.le_refl _)
  subst hb'
  exact ⟨fun i => if i = k then wr.heap.size else g i, if_pos rfl, h1, h1.cells.1⟩
theorem start_app {w1 w2 w3 : World} {n k b b' N : Nat} {Z : Mat} {g : Nat → Nat} {sR sO v' : Value} {o : Obj} (h : St w1 w2 b n (k + 1) k k Z g sR sO) (hb' : b = b') (hg : g k = N)
    (hown : w3.ownsRow (b + 1) 26 1 v' (k + 1) (rowVals g n k ++ [.slice (some ⟨N, 0, none⟩) n n]))
    (hgr : (w2.alloc o).grownBy w3 sR.ownBlock) (hv : v'.ownBlock = sR.ownBlock ∨ (v'.ownBlock = some (w2.alloc o).heap.size ∧ (w2.alloc o).grownBy w3 none)) :
    w3.cell? ⟨b', 1, none⟩ = some sR ∧ w3.cell? ⟨b', 2, none⟩ = some sO ∧ w3.frozen? ⟨b', 1, none⟩ = false ∧ St w1 (w3.setCell ⟨b', 1, none⟩ v') b n (k + 1) (k + 1) k Z g v' sO := by
  subst hb' hg
  obtain ⟨a1, a2, a3, a4⟩ := h.appR hown hgr hv
  exact ⟨a1, a2, a3 1, a4⟩
theorem start_ord {w1 w2 w3 : World} {n k b b' : Nat} {Z : Mat} {g : Nat → Nat} {sR sO v' : Value} {o : Obj} (h : St w1 w2 b n (k + 1) (k + 1) k Z g sR sO) (hb' : b = b')
    (hown : w3.ownsRow (b + 1) 3 1 v' (k + 1) (ordVals k ++ [.int .i64 (k : Nat)]))
    (hgr : (w2.alloc o).grownBy w3 sO.ownBlock) (hv : v'.ownBlock = sO.ownBlock ∨ (v'.ownBlock = some (w2.alloc o).heap.size ∧ (w2.alloc o).grownBy w3 none)) :
    w3.cell? ⟨b', 2, none⟩ = some sO ∧ w3.frozen? ⟨b', 2, none⟩ = false ∧ St w1 (w3.setCell ⟨b', 2, none⟩ v') b n (k + 1) (k + 1) (k + 1) Z g sR v' := by
  subst hb'
  obtain ⟨a1, a2, a3⟩ := h.appO hown hgr hv
  exact ⟨a1, a2 2, a3⟩
theorem start_sz {w1 w2 : World} {b n k kr ko : Nat} {Z : Mat} {g : Nat → Nat} {sR sO : Value} (h : St w1 w2 b n k kr ko Z g sR sO) (o : Obj) : b + 1 ≤ (w2.alloc o).heap.size := by
  have := row_lt h.box; simp; omega
theorem nums_one {l : List C} : ∀ v ∈ nums l, v.oneCell' = true := fun v hv => by
  simp only [nums, List.mem_map] at hv
  obtain ⟨z, _, rfl⟩ := hv
  rfl
set_option maxHeartbeats 4000000 in
theorem start_c (n : Nat) (A : Option Addr) (l : List C) (cap : Nat) (w : World) (hn : n ≤ 64) (hl : l.length = n * n) (hcap : l.length ≤ cap) (hrd : Reads w w.heap.size A (nums l)) (hlt : ltCs l) :
    Calls Try.prog 50 #[mval n n (.slice A l.length cap)] w (RetStart n (matE l n) w) := by
  obtain ⟨i0, hi, hz0, hz1, hz2⟩ := info_parts infoRowSl
  obtain ⟨j0, hj, hy0, hy1, hy2⟩ := info_parts infoInt9
  have hmk := run_make_row' (P := Try.prog) 26 45 (.complex .f64 0 0) 16 Try.underlying26 infoNum rfl .i64 .i64 n (by omega) (by omega)
  have HN := Lib.hid hn
  have HL := Lib.hid hl
  have HCap := Lib.hid hcap
  have HRd := Lib.hid hrd
  have HLt := Lib.hid hlt
  clear hn hl hcap hrd hlt
  obtain ⟨w1, hw1⟩ : ∃ w1, w1 = w.alloc (.cells #[.int .i64 (n : Nat), .int .i64 (n : Nat), .slice A l.length cap] 28) := ⟨_, rfl⟩
  have hs1 : w1.heap.size = w.heap.size + 1 := by rw [hw1]; simp
  have hB1 : Below w.heap.size w w1 := by rw [hw1]; exact below_new _ _
  have hbx : Box w1 w.heap.size n n (.slice A l.length cap) := by rw [hw1]; exact Box.new _ _ _ _ _
  have hst : St w1 (w1.alloc (.cells #[.bool true, .slice none 0 0, .slice none 0 0, .int .i64 1] 69)) w1.heap.size n 0 0 0 (matE l n) (fun _ => 0) (.slice none 0 0) (.slice none 0 0) :=
    { box := heap_alloc_new _ _
      rows := World.ownsRow_nil _ _ _ _
      ord := World.ownsRow_nil _ _ _ _
      row := fun i hi => by omega
      gB := fun i hi => by omega
      inj := fun i j hi => by omega
      offR := fun i hi => by omega
      offO := fun i hi => by omega
      ro := fun c hc => by cases hc
      bel := below_new _ _ }
  have HSt := Lib.hid hst
  have HW1 := Lib.hid hw1
  have HS1 := Lib.hid hs1
  have HB1 := Lib.hid hB1
  have HBx := Lib.hid hbx
  clear hst hw1 hs1 hB1 hbx
  go_enter Try.func50, Try.ntmps50
  go_wp2
  go_loopw [10] (fun i wr => ∃ (k : Nat) (g : Nat → Nat) (sR sO : Value), k ≤ n ∧ i = .int .i64 (k : Nat) ∧ St w1 wr w1.heap.size n k k k (matE l n) g sR sO ∧ (k = 0 → sR = .slice none 0 0 ∧ sO = .slice none 0 0)) (fun i _ => n - (intOf i).toNat)
  case atStart => exact ⟨0, _, _, _, Nat.zero_le _, rfl, by rw [HW1.out] at HSt ⊢; exact HSt.out, fun _ => ⟨rfl, rfl⟩⟩
  case round =>
    obtain ⟨k, g, sR, sO, hk, rfl, hst, hnil⟩ := hrel
    have HNil := Lib.hid hnil
    clear hnil
    have HStr := Lib.hid hst
    have hbw : Box wr w.heap.size n n (.slice A l.length cap) := HBx.out.below hst.bel (by have := HS1.out; omega)
    obtain ⟨b0, b1, b2⟩ := hbw
    clear hst
    by_cases hlt : k < n
    · have hkn : (k + 1) * n ≤ n * n := Nat.mul_le_mul_right _ hlt
      rw [Nat.add_mul, Nat.one_mul] at hkn
      obtain ⟨p, hp⟩ : ∃ p, p = k * n := ⟨_, rfl⟩
      rw [← hp] at hkn
      have h4 : n * n ≤ 64 * 64 := Nat.mul_le_mul HN.out HN.out
      have hm : wrap64 ((k : Int) * (n : Int)) = (p : Int) := by rw [hp, ← Int.natCast_mul, ← hp]; unfold wrap64; omega
      have hpl : p + n ≤ l.length := by have := HL.out; omega
      have hpc : p < cap := by have := HCap.out; omega
      obtain ⟨ad, rfl, had, hce⟩ := HRd.out (by simp [nums]; omega)
      have HAd := Lib.hid had
      have HCe := Lib.hid hce
      obtain ⟨xs, hxs⟩ : ∃ xs, xs = nums ((l.drop p).take n) := ⟨_, rfl⟩
      have hxl : xs.length = n := by rw [hxs]; simp [nums]; omega
      have HXs := Lib.hid hxs
      have HXl := Lib.hid hxl
      have HP := Lib.hid hp
      have HPl := Lib.hid hpl
      clear hkn h4 had hce hxs hxl hp
      have hnew : (wr.alloc (.cells (madeCells #[.complex .f64 0 0] n) 45)).heap[wr.heap.size]? = some (.cells (nums (List.replicate n (0, 0))).toArray 45 (0, 0)) := by rw [mk_nums]; exact heap_alloc_new _ _
      have HNew := Lib.hid hnew
      clear hnew
      have hws : w.heap.size < wr.heap.size := by
        have h1 := HStr.out.bel.size
        have h2 := HS1.out
        have h3 := row_lt HStr.out.box
        omega
      have b1a : ∀ o, (wr.alloc o).cell? ⟨w.heap.size, 1, none⟩ = some (.int .i64 (n : Nat)) := fun o => ((below_new wr o).cell (p := ⟨w.heap.size, 1, none⟩) hws).trans b1
      have b2a : ∀ o, (wr.alloc o).cell? ⟨w.heap.size, 2, none⟩ = some (.slice (some ad) l.length cap) := fun o => ((below_new wr o).cell (p := ⟨w.heap.size, 2, none⟩) hws).trans b2
      have HSrc := Lib.hid (show ∀ j v, xs[j]? = some v → (wr.alloc (.cells (madeCells #[.complex .f64 0 0] n) 45)).cell? ((ad.add p).add j) = some v from fun j v hv => by
        have hj : j < n := by have := lt_of_some hv; have := HXl.out; omega
        rw [add_of_add]
        have hadw : ad.block < wr.heap.size := by have := HAd.out; omega
        have hb1 : (nums l)[p + j]? = some v := by
          rw [HXs.out] at hv
          simpa [nums, hj] using hv
        have h1 := HCe.out _ _ hb1
        have h2 := (HB1.out.cell (p := ad.add (p + j)) (by rw [block_of_add]; exact HAd.out)).trans h1
        have h3 := (HStr.out.bel.cell (p := ad.add (p + j)) (by rw [block_of_add]; have := HAd.out; have := HS1.out; omega)).trans h2
        exact ((below_new wr _).cell (p := ad.add (p + j)) (by rw [block_of_add]; exact hadw)).trans h3)
      have HMin := Lib.hid (show xs.length = Nat.min (l.length - p) n by have := HXl.out; rw [this]; exact (Nat.min_eq_right (by omega)).symm)
      have HFit := Lib.hid (show 0 + xs.length ≤ (nums (List.replicate n (0, 0))).length by have := HXl.out; simp [nums]; omega)
      have HOne := Lib.hid (show ∀ v ∈ xs, v.oneCell' = true by rw [HXs.out]; exact nums_one)
      have HBw := Lib.hid (below_new wr (.cells (madeCells #[.complex .f64 0 0] n) 45))
      have hkb : (k : Int) + 1 ≤ 65 := by have := HN.out; omega
      have H63 := Lib.hid (show k + 1 ≤ maxLen by unfold maxLen; have := HN.out; omega)
      have HBy := Lib.hid (show (k + 1) * 24 ≤ 140737488355328 by have := HN.out; omega)
      have HBy2 := Lib.hid (show (k + 1) * 8 ≤ 140737488355328 by have := HN.out; omega)
      go_wp2_with (first
        | (with_reducible refine wpList_copy_splice rfl (.tmp 16) (.tmp 23) 26 26 rfl 45 Try.underlying26 (by kernel_rfl) _ _ _ _ _ _ rfl rfl wr.heap.size 0 (nums (List.replicate n (0, 0))) 45 HNew.out xs HMin.out (fun _ => ⟨rfl, _, rfl, HSrc.out⟩) HFit.out HOne.out wr.heap.size wr HBw.out (Nat.le_refl _) ?_; intro w2 HG2 hB2; obtain ⟨g', hgk, hS2, c1⟩ := start_mid HStr.out HS1.out HP.out HL.out hlt HXs.out HG2 hB2; have HGk := Lib.hid hgk; have HS2 := Lib.hid hS2; clear HG2 hB2 hgk hS2 b1a b2a b0 b1 b2)
        | (at_builtin; refine wpList_append_stays _ rfl (.tmp 29) (.tmp 31) 40 rfl (w1.heap.size + 1) 26 i0 (.slice none 0 0) 24 Try.underlying40 hi hz0 hz1 hz2 rfl sR k (rowVals g' n k) rfl (HS2.out.rows.alloc _) ⟨w2.heap.size, 0, none⟩ 1 1 [.slice (some ⟨wr.heap.size, 0, none⟩) n n] rfl rfl (cell_one_new _ _ _) (by intro u hu; simp at hu; subst hu; rfl) H63.out HBy.out (start_sz HS2.out _) ?_; intro v1 w3 hown1 hgr1 hv1; obtain ⟨q1, cp1, e1, -, -⟩ := hown1.form (Nat.succ_pos k); subst e1; obtain ⟨c3, c4, f3, hS3⟩ := start_app HS2.out HS1.out HGk.out hown1 hgr1 hv1; have HS3 := Lib.hid hS3; clear hown1 hgr1 hv1 hS3 c1)
        | (at_builtin; refine wpList_append_stays _ rfl (.tmp 39) (.tmp 41) 67 rfl (w1.heap.size + 1) 3 j0 (.int .i64 0) 8 Try.underlying67 hj hy0 hy1 hy2 rfl sO k (ordVals k) rfl (HS3.out.ord.alloc _) ⟨w3.heap.size, 0, none⟩ 1 1 [.int .i64 (k : Nat)] rfl rfl (cell_one_at _ _ _ (by simp [World.setCell])) (by intro u hu; simp at hu; subst hu; rfl) H63.out HBy2.out (start_sz HS3.out _) ?_; intro v2 w4 hown2 hgr2 hv2; obtain ⟨q2, cp2, e2, -, -⟩ := hown2.form (Nat.succ_pos k); subst e2; obtain ⟨c5, f5, hS4⟩ := start_ord HS3.out HS1.out hown2 hgr2 hv2; have HS4 := Lib.hid hS4; clear hown2 hgr2 hv2 hS4 c3 c4 f3))
      go_wp2
      go_roundw
      case rel => exact ⟨k + 1, g', _, _, hlt, by go_num, HS4.out, fun h => by omega⟩
      case measure => simp [intOf]; omega
    · have e : k = n := by omega
      subst e
      go_wp2
      go_ret
      refine ⟨_, rfl, ?_, ?_⟩
      · rw [← HS1.out]
        refine ⟨HB1.out.size, ?_⟩
        rcases Nat.eq_zero_or_pos k with h0 | h0
        · obtain ⟨e1, e2⟩ := HNil.out h0
          subst e1 e2
          exact .inl ⟨h0, HStr.out.box⟩
        · refine .inr ⟨h0, ?_⟩
          obtain ⟨q, p, qc, pc, h⟩ := HStr.out.lo h0 HB1.out.size (fun i j hi hj => ltCs_at HLt.out HL.out hi hj)
          exact ⟨q, p, qc, pc, g, _, h⟩
      · exact HB1.out.trans (HStr.out.bel.mono HB1.out.size)
end Go.Proofs.Ytandllekeimpgaa
namespace Go.Proofs.Ytandllekeimpgaa
open Go.RowKit Fl Ieee
set_option maxRecDepth 20000
attribute [local go_sem] run_store_float run_store_complex
theorem pFin_cn (z : C) : pFinite (cn .f64 z.1, cn .f64 z.2) = pFinite z := by
  unfold pFinite
  exact congr (congrArg and (isFin_cn .f64 z.1)) (isFin_cn .f64 z.2)
/-- The first number that is not finite. -/
def badAt (l : List C) : Nat := l.findIdx fun z => !pFinite z
def S0 (l : List C) (n : Nat) : El := ⟨matE l n, id, false⟩
/-- What is told: the error and where. -/
def ofF (r c : Int) (l : List C) : Int × Int :=
  if okM r c l.length && (r == c) then (if badAt l < l.length then (5, (badAt l : Int)) else (elRun r.toNat (S0 l r.toNat) r.toNat).1) else (4, -1)
def ofS (r : Int) (l : List C) : El := (elRun r.toNat (S0 l r.toNat) r.toNat).2
theorem badAt_le {l : List C} : badAt l ≤ l.length := List.findIdx_le_length
theorem badAt_all {l : List C} (h : ¬ badAt l < l.length) : ∀ z ∈ l, pFinite z = true := by
  have h1 : badAt l = l.length := by have := badAt_le (l := l); omega
  have h2 := List.findIdx_eq_length.1 h1
  intro z hz
  have := h2 z hz
  simpa using this
theorem badAt_of {l : List C} {k : Nat} {z : C} (hk : ∀ i u, i < k → l[i]? = some u → pFinite u = true) (hz : l[k]? = some z) (hb : pFinite z = false) : badAt l = k := by
  have hlt := lt_of_some hz
  have hz' : l[k] = z := by rw [List.getElem?_eq_getElem hlt] at hz; exact Option.some.inj hz
  refine (List.findIdx_eq hlt).2 ⟨by rw [hz', hb]; rfl, fun j hj => ?_⟩
  rw [hk j _ hj (List.getElem?_eq_getElem (by omega))]; rfl
theorem matE_fin {l : List C} {n : Nat} (hl : l.length = n * n) (h : ∀ z ∈ l, pFinite z = true) : finTo (matE l n) n := fun i j hi hj => by
  exact h _ (List.mem_of_getElem? (at_ok hl hi hj))
/-- How an elimination ends. -/
def RetOf (f : Int × Int) (n : Nat) (S : El) (w : World) (e : Ending) (w' : World) : Prop :=
  ∃ v, e = .returned (.tuple #[v, .agg #[.int .i64 f.1, .int .i64 f.2]]) ∧ Below w.heap.size w w' ∧ (f.1 = 0 → f = (0, 0) ∧ ∃ b, v = .pointer (some ⟨b, 0, none⟩) ∧ Has9 w' w.heap.size b n S) ∧ (f.1 ≠ 0 → v = .pointer none)
theorem elRun_zero {n : Nat} {S : El} : ∀ k, (elRun n S k).1.1 = 0 → (elRun n S k).1 = (0, 0)
  | 0, _ => rfl
  | k + 1, h => by
    by_cases h0 : (elRun n S k).1.1 = 0
    · by_cases he : elErr n k (elRun n S k).2 = 0
      · rw [elRun_ok h0 he]
      · rw [elRun_bad h0 he] at h; exact absurd h he
    · rw [elRun, if_neg h0] at h; exact absurd h h0
theorem elRun_at {n k : Nat} {S : El} (hk : k < n) (h0 : (elRun n S k).1.1 = 0) (he : elErr n k (elRun n S k).2 ≠ 0) : (elRun n S n).1 = (elErr n k (elRun n S k).2, (k : Int)) := by
  have h1 := elRun_bad h0 he
  have h2 : (elRun n S (k + 1)).1.1 ≠ 0 := by rw [h1]; exact he
  have h3 := elRun_stays h2 (n - (k + 1))
  rw [show k + 1 + (n - (k + 1)) = n by omega] at h3
  rw [h3, h1]
theorem row2 {w : World} {b : Nat} {x y : Value} {t : TypeId} (hx : w.heap[b]? = some (.cells #[x, y] t)) :
    w.cell? ⟨b, 0, none⟩ = some x ∧ w.cell? ⟨b, 1, none⟩ = some y ∧ (∀ j, w.frozen? ⟨b, j, none⟩ = false) := by
  refine ⟨?_, ?_, fun j => frozen_of_row w b j _ _ hx⟩
  · rw [cell_of_row w b 0 _ _ _ hx]; rfl
  · rw [cell_of_row w b 1 _ _ _ hx]; rfl
theorem set2 {w : World} {b : Nat} {x y u v : Value} (h0 : w.cell? ⟨b, 0, none⟩ = some x) (h1 : w.cell? ⟨b, 1, none⟩ = some y) :
    ((w.setCell ⟨b, 0, none⟩ u).setCell ⟨b, 1, none⟩ v).cell? ⟨b, 0, none⟩ = some u ∧ ((w.setCell ⟨b, 0, none⟩ u).setCell ⟨b, 1, none⟩ v).cell? ⟨b, 1, none⟩ = some v := by
  have a1 : (w.setCell ⟨b, 0, none⟩ u).cell? ⟨b, 1, none⟩ = some y := (World.cell?_setCell_other _ _ _ _ (by simp)).trans h1
  exact ⟨(World.cell?_setCell_other _ _ _ _ (by simp)).trans (World.cell?_setCell_same _ _ _ h0), World.cell?_setCell_same _ _ _ a1⟩
theorem Lo.base {W : World} {B B' b q p n qc pc : Nat} {g c : Nat → Nat} {S : El} (h : Lo W B b q p n qc pc g c S) (hB : B' ≤ B) : Lo W B' b q p n qc pc g c S :=
  { h with
    tab := { h.tab with gB := fun i hi => Nat.le_trans hB (h.tab.gB i hi), qB := Nat.le_trans hB h.tab.qB, pB := Nat.le_trans hB h.tab.pB }
    bB := Nat.le_trans hB h.bB }
theorem Lo.keep {W V : World} {B b q p n qc pc : Nat} {g c : Nat → Nat} {S : El} (h : Lo W B b q p n qc pc g c S) (hk : ∀ j, B ≤ j → j < W.heap.size → V.heap[j]? = W.heap[j]?) : Lo V B b q p n qc pc g c S :=
  { h with
    box := (hk b h.bB h.lt).trans h.box
    tab :=
      { h.tab with
        rows := h.tab.rows.of_block (hk q h.tab.qB h.tab.rows.lt)
        ord := h.tab.ord.of_block (hk p h.tab.pB h.tab.ord.lt)
        row := fun i hi => (h.tab.row i hi).of_block (hk _ (h.tab.gB i hi) (h.tab.row i hi).lt) } }
theorem Has9.base {W : World} {B B' b n : Nat} {S : El} (h : Has9 W B b n S) (hB : B' ≤ B) : Has9 W B' b n S :=
  ⟨Nat.le_trans hB h.1, h.2.imp id fun ⟨h0, q, p, qc, pc, g, c, hL⟩ => ⟨h0, q, p, qc, pc, g, c, hL.base hB⟩⟩
theorem Has9.lt {W : World} {B b n : Nat} {S : El} (h : Has9 W B b n S) : b < W.heap.size := by
  rcases h.2 with ⟨_, h⟩ | ⟨_, q, p, qc, pc, g, c, h⟩
  · exact row_lt h
  · exact h.lt
theorem Has9.keep {W V : World} {B b n : Nat} {S : El} (h : Has9 W B b n S) (hk : ∀ j, B ≤ j → j < W.heap.size → V.heap[j]? = W.heap[j]?) : Has9 V B b n S :=
  ⟨h.1, h.2.imp (fun ⟨h0, hx⟩ => ⟨h0, (hk b h.1 (row_lt hx)).trans hx⟩) fun ⟨h0, q, p, qc, pc, g, c, hL⟩ => ⟨h0, q, p, qc, pc, g, c, hL.keep hk⟩⟩
theorem Has9.below {W V : World} {B b n : Nat} {S : El} (h : Has9 W B b n S) (hb : Below W.heap.size W V) : Has9 V B b n S :=
  h.keep fun j _ hj => hb.block j hj
theorem Has9.other {W : World} {B b n : Nat} {S : El} (h : Has9 W B b n S) {a : Addr} (ha : a.block < B) (v : Value) : Has9 (W.setCell a v) B b n S :=
  h.keep fun j hj _ => Below.heap_setCell _ _ _ _ (by omega)
/-- Behind the frame: the matrix in its box, the fault's cell. -/
theorem frame9 {w W1 : World} {r c : Int} {s x y : Value} {t t' : TypeId} (hb : Below ((w.alloc (.cells #[.int .i64 r, .int .i64 c, s] t)).alloc (.cells #[x, y] t')).heap.size ((w.alloc (.cells #[.int .i64 r, .int .i64 c, s] t)).alloc (.cells #[x, y] t')) W1) :
    Box W1 w.heap.size r c s ∧ W1.heap[w.heap.size + 1]? = some (.cells #[x, y] t') ∧ Below w.heap.size w W1 ∧ w.heap.size + 2 ≤ W1.heap.size := by
  obtain ⟨w1, hw1⟩ : ∃ w1, w1 = w.alloc (.cells #[.int .i64 r, .int .i64 c, s] t) := ⟨_, rfl⟩
  have e1 : w1.heap.size = w.heap.size + 1 := by rw [hw1]; simp
  have hbx : Box w1 w.heap.size r c s := by rw [hw1]; exact Box.new _ _ _ _ _
  have hb1 : Below w.heap.size w w1 := by rw [hw1]; exact below_new _ _
  rw [← hw1] at hb
  have e2 : (w1.alloc (.cells #[x, y] t')).heap.size = w.heap.size + 2 := by simp [e1]
  have hb2 : Below w1.heap.size w1 (w1.alloc (.cells #[x, y] t')) := below_new _ _
  have hn := heap_alloc_new w1 (.cells #[x, y] t')
  generalize w1.alloc (.cells #[x, y] t') = w2 at *
  refine ⟨(hbx.below hb2 (by omega)).below hb (by omega), ?_, (hb1.trans (hb2.mono (by omega))).trans (hb.mono (by omega)), by have := hb.size; omega⟩
  rw [hb.block _ (by omega), ← e1]; exact hn
theorem close9 {w W1 : World} {b : Nat} {f : Int × Int} {n : Nat} {S : El} {x y : Value} (hB : Below w.heap.size w W1) (hb : w.heap.size ≤ b) (hf : f.1 ≠ 0) :
    RetOf f n S w (.returned (.tuple #[.pointer none, .agg #[.int .i64 f.1, .int .i64 f.2]])) ((W1.setCell ⟨b, 0, none⟩ x).setCell ⟨b, 1, none⟩ y) :=
  ⟨_, rfl, (hB.setCell hb _).setCell hb _, fun h => absurd h hf, fun _ => rfl⟩
theorem Of_shape (r c : Int) (A : Option Addr) (l : List C) (cap : Nat) (w : World) (h : okM r c l.length = false ∨ (okM r c l.length = true ∧ (r == c) = false)) :
    Calls Try.prog 25 #[mval r c (.slice A l.length cap)] w (RetOf (ofF r c l) r.toNat (ofS r l) w) := by
  have hf : ofF r c l = (4, -1) := by
    unfold ofF
    rcases h with h | ⟨h, h'⟩
    · rw [h]; rfl
    · rw [h, h']; rfl
  rw [hf]
  have HC := Lib.hid (Check_c r c A l.length cap)
  rcases h with h | ⟨h, h'⟩
  · rw [h] at HC
    go_enter Try.func25, Try.ntmps25
    go_wp2_with fail
    refine (HC.out _).mono ?_
    rintro e W1 ⟨rfl, hb⟩
    obtain ⟨-, hrow, hbl, -⟩ := frame9 hb
    obtain ⟨r0, r1, fr⟩ := row2 hrow
    have f0 := fr 0
    have f1 := fr 1
    have HB := Lib.hid hbl
    clear hb hrow fr hbl h hf
    go_wp2
    obtain ⟨q0, q1⟩ := set2 (u := .int .i64 4) (v := .int .i64 (-1)) r0 r1
    refine bodyPost_ret (v := .tuple #[.pointer none, .agg #[.int .i64 4, .int .i64 (-1)]]) (by simp [results, Try.results25, go_sem, q0, q1]) rfl ?_
    exact close9 (f := (4, -1)) HB.out (by omega) (by decide)
  · rw [h] at HC
    have hrc : (r != c) = true := by simpa using h'
    go_enter Try.func25, Try.ntmps25
    go_wp2_with fail
    refine (HC.out _).mono ?_
    rintro e W1 ⟨rfl, hb⟩
    obtain ⟨⟨x0, x1, x2⟩, hrow, hbl, -⟩ := frame9 hb
    obtain ⟨r0, r1, fr⟩ := row2 hrow
    have f0 := fr 0
    have f1 := fr 1
    have HB := Lib.hid hbl
    clear hb hrow fr hbl h hf
    go_wp2
    obtain ⟨q0, q1⟩ := set2 (u := .int .i64 4) (v := .int .i64 (-1)) r0 r1
    refine bodyPost_ret (v := .tuple #[.pointer none, .agg #[.int .i64 4, .int .i64 (-1)]]) (by simp [results, Try.results25, go_sem, q0, q1]) rfl ?_
    exact close9 (f := (4, -1)) HB.out (by omega) (by decide)
theorem step_e (er : Int) (B b q p n qc pc k : Nat) (g c : Nat → Nat) (S : El) (w : World) (hn : n ≤ 64) (hk : k < n) (hL : Lo w B b q p n qc pc g c S) (hf : finTo S.E n) (hB : B ≤ w.heap.size) (he : elErr n k S = er) :
    Calls Try.prog 51 #[.pointer (some ⟨b, 0, none⟩), .int .i64 (k : Nat)] w fun e w' => e = .returned (.int .i64 er) ∧ Below B w w' ∧ (er = 0 → ∃ g c, Lo w' B b q p n qc pc g c (elStep n k S)) :=
  (step_c B b q p n qc pc k g c S w hn hk hL hf hB).mono fun _ _ ⟨h1, h2, h3⟩ => ⟨by rw [h1, he], h2, fun h => h3 (he.trans h)⟩
set_option maxHeartbeats 4000000 in
theorem Of_run (n : Nat) (A : Option Addr) (l : List C) (cap : Nat) (w : World) (hn : n ≤ 64) (hl : l.length = n * n) (hcap : l.length ≤ cap) (hrd : Reads w w.heap.size A (nums l)) (hlt : ltCs l) :
    Calls Try.prog 25 #[mval n n (.slice A l.length cap)] w (RetOf (ofF n n l) n (ofS n l) w) := by
  have HC := Lib.hid (Check_c n n A l.length cap)
  have ho : okM n n l.length = true := okM_iff.2 ⟨by omega, by omega, by omega, by omega, by rw [hl, Int.natCast_mul]⟩
  rw [ho] at HC
  have hF : ofF n n l = (if badAt l < l.length then (5, (badAt l : Int)) else (elRun n (S0 l n) n).1) := by
    unfold ofF; rw [ho]; simp
  have hS : ofS n l = (elRun n (S0 l n) n).2 := rfl
  have HF := Lib.hid hF
  have HS := Lib.hid hS
  have HN := Lib.hid hn
  have HL := Lib.hid hl
  have HCap := Lib.hid hcap
  have HRd := Lib.hid hrd
  have HLt := Lib.hid hlt
  have hl4 : l.length ≤ 4096 := by rw [hl]; exact prod_small hn hn
  have HL4 := Lib.hid hl4
  clear hn hl hcap hrd hlt ho hF hS hl4
  go_enter Try.func25, Try.ntmps25
  go_wp2_with fail
  refine (HC.out _).mono ?_
  rintro e W1 ⟨rfl, hb⟩
  obtain ⟨hbx, hrow, hbl, hsz⟩ := frame9 hb
  have HBx := Lib.hid hbx
  obtain ⟨x0, x1, x2⟩ := hbx
  have HRow := Lib.hid hrow
  have HB := Lib.hid hbl
  have HSz := Lib.hid hsz
  clear hb hrow hbl hsz
  go_wp2
  go_loopw [23] (fun i wr => ∃ k d : Nat, k ≤ l.length ∧ i = .int .i64 (k : Nat) ∧ (∀ i u, i < k → l[i]? = some u → pFinite u = true) ∧ wr = W1.drewN d) (fun i _ => l.length - (intOf i).toNat)
  case atStart => exact ⟨0, 0, Nat.zero_le _, rfl, fun i u h => by omega, rfl⟩
  case round =>
    obtain ⟨k, d, hk, rfl, hall, hwr⟩ := hrel
    have HAll := Lib.hid hall
    have HWr := Lib.hid hwr
    have hrow : wr.heap[w.heap.size + 1]? = some (.cells #[.int .i64 0, .int .i64 0] 62) := by rw [hwr]; exact HRow.out
    have hbw : Box wr w.heap.size n n (.slice A l.length cap) := by rw [hwr]; exact HBx.out
    have hBw : Below w.heap.size w wr := by rw [hwr]; exact below_drewN HB.out d
    have hsw : w.heap.size + 2 ≤ wr.heap.size := by rw [hwr]; exact HSz.out
    have HRw := Lib.hid hrow
    have HBw := Lib.hid hBw
    have HSw := Lib.hid hsw
    have hrdw := (HRd.out.below hBw).more hBw.size
    obtain ⟨y0, y1, y2⟩ := hbw
    clear hall hwr hrow hBw hsw x0 x1 x2
    have hkb : (k : Int) + 1 ≤ 5000 := by have := HL4.out; omega
    by_cases hlt : k < l.length
    · have hlti : (k : Int) < (l.length : Int) := Int.ofNat_lt.2 hlt
      obtain ⟨z, hz⟩ := some_of_lt hlt
      have hv : (nums l)[k]? = some (.complex .f64 z.1 z.2) := by simp [nums, hz]
      obtain ⟨ad, rfl, had, hcell⟩ := hrdw.at_ hv
      have hlz := HLt.out z (List.mem_of_getElem? hz)
      have hfi := Finite_c z.1 z.2 hlz.1 hlz.2 wr
      rw [pFin_cn] at hfi
      have HZ := Lib.hid hz
      have HFi := Lib.hid hfi
      clear hz hv had hlz hfi hrdw
      cases hg : pFinite z
      · rw [hg] at HFi
        have hbad : badAt l = k := badAt_of HAll.out HZ.out hg
        have hff : ofF n n l = (5, (k : Int)) := by rw [HF.out, hbad, if_pos hlt]
        have HFF := Lib.hid hff
        clear hbad hff hg
        go_wp2_with fail
        refine HFi.out.mono ?_
        rintro e w' ⟨d2, rfl, rfl⟩
        obtain ⟨r0, r1, fr⟩ := row2 (show (wr.drewN d2).heap[w.heap.size + 1]? = _ from HRw.out)
        have f0 := fr 0
        have f1 := fr 1
        clear fr
        go_wp2
        obtain ⟨q0, q1⟩ := set2 (u := .int .i64 5) (v := .int .i64 (k : Nat)) r0 r1
        refine bodyPost_ret (v := .tuple #[.pointer none, .agg #[.int .i64 5, .int .i64 (k : Nat)]]) (by simp [results, Try.results25, go_sem, q0, q1]) rfl ?_
        rw [HFF.out]
        exact close9 (f := (5, (k : Int))) (below_drewN HBw.out d2) (by omega) (by show (5 : Int) ≠ 0; decide)
      · rw [hg] at HFi
        have HG := Lib.hid hg
        clear hg
        go_wp2_with fail
        refine HFi.out.mono ?_
        rintro e w' ⟨d2, rfl, rfl⟩
        go_wp2
        go_roundw
        case rel =>
          refine ⟨k + 1, d + d2, hlt, by go_num, fun i u hi hu => ?_, by rw [HWr.out, World.drewN_drewN]⟩
          by_cases e : i = k
          · subst e
            have := HZ.out.symm.trans hu
            injection this with this
            rw [← this]; exact HG.out
          · exact HAll.out i u (by omega) hu
        case measure => simp [intOf]; omega
    · have e : k = l.length := by omega
      have hfin : ¬ badAt l < l.length := fun hb => by
        have h1 : (!pFinite l[badAt l]) = true := List.findIdx_getElem (w := hb)
        rw [HAll.out (badAt l) _ (by omega) (List.getElem?_eq_getElem hb)] at h1
        cases h1
      have HFn := Lib.hid (show ofF n n l = (elRun n (S0 l n) n).1 by rw [HF.out, if_neg hfin])
      have HFin := Lib.hid (show finTo (S0 l n).E n from matE_fin HL.out (badAt_all hfin))
      have HSt := Lib.hid (start_c n A l cap wr HN.out HL.out HCap.out hrdw HLt.out)
      obtain ⟨B0, hB0⟩ : ∃ B0, B0 = wr.heap.size := ⟨_, rfl⟩
      rw [← hB0] at HSw
      have HB0 := Lib.hid hB0
      clear hfin hrdw hB0
      go_wp2_with fail
      refine HSt.out.mono ?_
      rintro e W2 ⟨b, rfl, h9, hb⟩
      rw [← HB0.out] at h9
      have HRw2 := Lib.hid (row_keep hb HRw.out)
      have HB2 := Lib.hid (HBw.out.trans (hb.mono HBw.out.size))
      have hsz2 : B0 ≤ W2.heap.size := by rw [HB0.out]; exact hb.size
      have HSz2 := Lib.hid hsz2
      clear hb hsz2
      obtain ⟨hb0, h9⟩ := h9
      have HBb := Lib.hid hb0
      clear hb0
      rcases h9 with ⟨hn0, hbox⟩ | ⟨hn0, q, p, qc, pc, g, c, hLo⟩
      · subst hn0
        obtain ⟨-, z1, -, -, -⟩ := box4 hbox
        have HBox := Lib.hid hbox
        obtain ⟨r0, r1, fr⟩ := row2 HRw2.out
        have f0 := fr 0
        have f1 := fr 1
        clear hbox fr
        go_wp2
        go_loopw [41] (fun i wr => i = .int .i64 0 ∧ wr = W2) (fun _ _ => 0)
        case atStart => exact ⟨rfl, rfl⟩
        case round =>
          obtain ⟨rfl, rfl⟩ := hrel
          go_wp2
          obtain ⟨q0, q1⟩ := set2 (u := .int .i64 0) (v := .int .i64 0) r0 r1
          refine bodyPost_ret (v := .tuple #[.pointer (some ⟨b, 0, none⟩), .agg #[.int .i64 0, .int .i64 0]]) (by simp [results, Try.results25, go_sem, q0, q1]) rfl ?_
          rw [HFn.out, HS.out]
          refine ⟨_, rfl, (HB2.out.setCell (Nat.le_succ _) _).setCell (Nat.le_succ _) _, fun _ => ⟨rfl, b, rfl, ?_⟩, fun h => absurd rfl h⟩
          have h : Has9 _ B0 b 0 (S0 l 0) := ⟨HBb.out, .inl ⟨rfl, HBox.out⟩⟩
          exact ((h.other (by show w.heap.size + 1 < B0; have := HSw.out; omega) _).other (by show w.heap.size + 1 < B0; have := HSw.out; omega) _).base (by have := HSw.out; omega)
      · obtain ⟨-, z1, -, -, -⟩ := box4 hLo.box
        have HLo := Lib.hid hLo
        have HN0 := Lib.hid hn0
        clear hLo
        go_wp2
        go_loopw [41] (fun i wr => ∃ (k : Nat) (g c : Nat → Nat), k ≤ n ∧ i = .int .i64 (k : Nat) ∧ Lo wr B0 b q p n qc pc g c (elRun n (S0 l n) k).2 ∧ (elRun n (S0 l n) k).1.1 = 0 ∧ wr.heap[w.heap.size + 1]? = some (.cells #[.int .i64 0, .int .i64 0] 62) ∧ Below w.heap.size w wr ∧ B0 ≤ wr.heap.size) (fun i _ => n - (intOf i).toNat)
        case atStart => exact ⟨0, g, c, Nat.zero_le _, rfl, HLo.out, rfl, HRw2.out, HB2.out, HSz2.out⟩
        case round =>
          obtain ⟨k', g', c', hk', rfl, hLo', h0, hrow', hB', hs'⟩ := hrel
          have HLo' := Lib.hid hLo'
          have HRow' := Lib.hid hrow'
          have HBel' := Lib.hid hB'
          have HSz' := Lib.hid hs'
          have H0 := Lib.hid h0
          have hkb' : (k' : Int) + 1 ≤ 65 := by have := HN.out; omega
          clear hLo' h0 hB' hs' y0 y1 y2
          by_cases hlt : k' < n
          · have hlti : (k' : Int) < (n : Int) := Int.ofNat_lt.2 hlt
            obtain ⟨er, her⟩ : ∃ er, elErr n k' (elRun n (S0 l n) k').2 = er := ⟨_, rfl⟩
            have HEr := Lib.hid her
            have hstep := step_e er B0 b q p n qc pc k' g' c' _ _ HN.out hlt HLo'.out (elRun_fin HFin.out k' (by omega)) HSz'.out her
            have HStep := Lib.hid hstep
            clear hstep her hrow'
            rename World => wx
            go_wp2_with fail
            refine HStep.out.mono ?_
            rintro e W3 ⟨rfl, hb3, hok⟩
            have hrow3 := (hb3.block (w.heap.size + 1) (by have := HSw.out; omega)).trans HRow'.out
            have HB3 := Lib.hid (HBel'.out.trans (hb3.mono (by have := HSw.out; omega)))
            have HSz3 := Lib.hid (Nat.le_trans HSz'.out hb3.size)
            have HOk := Lib.hid hok
            have HRow3 := Lib.hid hrow3
            clear hb3 hok
            by_cases h0 : er = 0
            · subst h0
              clear hrow3
              go_wp2
              go_roundw
              case rel =>
                obtain ⟨g2, c2, hL2⟩ := HOk.out (by trivial)
                refine ⟨k' + 1, g2, c2, hlt, by go_num, ?_, ?_, HRow3.out, HB3.out, HSz3.out⟩
                · rw [elRun_ok H0.out HEr.out]; exact hL2
                · rw [elRun_ok H0.out HEr.out]
              case measure => simp [intOf]; omega
            · have hne : (er != 0) = true := by simpa using h0
              obtain ⟨r0, r1, fr⟩ := row2 hrow3
              have f0 := fr 0
              have f1 := fr 1
              have H0e := Lib.hid h0
              clear hrow3 fr h0
              go_wp2
              obtain ⟨q0, q1⟩ := set2 (u := .int .i64 er) (v := .int .i64 (k' : Nat)) r0 r1
              refine bodyPost_ret (v := .tuple #[.pointer none, .agg #[.int .i64 er, .int .i64 (k' : Nat)]]) (by simp [results, Try.results25, go_sem, q0, q1]) rfl ?_
              rw [HFn.out, elRun_at hlt H0.out (by rw [HEr.out]; exact H0e.out), HEr.out]
              exact close9 (f := (er, (k' : Int))) HB3.out (by omega) H0e.out
          · have e : k' = n := by omega
            subst e
            obtain ⟨r0, r1, fr⟩ := row2 hrow'
            have f0 := fr 0
            have f1 := fr 1
            clear hrow' fr
            go_wp2
            obtain ⟨q0, q1⟩ := set2 (u := .int .i64 0) (v := .int .i64 0) r0 r1
            refine bodyPost_ret (v := .tuple #[.pointer (some ⟨b, 0, none⟩), .agg #[.int .i64 0, .int .i64 0]]) (by simp [results, Try.results25, go_sem, q0, q1]) rfl ?_
            rw [HFn.out, HS.out, elRun_zero _ H0.out]
            refine ⟨_, rfl, (HBel'.out.setCell (Nat.le_succ _) _).setCell (Nat.le_succ _) _, fun _ => ⟨rfl, b, rfl, ?_⟩, fun h => absurd rfl h⟩
            have h : Has9 _ B0 b k' (elRun k' (S0 l k') k').2 := ⟨HBb.out, .inr ⟨HN0.out, q, p, qc, pc, g', c', HLo'.out⟩⟩
            exact ((h.other (by show w.heap.size + 1 < B0; have := HSw.out; omega) _).other (by show w.heap.size + 1 < B0; have := HSw.out; omega) _).base (by have := HSw.out; omega)
theorem Of_c (r c : Int) (A : Option Addr) (l : List C) (cap : Nat) (w : World) (hcap : l.length ≤ cap) (hrd : Reads w w.heap.size A (nums l)) (hlt : ltCs l) :
    Calls Try.prog 25 #[mval r c (.slice A l.length cap)] w (RetOf (ofF r c l) r.toNat (ofS r l) w) := by
  cases h : okM r c l.length
  · exact Of_shape r c A l cap w (.inl h)
  · cases h2 : (r == c)
    · exact Of_shape r c A l cap w (.inr ⟨h, h2⟩)
    · have e : r = c := by simpa using h2
      subst e
      obtain ⟨h3, h4, -, -, h5⟩ := okM_iff.1 h
      obtain ⟨n, rfl⟩ : ∃ n : Nat, r = (n : Int) := ⟨r.toNat, by omega⟩
      rw [← Int.natCast_mul] at h5
      exact Of_run n A l cap w (by omega) (by omega) hcap hrd hlt
end Go.Proofs.Ytandllekeimpgaa
namespace Go.Proofs.Ytandllekeimpgaa
open Go.RowKit Fl Ieee
set_option maxRecDepth 20000
attribute [local go_sem] run_store_float run_store_complex
/-- A value alone is told; nothing else turns. -/
def RetP (v : Value) (w : World) (e : Ending) (w' : World) : Prop := e = .returned v ∧ w = w'
/-- The elimination's own cells. -/
theorem Has9.cells {W : World} {B b n : Nat} {S : El} (h : Has9 W B b n S) :
    ∃ A2 c2 A3 c3, W.cell? ⟨b, 0, none⟩ = some (.bool true) ∧ W.cell? ⟨b, 1, none⟩ = some (.slice A2 n c2) ∧ W.cell? ⟨b, 2, none⟩ = some (.slice A3 n c3) ∧ W.cell? ⟨b, 3, none⟩ = some (.int .i64 (sgI S.s)) := by
  rcases h.2 with ⟨h0, hx⟩ | ⟨h0, q, p, qc, pc, g, c, hL⟩
  · subst h0
    obtain ⟨x, y, z, u, -⟩ := box4 hx
    exact ⟨_, _, _, _, x, y, z, u⟩
  · obtain ⟨x, y, z, u, -⟩ := box4 hL.box
    exact ⟨_, _, _, _, x, y, z, u⟩
theorem is9_t {B b n : Nat} {S : El} (W : World) (h : Has9 W B b n S) : Calls Try.prog 96 #[.pointer (some ⟨b, 0, none⟩)] W (RetP (.bool true) W) := by
  obtain ⟨A2, c2, A3, c3, x, -, -, -⟩ := h.cells
  clear h
  go_enter Try.func96, Try.ntmps96
  go_wp2
  go_ret; exact ⟨rfl, rfl⟩
theorem is9_nil (W : World) : Calls Try.prog 96 #[.pointer none] W (RetP (.bool false) W) := by
  go_enter Try.func96, Try.ntmps96
  go_wp2
  go_ret; exact ⟨rfl, rfl⟩
theorem is9_f {b : Nat} (W : World) (h : W.cell? ⟨b, 0, none⟩ = some (.bool false)) : Calls Try.prog 96 #[.pointer (some ⟨b, 0, none⟩)] W (RetP (.bool false) W) := by
  go_enter Try.func96, Try.ntmps96
  go_wp2
  go_ret; exact ⟨rfl, rfl⟩
theorem Size_c {B b n : Nat} {S : El} (W : World) (h : Has9 W B b n S) : Calls Try.prog 72 #[.pointer (some ⟨b, 0, none⟩)] W (RetP (.int .i64 (n : Nat)) W) := by
  have HI := Lib.hid (is9_t W h)
  obtain ⟨A2, c2, A3, c3, -, y, -, -⟩ := h.cells
  clear h
  go_enter Try.func72, Try.ntmps72
  go_wp2_with fail
  refine HI.out.mono ?_
  rintro e w' ⟨rfl, rfl⟩
  go_wp2
  go_ret; exact ⟨rfl, rfl⟩
theorem Sign_c {B b n : Nat} {S : El} (W : World) (h : Has9 W B b n S) : Calls Try.prog 71 #[.pointer (some ⟨b, 0, none⟩)] W (RetP (.int .i64 (sgI S.s)) W) := by
  have HI := Lib.hid (is9_t W h)
  obtain ⟨A2, c2, A3, c3, -, -, -, u⟩ := h.cells
  clear h
  go_enter Try.func71, Try.ntmps71
  go_wp2_with fail
  refine HI.out.mono ?_
  rintro e w' ⟨rfl, rfl⟩
  go_wp2
  go_ret; exact ⟨rfl, rfl⟩
/-- A list of whole numbers of one's own. -/
def RetO (n : Nat) (o : Nat → Nat) (w : World) (e : Ending) (w' : World) : Prop :=
  ∃ s, e = .returned s ∧ w'.ownsRow w.heap.size 3 1 s n ((List.range n).map fun i => .int .i64 (o i : Nat)) ∧ Below w.heap.size w w'
theorem mk_ints (n : Nat) : madeCells #[Value.int .i64 0] n = (List.replicate n (Value.int .i64 0)).toArray := by
  apply Array.ext
  · simp [size_madeCells]
  · intro i h1 h2
    simp [madeCells, Nat.mod_one]
/-- The order, as it lies. -/
theorem Has9.order {W : World} {B b n : Nat} {S : El} (h : Has9 W B b n S) :
    ∃ A3 c3, W.cell? ⟨b, 2, none⟩ = some (.slice A3 n c3) ∧ (0 < n → ∃ p, A3 = some ⟨p, 0, none⟩ ∧ p < W.heap.size ∧ ∀ i, i < n → W.cell? ⟨p, i, none⟩ = some (.int .i64 (S.o i : Nat))) := by
  rcases h.2 with ⟨h0, hx⟩ | ⟨h0, q, p, qc, pc, g, c, hL⟩
  · subst h0
    obtain ⟨x, y, z, u, -⟩ := box4 hx
    exact ⟨_, _, z, fun h => absurd h (Nat.lt_irrefl 0)⟩
  · obtain ⟨x, y, z, u, -⟩ := box4 hL.box
    exact ⟨_, _, z, fun _ => ⟨p, rfl, hL.tab.ord.lt, fun i hi => hL.tab.cellO hi⟩⟩
set_option maxHeartbeats 2000000 in
theorem Order_c {B b n : Nat} {S : El} (W : World) (h : Has9 W B b n S) (hn : n ≤ 64) : Calls Try.prog 100 #[.pointer (some ⟨b, 0, none⟩)] W (RetO n S.o W) := by
  have HI := Lib.hid (is9_t W h)
  have hmk := run_make_row' (P := Try.prog) 67 3 (.int .i64 0) 8 Try.underlying67 infoInt9 rfl .i64 .i64 n (by omega) (by omega)
  obtain ⟨A3, c3, z, hp⟩ := h.order
  have hbl := h.lt
  have HP := Lib.hid hp
  have HN := Lib.hid hn
  have z2 : ∀ o, (W.alloc o).cell? ⟨b, 2, none⟩ = some (.slice A3 n c3) := fun o => ((below_new W o).cell (p := ⟨b, 2, none⟩) hbl).trans z
  obtain ⟨xs, hxs⟩ : ∃ xs : List Value, xs = (List.range n).map fun i => .int .i64 (S.o i : Nat) := ⟨_, rfl⟩
  have hxl : xs.length = n := by rw [hxs]; simp
  have HXs := Lib.hid hxs
  have HNew := Lib.hid (show (W.alloc (.cells (madeCells #[Value.int .i64 0] n) 3)).heap[W.heap.size]? = some (.cells (List.replicate n (Value.int .i64 0)).toArray 3 (0, 0)) by rw [mk_ints]; exact heap_alloc_new _ _)
  have HMin := Lib.hid (show xs.length = Nat.min n n by rw [hxl]; exact (Nat.min_self n).symm)
  have HFit := Lib.hid (show 0 + xs.length ≤ (List.replicate n (Value.int .i64 0)).length by rw [hxl]; simp)
  have HOne := Lib.hid (show ∀ v ∈ xs, v.oneCell' = true by
    rw [hxs]; intro v hv; simp only [List.mem_map] at hv; obtain ⟨i, _, rfl⟩ := hv; rfl)
  have HBw := Lib.hid (below_new W (.cells (madeCells #[Value.int .i64 0] n) 3))
  have HSrc := Lib.hid (show 0 < xs.length → ∃ ad, A3 = some ad ∧ ∀ j v, xs[j]? = some v → (W.alloc (.cells (madeCells #[Value.int .i64 0] n) 3)).cell? (ad.add j) = some v from fun h0 => by
    obtain ⟨p, rfl, hp1, hp2⟩ := hp (by omega)
    refine ⟨_, rfl, fun j v hv => ?_⟩
    have hj : j < n := by have := lt_of_some hv; omega
    rw [add0]
    have e : v = .int .i64 (S.o j : Nat) := by rw [hxs] at hv; simpa [hj] using hv.symm
    rw [e]
    exact ((below_new W _).cell (p := ⟨p, j, none⟩) hp1).trans (hp2 j hj))
  have HXl := Lib.hid hxl
  clear h hp hn hbl hxs hxl
  go_enter Try.func100, Try.ntmps100
  go_wp2_with (first
    | (go_at_call 96; refine HI.out.mono ?_; rintro e w' ⟨rfl, rfl⟩)
    | (with_reducible refine wpList_copy_splice rfl (.tmp 13) (.tmp 17) 67 67 rfl 3 Try.underlying67 (by kernel_rfl) _ _ _ _ _ _ rfl rfl W.heap.size 0 (List.replicate n (Value.int .i64 0)) 3 HNew.out xs HMin.out (fun h => ⟨rfl, HSrc.out h⟩) HFit.out HOne.out W.heap.size W HBw.out (Nat.le_refl _) ?_; intro w2 HG2 hB2))
  go_ret
  refine ⟨_, rfl, ?_, hB2⟩
  have e : splice (List.replicate n (Value.int .i64 0)) 0 xs = xs := by simp [splice, HXl.out]
  have hg := HG2.out
  rw [e] at hg
  rw [← HXs.out]
  exact ⟨by rw [HXl.out]; simp, .inr ⟨_, n, xs.toArray, rfl, Nat.le_refl _, hg, Nat.le_refl _, by have := HN.out; unfold maxLen; omega, by simp [HXl.out], by simp; exact List.take_of_length_le (by rw [HXl.out]; omega)⟩⟩
/-- The pivots. -/
def pivL (S : El) (n : Nat) : List C := (List.range n).map fun k => S.E k k
theorem pivL_succ (S : El) (n : Nat) : pivL S (n + 1) = pivL S n ++ [S.E n n] := by
  unfold pivL; rw [List.range_succ, List.map_append]; rfl
/-- A number, as it lies. -/
theorem Has9.num {W : World} {B b n i j : Nat} {S : El} (h : Has9 W B b n S) (hi : i < n) (hj : j < n) :
    ∃ q qc g c, W.cell? ⟨b, 1, none⟩ = some (.slice (some ⟨q, 0, none⟩) n qc) ∧ W.cell? ⟨q, i, none⟩ = some (.slice (some ⟨g, 0, none⟩) n c) ∧ W.cell? ⟨g, j, none⟩ = some (.complex .f64 (S.E i j).1 (S.E i j).2) ∧ ltC (S.E i j) := by
  rcases h.2 with ⟨h0, hx⟩ | ⟨h0, q, p, qc, pc, g, c, hL⟩
  · omega
  · obtain ⟨x, y, z, u, -⟩ := box4 hL.box
    exact ⟨q, qc, g i, c i, y, hL.tab.cellS hi, hL.tab.cellZ hi hj, hL.tab.lt i j hi hj⟩
end Go.Proofs.Ytandllekeimpgaa
namespace Go.Proofs.Ytandllekeimpgaa
open Go.RowKit Fl Ieee
set_option maxRecDepth 20000
attribute [local go_sem] run_store_float run_store_complex
theorem grown_set (w : World) (a : Addr) (v : Value) : w.grownBy (w.setCell a v) (some a.block) where
  os := rfl
  tape := rfl
  output := rfl
  size := by simp [World.setCell]
  block k _ hk := Below.heap_setCell _ _ _ _ (fun e => hk (by rw [e]))
theorem own_set_other {w : World} {B e size n : Nat} {v : Value} {xs : List Value} (h : w.ownsRow B e size v n xs) {a : Addr} (ha : v.ownBlock ≠ some a.block) (u : Value) : (w.setCell a u).ownsRow B e size v n xs :=
  h.kept (grown_set w a u) (.inr ha)
/-- At the head of the loops: k entries have been laid. -/
def PartR (n : Nat) (E : Nat → Nat → C) (w : World) (k : Nat) (wr : World) : Prop :=
  ∃ s zs, zs.map cnC = entries n E k ∧ ltCs zs ∧ wr.ownsRow (w.heap.size + 1) 45 1 s k (nums zs) ∧ s.ownBlock ≠ some (w.heap.size + 2) ∧
    wr.heap[w.heap.size + 2]? = some (.cells #[.int .i64 (n : Nat), .int .i64 (n : Nat), s] 28) ∧ wr.heap[w.heap.size]? = some zrow ∧ w.heap.size + 3 ≤ wr.heap.size ∧ Below w.heap.size w wr
theorem part_next {n k g cap' : Nat} {E : Nat → Nat → C} {w wr W1 w1 : World} {o : Obj} {s : Value} {zs : List C} {z : C}
    (hz : zs.map cnC = entries n E k) (hlz : ltCs zs) (hown : wr.ownsRow (w.heap.size + 1) 45 1 s k (nums zs)) (hne : s.ownBlock ≠ some (w.heap.size + 2))
    (hbx : wr.heap[w.heap.size + 2]? = some (.cells #[.int .i64 (n : Nat), .int .i64 (n : Nat), s] 28)) (hrc : wr.heap[w.heap.size]? = some zrow) (hsz : w.heap.size + 3 ≤ wr.heap.size) (hbel : Below w.heap.size w wr)
    (hbW : Below wr.drew.heap.size wr.drew W1) (hgrow : (W1.alloc o).grownBy w1 s.ownBlock) (hat : s.ownBlock = some g ∨ g = (W1.alloc o).heap.size)
    (hown1 : w1.ownsRow (w.heap.size + 1) 45 1 (.slice (some ⟨g, 0, none⟩) (k + 1) cap') (k + 1) (nums zs ++ [.complex .f64 z.1 z.2]))
    (hzv : cnC z = entry n E k) (hzl : ltC z) :
    w1.cell? ⟨w.heap.size + 2, 2, none⟩ = some s ∧ w1.frozen? ⟨w.heap.size + 2, 2, none⟩ = false ∧
      PartR n E w (k + 1) (w1.setCell ⟨w.heap.size + 2, 2, none⟩ (.slice (some ⟨g, 0, none⟩) (k + 1) cap')) := by
  have hs1 : wr.heap.size ≤ W1.heap.size := hbW.size
  have hs2 : W1.heap.size ≤ (W1.alloc o).heap.size := (below_new W1 o).size
  have FB : ∀ p, p < wr.heap.size → s.ownBlock ≠ some p → w1.heap[p]? = wr.heap[p]? := fun p hp hne => by
    have h1 : (W1.alloc o).heap[p]? = W1.heap[p]? := Below.heap_alloc W1 o p (by omega)
    have h2 : W1.heap[p]? = wr.heap[p]? := hbW.block p hp
    have h3 := hgrow.block p (by omega) (fun e => hne e.symm)
    exact h3.trans (h1.trans h2)
  have hbx1 := (FB _ (by omega) hne).trans hbx
  obtain ⟨-, -, c2, fr⟩ := box3 hbx1
  have hgne : g ≠ w.heap.size + 2 := by
    rcases hat with h | h
    · exact fun e => hne (by rw [h, e])
    · omega
  have hown2 : (Value.slice (some ⟨g, 0, none⟩) (k + 1) cap').ownBlock ≠ some (w.heap.size + 2) := fun e => by
    injection e with e; exact hgne e
  refine ⟨c2, fr 2, .slice (some ⟨g, 0, none⟩) (k + 1) cap', zs ++ [z], ?_, ?_, ?_, hown2, ?_, ?_, ?_, ?_⟩
  · rw [List.map_append, hz, entries_succ, List.map_cons, List.map_nil, hzv]
  · intro y hy
    rcases List.mem_append.1 hy with h | h
    · exact hlz y h
    · simp at h; rw [h]; exact hzl
  · have e : nums (zs ++ [z]) = nums zs ++ [.complex .f64 z.1 z.2] := by simp [nums]
    rw [e]
    exact own_set_other hown1 hown2 _
  · rw [heap_setCell_same _ _ 2 _ _ _ hbx1]; rfl
  · rw [Below.heap_setCell _ _ _ _ (by show w.heap.size ≠ w.heap.size + 2; omega), FB _ (by omega) (fun e => by have := (hown.lt _ e).1; omega)]; exact hrc
  · have : (w1.setCell ⟨w.heap.size + 2, 2, none⟩ (.slice (some ⟨g, 0, none⟩) (k + 1) cap')).heap.size = w1.heap.size := by simp [World.setCell]
    have := hgrow.size
    omega
  · have h1 : Below w.heap.size w W1 := hbel.drew.trans (hbW.mono (by show w.heap.size ≤ wr.heap.size; omega))
    have h2 : Below w.heap.size w (W1.alloc o) := h1.new (Nat.le_refl _) o
    exact (h2.grown hgrow (by omega) (fun j hj => by have := (hown.lt j hj).1; omega)).setCell (by show w.heap.size ≤ w.heap.size + 2; omega) _
theorem part_start (w : World) (n N : Nat) (hN : N ≤ 4096) :
    PartR n (fun _ _ => (0, 0)) w 0 (((w.alloc zrow).alloc (.cells (madeCells #[.complex .f64 0 0] N) 45)).alloc (.cells #[.int .i64 (n : Nat), .int .i64 (n : Nat), .slice (some ⟨w.heap.size + 1, 0, none⟩) 0 N] 28)) := by
  obtain ⟨w1, hw1⟩ : ∃ w1, w1 = w.alloc zrow := ⟨_, rfl⟩
  have e1 : w1.heap.size = w.heap.size + 1 := by rw [hw1]; simp
  have r1 : w1.heap[w.heap.size]? = some zrow := by rw [hw1]; exact heap_alloc_new _ _
  have hb1 : Below w.heap.size w w1 := by rw [hw1]; exact below_new _ _
  rw [← hw1]
  have hown := World.ownsRow_made w1 (madeCells #[.complex .f64 0 0] N) N (base := w1.heap.size) (e := 45) (size := 1) (Nat.le_refl _) (by unfold maxLen; omega) (by rw [size_madeCells]; simp)
  rw [e1] at hown
  obtain ⟨w2, hw2⟩ : ∃ w2, w2 = w1.alloc (.cells (madeCells #[.complex .f64 0 0] N) 45) := ⟨_, rfl⟩
  rw [← hw2] at hown ⊢
  have e2 : w2.heap.size = w.heap.size + 2 := by rw [hw2]; simp [e1]
  have hb2 : Below w1.heap.size w1 w2 := by rw [hw2]; exact below_new _ _
  refine ⟨.slice (some ⟨w.heap.size + 1, 0, none⟩) 0 N, [], rfl, (fun _ h => by cases h), hown.alloc _, (fun e => by have e : w.heap.size + 1 = w.heap.size + 2 := Option.some.inj e; omega), ?_, ?_, by simp [e2], ?_⟩
  · rw [← e2]; exact heap_alloc_new _ _
  · exact row_alloc (row_keep hb2 r1)
  · exact (hb1.trans (hb2.mono (by omega))).new (Nat.le_refl _) _
theorem PartR.zero {n : Nat} {E F : Nat → Nat → C} {w wr : World} (h : PartR n E w 0 wr) : PartR n F w 0 wr := by
  obtain ⟨s, zs, hz, h2⟩ := h
  exact ⟨s, zs, hz.trans (by simp [entries]), h2⟩
set_option maxHeartbeats 1000000 in
theorem part_c (n : Nat) (hn : n ≤ 64) (v : Value) (G : FuncId) (cap : Array Value) (E : Nat → Nat → C) (w : World)
    (hS : ∀ W : World, Below w.heap.size w W → Calls Try.prog 72 #[v] W (RetP (.int .i64 (n : Nat)) W))
    (hG : ∀ (args : Array Value) (W : World), (callFunc G args).run Try.prog W = .ok (.enter G args) W)
    (hE : ∀ (i j : Nat) (W : World), i < n → j < n → Below w.heap.size w W → Calls Try.prog G (#[.int .i64 (i : Nat), .int .i64 (j : Nat)] ++ cap) W (RetZ (E i j) W)) :
    Calls Try.prog 112 #[v, .func (.func G) #[] cap] w (RetMx n n (entries n E (n * n)) w) := by
  obtain ⟨i0, hi, hz0, hz1, hz2⟩ := info_parts infoNum
  have HE := Lib.hid hE
  have HSz := Lib.hid (hS _ (below_new w zrow))
  have hN := prod_small hn hn
  obtain ⟨N, hNe⟩ : ∃ N, N = n * n := ⟨_, rfl⟩
  rw [← hNe] at hN
  have hm : wrap64 ((n : Int) * (n : Int)) = (N : Int) := by rw [hNe, ← Int.natCast_mul, ← hNe]; unfold wrap64; omega
  have hmk : ∀ W : World, (Instr.makeSlice 26 (.int .i64 0) (.int .i64 (N : Int))).run Try.prog W = .ok (.slice (some ⟨W.heap.size, 0, none⟩) 0 N) (W.alloc (.cells (madeCells #[.complex .f64 0 0] N) 45)) := fun W => by
    have h := run_make (P := Try.prog) W 26 45 i0 (.complex .f64 0 0) Try.underlying26 hi hz0 .i64 .i64 0 (N : Int) (by omega) (by omega) (by rw [hz2]; omega) (by omega)
    rw [hz1, Nat.mul_one, Int.toNat_natCast, Int.toNat_zero] at h
    exact h
  have HP0 := Lib.hid ((part_start w n N hN).zero (F := E))
  have HNe := Lib.hid hNe
  have HN := Lib.hid hN
  have HN64 := Lib.hid hn
  clear hE hS hNe hN
  go_enter Try.func112, Try.ntmps112
  go_wp2_with fail
  refine HSz.out.mono ?_
  rintro e w' ⟨rfl, rfl⟩
  go_wp2
  clear hm hmk
  go_loopw [19] (fun i wr => ∃ a : Nat, a ≤ n ∧ i = .int .i64 (a : Nat) ∧ PartR n E w (a * n) wr) (fun i _ => n - (intOf i).toNat)
  case atStart => exact ⟨0, Nat.zero_le _, rfl, by rw [Nat.zero_mul]; exact HP0.out⟩
  case round =>
    obtain ⟨a, ha, rfl, hm2⟩ := hrel
    have HM := Lib.hid hm2
    have hab1 : (a : Int) + 1 ≤ 65 := by have := HN64.out; omega
    clear hm2
    by_cases hlt : a < n
    · go_wp2
      go_loopw [23] (fun i wr => ∃ b : Nat, b ≤ n ∧ i = .int .i64 (b : Nat) ∧ PartR n E w (a * n + b) wr) (fun i _ => n - (intOf i).toNat)
      case atStart => exact ⟨0, Nat.zero_le _, rfl, HM.out⟩
      case round =>
        obtain ⟨b, hb, rfl, hm2⟩ := hrel
        have HM2 := Lib.hid hm2
        clear hm2
        have hab2 : (b : Int) + 1 ≤ 65 := by have := HN64.out; omega
        by_cases hlt2 : b < n
        · obtain ⟨s, zs, hz, hlz, hown, hne, hbx, hrc, hsz, hbel⟩ := HM2.out
          obtain ⟨-, -, hc2, hfr⟩ := box3 hbx
          have HZ := Lib.hid hz
          have HL := Lib.hid hlz
          have HR := Lib.hid hrc
          have HB := Lib.hid hbel
          have HO := Lib.hid hown
          have HNe2 := Lib.hid hne
          have HBx := Lib.hid hbx
          have HS := Lib.hid hsz
          have hlen : zs.length = a * n + b := by have := congrArg List.length hz; simpa [entries] using this
          have HLen := Lib.hid hlen
          clear hz hlz hown hne hbx hrc hsz hbel hlen hfr
          have hab : a * n + b ≤ 64 * 64 := by
            have h1 : a * n ≤ 64 * 64 - n := by
              have h2 : (a + 1) * n ≤ 64 * 64 := Nat.mul_le_mul (by omega) HN64.out
              rw [Nat.add_mul, Nat.one_mul] at h2; omega
            omega
          go_wp2
          go_region_law (first
            | (refine step_append_lies _ rfl (.tmp 27) (.tmp 32) 26 rfl (w.heap.size + 1) 45 i0 (.complex .f64 0 0) 1 16 Try.underlying26 hi hz0 hz1 hz2 rfl (by decide) _ _ _ rfl ((own_below (w := wr.drew) HO.out hbW).alloc _) ⟨_, 0, none⟩ 1 1 [.complex .f64 z.1 z.2] rfl rfl (cell_one_new _ _ _) (by intro u hu; simp at hu; subst hu; rfl) (by decide) (by unfold maxLen; omega) (by omega) (Nat.le_trans (Nat.le_trans (Nat.le_trans (Nat.add_le_add_left (by decide) _) HS.out) hbW.size) (below_new W1 _).size) _ rfl ?_; intro g cap' w1 hown1 hgrow1 hat1 hlt1; have hst := part_next HZ.out HL.out HO.out HNe2.out HBx.out HR.out HS.out HB.out hbW hgrow1 hat1 hown1 (hzv.trans (entry_at E hlt2).symm) hzl; have hk1 := hst.1; have hk2 := hst.2.1)
            | (go_simp; refine (HE.out a b _ hlt hlt2 HB.out.drew).mono ?_; rintro e W1 ⟨z, rfl, hzv, hzl, hbW⟩; have hc2' := (hbW.cell (p := ⟨w.heap.size + 2, 2, none⟩) (Nat.lt_of_lt_of_le (by show w.heap.size + 2 < w.heap.size + 3; omega) HS.out)).trans hc2; have hc3 := fun o => ((below_new W1 o).cell (p := ⟨w.heap.size + 2, 2, none⟩) (Nat.lt_of_lt_of_le (by show w.heap.size + 2 < w.heap.size + 3; omega) (Nat.le_trans HS.out hbW.size))).trans hc2'))
          all_goals
            have HST := Lib.hid hst.2.2
            clear hst hk1 hk2 hown1 hgrow1 hat1 hlt1
            go_wp2
            go_roundw
            case rel => exact ⟨b + 1, hlt2, by go_num, HST.out⟩
            case measure => simp [intOf]; omega
        · have e : b = n := by omega
          have HN2 : Hid (PartR n E w ((a + 1) * n) wr) := by
            have h := HM2.out
            rw [e] at h
            show PartR _ _ _ _ _
            rw [Nat.add_mul, Nat.one_mul]; exact h
          go_wp2
          go_roundw
          case rel => exact ⟨a + 1, by omega, by go_num, HN2.out⟩
          case measure => simp [intOf]; omega
    · have e : a = n := by omega
      subst e
      obtain ⟨s, zs, hz, hlz, hown, hne, hbx, hrc, hsz, hbel⟩ := HM.out
      obtain ⟨r0, r1, r2, fr⟩ := box3 hrc
      obtain ⟨x0, x1, x2, -⟩ := box3 hbx
      have f0 := fr 0
      have f1 := fr 1
      have f2 := fr 2
      obtain ⟨sA, sn, sc, rfl⟩ : ∃ A n c, s = .slice A n c := by
        rcases hown.2 with ⟨h, _⟩ | ⟨g, cap, cur, h, _⟩
        · exact ⟨_, _, _, h⟩
        · exact ⟨_, _, _, h⟩
      have HZ := Lib.hid hz
      have HL := Lib.hid hlz
      have HO := Lib.hid hown
      have HB := Lib.hid hbel
      clear hz hlz hown hbel hrc hsz hne hbx fr
      go_wp2
      obtain ⟨q0, q1, q2⟩ := set3 (u := .int .i64 (a : Nat)) (v := .int .i64 (a : Nat)) (t := .slice sA sn sc) r0 r1 r2
      refine bodyPost_ret (v := mval a a (.slice sA sn sc)) (by simp [results, Try.results112, go_sem, q0, q1, q2]) rfl ?_
      have hl : (entries a E (a * a)).length = a * a := by simp [entries]
      refine ⟨_, zs, rfl, HZ.out, HL.out, ?_, ?_⟩
      · rw [hl]
        exact own_base (ownsRow_setCell_below (ownsRow_setCell_below (ownsRow_setCell_below HO.out (by show w.heap.size < _; omega) _) (by show w.heap.size < _; omega) _) (by show w.heap.size < _; omega) _) (by omega)
      · exact ((HB.out.setCell (Nat.le_refl _) _).setCell (Nat.le_refl _) _).setCell (Nat.le_refl _) _
end Go.Proofs.Ytandllekeimpgaa
namespace Go.Proofs.Ytandllekeimpgaa
open Go.RowKit Fl Ieee
set_option maxRecDepth 20000
attribute [local go_sem] run_store_float run_store_complex
/-- The factors, the upper matrix. -/
def lowE (S : El) (i j : Nat) : C := if i = j then (fone, 0) else if j < i then S.E i j else (0, 0)
def uppE (S : El) (i j : Nat) : C := if j < i then (0, 0) else S.E i j
theorem LE_c {B b n bl : Nat} {S : El} (i j : Nat) (W : World) (h : Has9 W B b n S) (hf : finTo S.E n) (hi : i < n) (hj : j < n) (hp : W.cell? ⟨bl, 0, none⟩ = some (.pointer (some ⟨b, 0, none⟩))) :
    Calls Try.prog 113 #[.int .i64 (i : Nat), .int .i64 (j : Nat), .pointer (some ⟨bl, 0, none⟩)] W (RetZ (lowE S i j) W) := by
  by_cases e : i = j
  · subst e
    have hE : lowE S i i = (fone, 0) := if_pos rfl
    have HE := Lib.hid hE
    clear hE h hf hj
    go_enter Try.func113, Try.ntmps113
    go_wp2
    go_ret
    exact ⟨(fone, 0), rfl, by rw [HE.out]; decide, ⟨by decide, by decide⟩, Below.refl _ _⟩
  · have h1 : ((i : Int) == (j : Int)) = false := by simp; omega
    by_cases e2 : j < i
    · have hE : lowE S i j = S.E i j := by unfold lowE; rw [if_neg e, if_pos e2]
      have HE := Lib.hid hE
      obtain ⟨q, qc, g, c, c1, c2, c3, hl⟩ := h.num hi hj
      have HL := Lib.hid hl
      have HF := Lib.hid (hf i j hi hj)
      have h2 : (j : Int) < (i : Int) := Int.ofNat_lt.2 e2
      have h3 : (i : Int) < (n : Int) := Int.ofNat_lt.2 hi
      have h4 : (j : Int) < (n : Int) := Int.ofNat_lt.2 hj
      clear hE h hf hl e
      go_enter Try.func113, Try.ntmps113
      go_wp2
      go_ret
      exact ⟨S.E i j, rfl, by rw [HE.out]; exact fin_cn HF.out, HL.out, Below.refl _ _⟩
    · have hE : lowE S i j = (0, 0) := by unfold lowE; rw [if_neg e, if_neg e2]
      have HE := Lib.hid hE
      have h2 : ¬ (j : Int) < (i : Int) := by omega
      clear hE h hf e e2
      go_enter Try.func113, Try.ntmps113
      go_wp2
      go_ret
      exact ⟨(0, 0), rfl, by rw [HE.out]; decide, ⟨by decide, by decide⟩, Below.refl _ _⟩
theorem L_enters (args : Array Value) (W : World) : (callFunc 113 args).run Try.prog W = .ok (.enter 113 args) W :=
  enters_of Try.func113 (by kernel_rfl) rfl args W
theorem UE_c {B b n bl : Nat} {S : El} (i j : Nat) (W : World) (h : Has9 W B b n S) (hf : finTo S.E n) (hi : i < n) (hj : j < n) (hp : W.cell? ⟨bl, 0, none⟩ = some (.pointer (some ⟨b, 0, none⟩))) :
    Calls Try.prog 114 #[.int .i64 (i : Nat), .int .i64 (j : Nat), .pointer (some ⟨bl, 0, none⟩)] W (RetZ (uppE S i j) W) := by
  by_cases e2 : j < i
  · have hE : uppE S i j = (0, 0) := if_pos e2
    have HE := Lib.hid hE
    have h2 : (j : Int) < (i : Int) := Int.ofNat_lt.2 e2
    clear hE h hf
    go_enter Try.func114, Try.ntmps114
    go_wp2
    go_ret
    exact ⟨(0, 0), rfl, by rw [HE.out]; decide, ⟨by decide, by decide⟩, Below.refl _ _⟩
  · have hE : uppE S i j = S.E i j := if_neg e2
    have HE := Lib.hid hE
    obtain ⟨q, qc, g, c, c1, c2, c3, hl⟩ := h.num hi hj
    have HL := Lib.hid hl
    have HF := Lib.hid (hf i j hi hj)
    have h2 : ¬ (j : Int) < (i : Int) := by omega
    have h3 : (i : Int) < (n : Int) := Int.ofNat_lt.2 hi
    have h4 : (j : Int) < (n : Int) := Int.ofNat_lt.2 hj
    clear hE h hf hl e2
    go_enter Try.func114, Try.ntmps114
    go_wp2
    go_ret
    exact ⟨S.E i j, rfl, by rw [HE.out]; exact fin_cn HF.out, HL.out, Below.refl _ _⟩
theorem U_enters (args : Array Value) (W : World) : (callFunc 114 args).run Try.prog W = .ok (.enter 114 args) W :=
  enters_of Try.func114 (by kernel_rfl) rfl args W
theorem close_mx0 {w W1 : World} {b : Nat} {s x y z : Value} {zs l : List C} (hz : zs.map cnC = l) (hl : ltCs zs) (hown : W1.ownsRow (b + 1) 45 1 s l.length (nums zs)) (hB : Below w.heap.size w W1) (hb : w.heap.size ≤ b) :
    ∃ zs', zs'.map cnC = l ∧ ltCs zs' ∧ (((W1.setCell ⟨b, 0, none⟩ x).setCell ⟨b, 1, none⟩ y).setCell ⟨b, 2, none⟩ z).ownsRow w.heap.size 45 1 s l.length (nums zs') ∧ Below w.heap.size w (((W1.setCell ⟨b, 0, none⟩ x).setCell ⟨b, 1, none⟩ y).setCell ⟨b, 2, none⟩ z) :=
  ⟨zs, hz, hl, own_base (ownsRow_setCell_below (ownsRow_setCell_below (ownsRow_setCell_below hown (by show b < b + 1; omega) _) (by show b < b + 1; omega) _) (by show b < b + 1; omega) _) (by omega),
    ((hB.setCell hb _).setCell hb _).setCell hb _⟩
theorem frameP {w : World} {v : Value} {t : TypeId} {o : Obj} : ((w.alloc (.cells #[v] t)).alloc o).cell? ⟨w.heap.size, 0, none⟩ = some v ∧ ((w.alloc (.cells #[v] t)).alloc o).heap[w.heap.size + 1]? = some o ∧ Below w.heap.size w ((w.alloc (.cells #[v] t)).alloc o) := by
  refine ⟨?_, row_new2 _ _ _, (below_new _ _).new (Nat.le_refl _) _⟩
  rw [((below_new (w.alloc (.cells #[v] t)) o).cell (p := ⟨w.heap.size, 0, none⟩) (by simp)), World.cell?_alloc_new]; rfl
set_option maxHeartbeats 1000000 in
theorem L_c {B b n : Nat} {S : El} (w : World) (h : Has9 w B b n S) (hf : finTo S.E n) (hn : n ≤ 64) : Calls Try.prog 98 #[.pointer (some ⟨b, 0, none⟩)] w (RetMx n n (entries n (lowE S) (n * n)) w) := by
  obtain ⟨p0, hrow, hb0⟩ := frameP (w := w) (v := .pointer (some ⟨b, 0, none⟩)) (t := 53) (o := zrow)
  have HRow := Lib.hid hrow
  have HP0 := Lib.hid p0
  have HB0 := Lib.hid hb0
  have H9 := Lib.hid h
  have HF := Lib.hid hf
  have HN := Lib.hid hn
  have hmf : ∀ (fn : Fn) (first cap : Array Value) (W : World), (Instr.makeFunc fn first cap).run Try.prog W = .ok (.func fn first cap) W := fun _ _ _ _ => rfl
  clear hrow hb0 h hf hn
  go_enter Try.func98, Try.ntmps98
  go_wp2_with fail
  refine (part_c n HN.out (.pointer (some ⟨b, 0, none⟩)) 113 #[.pointer (some ⟨w.heap.size, 0, none⟩)] (lowE S) _ ?_ L_enters ?_).mono ?_
  · intro W hW
    exact Size_c W ((H9.out.below HB0.out).below hW)
  · intro i j W hi hj hW
    exact LE_c i j W ((H9.out.below HB0.out).below hW) HF.out hi hj ((hW.cell (p := ⟨w.heap.size, 0, none⟩) (by simp; omega)).trans HP0.out)
  rintro e W2 ⟨s, zs, rfl, hz, hlz, hown, hb2⟩
  obtain ⟨r0, r1, r2, fr⟩ := box3 ((hb2.block (w.heap.size + 1) (by simp)).trans HRow.out)
  have f0 := fr 0
  have f1 := fr 1
  have f2 := fr 2
  obtain ⟨sA, sn, sc, rfl, -⟩ := slice_of_own hown
  have HZ := Lib.hid hz
  have HL := Lib.hid hlz
  have HO := Lib.hid (own_base hown (show w.heap.size + 1 + 1 ≤ _ by simp))
  have HB2 := Lib.hid (HB0.out.trans (hb2.mono HB0.out.size))
  clear hz hlz hown hb2 fr p0
  go_wp2
  obtain ⟨q0, q1, q2⟩ := set3 (u := .int .i64 (n : Nat)) (v := .int .i64 (n : Nat)) (t := .slice sA sn sc) r0 r1 r2
  refine bodyPost_ret (v := mval n n (.slice sA sn sc)) (by simp [results, Try.results98, go_sem, q0, q1, q2]) rfl ?_
  obtain ⟨zs', h1, h2, h3, h4⟩ := close_mx0 (x := .int .i64 (n : Nat)) (y := .int .i64 (n : Nat)) (z := .slice sA sn sc) HZ.out HL.out HO.out HB2.out (Nat.le_succ _)
  exact ⟨_, zs', rfl, h1, h2, h3, h4⟩
set_option maxHeartbeats 1000000 in
theorem U_c {B b n : Nat} {S : El} (w : World) (h : Has9 w B b n S) (hf : finTo S.E n) (hn : n ≤ 64) : Calls Try.prog 99 #[.pointer (some ⟨b, 0, none⟩)] w (RetMx n n (entries n (uppE S) (n * n)) w) := by
  obtain ⟨p0, hrow, hb0⟩ := frameP (w := w) (v := .pointer (some ⟨b, 0, none⟩)) (t := 53) (o := zrow)
  have HRow := Lib.hid hrow
  have HP0 := Lib.hid p0
  have HB0 := Lib.hid hb0
  have H9 := Lib.hid h
  have HF := Lib.hid hf
  have HN := Lib.hid hn
  have hmf : ∀ (fn : Fn) (first cap : Array Value) (W : World), (Instr.makeFunc fn first cap).run Try.prog W = .ok (.func fn first cap) W := fun _ _ _ _ => rfl
  clear hrow hb0 h hf hn
  go_enter Try.func99, Try.ntmps99
  go_wp2_with fail
  refine (part_c n HN.out (.pointer (some ⟨b, 0, none⟩)) 114 #[.pointer (some ⟨w.heap.size, 0, none⟩)] (uppE S) _ ?_ U_enters ?_).mono ?_
  · intro W hW
    exact Size_c W ((H9.out.below HB0.out).below hW)
  · intro i j W hi hj hW
    exact UE_c i j W ((H9.out.below HB0.out).below hW) HF.out hi hj ((hW.cell (p := ⟨w.heap.size, 0, none⟩) (by simp; omega)).trans HP0.out)
  rintro e W2 ⟨s, zs, rfl, hz, hlz, hown, hb2⟩
  obtain ⟨r0, r1, r2, fr⟩ := box3 ((hb2.block (w.heap.size + 1) (by simp)).trans HRow.out)
  have f0 := fr 0
  have f1 := fr 1
  have f2 := fr 2
  obtain ⟨sA, sn, sc, rfl, -⟩ := slice_of_own hown
  have HZ := Lib.hid hz
  have HL := Lib.hid hlz
  have HO := Lib.hid (own_base hown (show w.heap.size + 1 + 1 ≤ _ by simp))
  have HB2 := Lib.hid (HB0.out.trans (hb2.mono HB0.out.size))
  clear hz hlz hown hb2 fr p0
  go_wp2
  obtain ⟨q0, q1, q2⟩ := set3 (u := .int .i64 (n : Nat)) (v := .int .i64 (n : Nat)) (t := .slice sA sn sc) r0 r1 r2
  refine bodyPost_ret (v := mval n n (.slice sA sn sc)) (by simp [results, Try.results99, go_sem, q0, q1, q2]) rfl ?_
  obtain ⟨zs', h1, h2, h3, h4⟩ := close_mx0 (x := .int .i64 (n : Nat)) (y := .int .i64 (n : Nat)) (z := .slice sA sn sc) HZ.out HL.out HO.out HB2.out (Nat.le_succ _)
  exact ⟨_, zs', rfl, h1, h2, h3, h4⟩
end Go.Proofs.Ytandllekeimpgaa
namespace Go.Proofs.Ytandllekeimpgaa
open Go.RowKit Fl Ieee
set_option maxRecDepth 20000
attribute [local go_sem] run_store_float run_store_complex
theorem own_new {w : World} {o : Obj} {l : List C} (hl : l.length ≤ maxLen) : ((w.alloc o).alloc (.cells (nums l).toArray 45)).ownsRow w.heap.size 45 1 (.slice (some ⟨w.heap.size + 1, 0, none⟩) l.length l.length) l.length (nums l) :=
  ⟨by simp [nums], .inr ⟨_, l.length, (nums l).toArray, rfl, Nat.le_succ _, row_new2 _ _ _, Nat.le_refl _, hl, by simp [nums], by simp [nums]; exact List.take_of_length_le (by simp)⟩⟩
/-- A list as it is told: where it lies, that it reads. -/
theorem RetMs.lies {w w' : World} {r c : Int} {l : List C} {e : Ending} (h : RetMs r c l w e w') : ∃ A cap, e = .returned (mval r c (.slice A l.length cap)) ∧ Reads w' w'.heap.size A (nums l) ∧ l.length ≤ cap ∧ (A = none → cap = 0) ∧ w'.ownsRow w.heap.size 45 1 (.slice A l.length cap) l.length (nums l) ∧ Below w.heap.size w w' := by
  obtain ⟨s, rfl, hown, hb⟩ := h
  obtain ⟨A, cap, rfl, h1, h2, h3⟩ := own_reads hown
  exact ⟨A, cap, rfl, h1, h2, h3, hown, hb⟩
theorem RetMx.lies {w w' : World} {r c : Nat} {l : List C} {e : Ending} (h : RetMx r c l w e w') : ∃ A zs cap, e = .returned (mval r c (.slice A zs.length cap)) ∧ zs.map cnC = l ∧ ltCs zs ∧ Reads w' w'.heap.size A (nums zs) ∧ zs.length ≤ cap ∧ (A = none → cap = 0) ∧ w'.ownsRow w.heap.size 45 1 (.slice A zs.length cap) zs.length (nums zs) ∧ Below w.heap.size w w' := by
  obtain ⟨s, zs, rfl, hz, hlz, hown, hb⟩ := h
  have e : l.length = zs.length := by rw [← hz, List.length_map]
  rw [e] at hown
  obtain ⟨A, cap, rfl, h1, h2, h3⟩ := own_reads hown
  exact ⟨A, zs, cap, rfl, hz, hlz, h1, h2, h3, hown, hb⟩
theorem RetO.lies {w w' : World} {n : Nat} {o : Nat → Nat} {e : Ending} (h : RetO n o w e w') : ∃ A cap, e = .returned (.slice A n cap) ∧ Reads w' w'.heap.size A (intsV ((List.range n).map fun i => ((o i : Nat) : Int))) ∧ w'.ownsRow w.heap.size 3 1 (.slice A n cap) n ((List.range n).map fun i => .int .i64 (o i : Nat)) ∧ Below w.heap.size w w' := by
  obtain ⟨s, rfl, hown, hb⟩ := h
  obtain ⟨A, m, cap, rfl, rfl⟩ := slice_of_own hown
  refine ⟨A, cap, rfl, ?_, hown, hb⟩
  have h1 := Reads.of_own hown
  have e : intsV ((List.range m).map fun i => ((o i : Nat) : Int)) = (List.range m).map fun i => Value.int .i64 (o i : Nat) := by simp [intsV, Function.comp_def]
  rw [e]; exact h1
/-- Of: it went well. -/
theorem RetOf.ok {n : Nat} {f : Int × Int} {S : El} {w w' : World} {e : Ending} (h : RetOf f n S w e w') (hf : f = (0, 0)) : ∃ b, e = .returned (.tuple #[.pointer (some ⟨b, 0, none⟩), .agg #[.int .i64 0, .int .i64 0]]) ∧ Has9 w' w.heap.size b n S ∧ Below w.heap.size w w' := by
  subst hf
  obtain ⟨v, rfl, hb, h1, -⟩ := h
  obtain ⟨-, b, rfl, h9⟩ := h1 rfl
  exact ⟨b, rfl, h9, hb⟩
/-- Of: it was refused. -/
theorem RetOf.bad {n : Nat} {f : Int × Int} {S : El} {w w' : World} {e : Ending} (h : RetOf f n S w e w') (hf : f.1 ≠ 0) : e = .returned (.tuple #[.pointer none, .agg #[.int .i64 f.1, .int .i64 f.2]]) ∧ Below w.heap.size w w' := by
  obtain ⟨v, rfl, hb, -, h1⟩ := h
  rw [h1 hf]
  exact ⟨rfl, hb⟩
theorem cnC_idem {x y : C} (h : y = cnC x) : cnC y = y := by rw [h, cnC_cnC]
/-- The first example. -/
def exA : List C := [(0, fone), (fone, 0), (fone, 0), (0, 0)]
theorem exA_f : ofF 2 2 exA = (0, 0) := by decide +kernel
theorem exA_o : ((List.range 2).map fun i => (((ofS 2 exA).o i : Nat) : Int)) = [0, 1] := by decide +kernel
theorem exA_s : sgI (ofS 2 exA).s = 1 := by decide +kernel
theorem exA_u : entries 2 (uppE (ofS 2 exA)) 4 = [(0, fone), (fone, 0), (0, 0), (0, fone)] := by decide +kernel
theorem exA_fin : ∀ z ∈ exA, pFinite z = true := by decide +kernel
theorem exA_lt : ltCs exA := by intro z hz; simp [exA] at hz; rcases hz with rfl | rfl | rfl | rfl <;> exact ⟨by decide, by decide⟩
theorem exA_fin' : finTo (ofS 2 exA).E 2 := elRun_fin (matE_fin (l := exA) (n := 2) rfl exA_fin) 2 (Nat.le_refl _)
end Go.Proofs.Ytandllekeimpgaa
namespace Go.Proofs.Ytandllekeimpgaa
open Go.RowKit Fl Ieee
set_option maxRecDepth 20000
attribute [local go_sem] run_store_float run_store_complex
theorem RetMx.liesM {w w' : World} {r c M : Nat} {l : List C} {e : Ending} (h : RetMx r c l w e w') (hM : l.length = M) : ∃ A zs cap, e = .returned (mval r c (.slice A M cap)) ∧ zs.length = M ∧ zs.map cnC = l ∧ Reads w' w'.heap.size A (nums zs) ∧ Below w.heap.size w w' := by
  obtain ⟨A, zs, cap, rfl, hz, hlz, h1, -, -, -, hb⟩ := h.lies
  have e : zs.length = M := by rw [← hM, ← hz, List.length_map]
  exact ⟨A, zs, cap, by rw [e], e, hz, h1, hb⟩
theorem RetMs.liesM {w w' : World} {r c : Int} {M : Nat} {l : List C} {e : Ending} (h : RetMs r c l w e w') (hM : l.length = M) : ∃ A cap, e = .returned (mval r c (.slice A M cap)) ∧ Reads w' w'.heap.size A (nums l) ∧ M ≤ cap ∧ Below w.heap.size w w' := by
  obtain ⟨A, cap, rfl, h1, h2, -, -, hb⟩ := h.lies
  exact ⟨A, cap, by rw [hM], h1, by omega, hb⟩
structure NW (w W : World) (n B b : Nat) (S : El) : Prop where
  x : Has9 W B b n S
  bel : Below w.heap.size w W
theorem NW.below {w W V : World} {n B b : Nat} {S : El} (h : NW w W n B b S) (hb : Below W.heap.size W V) : NW w V n B b S := ⟨h.x.below hb, h.bel.trans (hb.mono h.bel.size)⟩
theorem NW.drewN {w W : World} {n B b : Nat} {S : El} (h : NW w W n B b S) (d : Nat) : NW w (W.drewN d) n B b S := h.below (below_drewN (Below.refl _ _) d)
theorem NW.new {w W : World} {n B b : Nat} {S : El} (h : NW w W n B b S) (o : Obj) : NW w (W.alloc o) n B b S := h.below (below_new W o)
/-- No elimination: nil, or one that nobody made. -/
def NoneV (W : World) (v : Value) : Prop := v = .pointer none ∨ ∃ b, v = .pointer (some ⟨b, 0, none⟩) ∧ b < W.heap.size ∧ W.cell? ⟨b, 0, none⟩ = some (.bool false)
theorem NoneV.below {W V : World} {v : Value} (h : NoneV W v) (hb : Below W.heap.size W V) : NoneV V v := by
  rcases h with h | ⟨b, h1, h2, h3⟩
  · exact .inl h
  · exact .inr ⟨b, h1, Nat.lt_of_lt_of_le h2 hb.size, (hb.cell (p := ⟨b, 0, none⟩) h2).trans h3⟩
theorem is9_no {v : Value} (W : World) (h : NoneV W v) : Calls Try.prog 96 #[v] W (RetP (.bool false) W) := by
  rcases h with rfl | ⟨b, rfl, _, h3⟩
  · exact is9_nil W
  · exact is9_f W h3
theorem Size_no {v : Value} (W : World) (h : NoneV W v) : Calls Try.prog 72 #[v] W (RetP (.int .i64 0) W) := by
  have HI := Lib.hid (is9_no W h)
  clear h
  go_enter Try.func72, Try.ntmps72
  go_wp2_with fail
  refine HI.out.mono ?_
  rintro e w' ⟨rfl, rfl⟩
  go_wp2
  go_ret; exact ⟨rfl, rfl⟩
theorem Sign_no {v : Value} (W : World) (h : NoneV W v) : Calls Try.prog 71 #[v] W (RetP (.int .i64 0) W) := by
  have HI := Lib.hid (is9_no W h)
  clear h
  go_enter Try.func71, Try.ntmps71
  go_wp2_with fail
  refine HI.out.mono ?_
  rintro e w' ⟨rfl, rfl⟩
  go_wp2
  go_ret; exact ⟨rfl, rfl⟩
theorem Order_no {v : Value} (W : World) (h : NoneV W v) : Calls Try.prog 100 #[v] W (RetP (.slice none 0 0) W) := by
  have HI := Lib.hid (is9_no W h)
  clear h
  go_enter Try.func100, Try.ntmps100
  go_wp2_with fail
  refine HI.out.mono ?_
  rintro e w' ⟨rfl, rfl⟩
  go_wp2
  go_ret; exact ⟨rfl, rfl⟩
set_option maxHeartbeats 1000000 in
theorem L_no {v : Value} (w : World) (h : NoneV w v) : Calls Try.prog 98 #[v] w (RetMx 0 0 [] w) := by
  obtain ⟨p0, hrow, hb0⟩ := frameP (w := w) (v := v) (t := 53) (o := zrow)
  have HRow := Lib.hid hrow
  have HB0 := Lib.hid hb0
  have HNo := Lib.hid h
  have hmf : ∀ (fn : Fn) (first cap : Array Value) (W : World), (Instr.makeFunc fn first cap).run Try.prog W = .ok (.func fn first cap) W := fun _ _ _ _ => rfl
  have hbox : (Op.box 53 (.tmp 0)) = (Op.box 53 (.tmp 0)) := rfl
  clear hrow hb0 h hbox
  have hv : ∃ a, v = .pointer a := by
    rcases HNo.out with h | ⟨b, h, _⟩
    · exact ⟨_, h⟩
    · exact ⟨_, h⟩
  obtain ⟨a, rfl⟩ := hv
  go_enter Try.func98, Try.ntmps98
  go_wp2_with fail
  refine (part_c 0 (Nat.zero_le _) (.pointer a) 113 #[.pointer (some ⟨w.heap.size, 0, none⟩)] (fun _ _ => (0, 0)) _ ?_ L_enters ?_).mono ?_
  · intro W hW
    exact Size_no W ((HNo.out.below HB0.out).below hW)
  · intro i j W hi
    omega
  rintro e W2 ⟨s, zs, rfl, hz, hlz, hown, hb2⟩
  obtain ⟨r0, r1, r2, fr⟩ := box3 ((hb2.block (w.heap.size + 1) (by simp)).trans HRow.out)
  have f0 := fr 0
  have f1 := fr 1
  have f2 := fr 2
  obtain ⟨sA, sn, sc, rfl, -⟩ := slice_of_own hown
  have HZ := Lib.hid hz
  have HL := Lib.hid hlz
  have HO := Lib.hid (own_base hown (show w.heap.size + 1 + 1 ≤ _ by simp))
  have HB2 := Lib.hid (HB0.out.trans (hb2.mono HB0.out.size))
  clear hz hlz hown hb2 fr p0
  go_wp2
  obtain ⟨q0, q1, q2⟩ := set3 (u := .int .i64 0) (v := .int .i64 0) (t := .slice sA sn sc) r0 r1 r2
  refine bodyPost_ret (v := mval 0 0 (.slice sA sn sc)) (by simp [results, Try.results98, go_sem, q0, q1, q2]) rfl ?_
  obtain ⟨zs', h1, h2, h3, h4⟩ := close_mx0 (x := .int .i64 0) (y := .int .i64 0) (z := .slice sA sn sc) HZ.out HL.out HO.out HB2.out (Nat.le_succ _)
  exact ⟨_, zs', rfl, h1, h2, h3, h4⟩
set_option maxHeartbeats 1000000 in
theorem U_no {v : Value} (w : World) (h : NoneV w v) : Calls Try.prog 99 #[v] w (RetMx 0 0 [] w) := by
  obtain ⟨p0, hrow, hb0⟩ := frameP (w := w) (v := v) (t := 53) (o := zrow)
  have HRow := Lib.hid hrow
  have HB0 := Lib.hid hb0
  have HNo := Lib.hid h
  have hmf : ∀ (fn : Fn) (first cap : Array Value) (W : World), (Instr.makeFunc fn first cap).run Try.prog W = .ok (.func fn first cap) W := fun _ _ _ _ => rfl
  clear hrow hb0 h
  have hv : ∃ a, v = .pointer a := by
    rcases HNo.out with h | ⟨b, h, _⟩
    · exact ⟨_, h⟩
    · exact ⟨_, h⟩
  obtain ⟨a, rfl⟩ := hv
  go_enter Try.func99, Try.ntmps99
  go_wp2_with fail
  refine (part_c 0 (Nat.zero_le _) (.pointer a) 114 #[.pointer (some ⟨w.heap.size, 0, none⟩)] (fun _ _ => (0, 0)) _ ?_ U_enters ?_).mono ?_
  · intro W hW
    exact Size_no W ((HNo.out.below HB0.out).below hW)
  · intro i j W hi
    omega
  rintro e W2 ⟨s, zs, rfl, hz, hlz, hown, hb2⟩
  obtain ⟨r0, r1, r2, fr⟩ := box3 ((hb2.block (w.heap.size + 1) (by simp)).trans HRow.out)
  have f0 := fr 0
  have f1 := fr 1
  have f2 := fr 2
  obtain ⟨sA, sn, sc, rfl, -⟩ := slice_of_own hown
  have HZ := Lib.hid hz
  have HL := Lib.hid hlz
  have HO := Lib.hid (own_base hown (show w.heap.size + 1 + 1 ≤ _ by simp))
  have HB2 := Lib.hid (HB0.out.trans (hb2.mono HB0.out.size))
  clear hz hlz hown hb2 fr p0
  go_wp2
  obtain ⟨q0, q1, q2⟩ := set3 (u := .int .i64 0) (v := .int .i64 0) (t := .slice sA sn sc) r0 r1 r2
  refine bodyPost_ret (v := mval 0 0 (.slice sA sn sc)) (by simp [results, Try.results99, go_sem, q0, q1, q2]) rfl ?_
  obtain ⟨zs', h1, h2, h3, h4⟩ := close_mx0 (x := .int .i64 0) (y := .int .i64 0) (z := .slice sA sn sc) HZ.out HL.out HO.out HB2.out (Nat.le_succ _)
  exact ⟨_, zs', rfl, h1, h2, h3, h4⟩
end Go.Proofs.Ytandllekeimpgaa
namespace Go.Proofs.Ytandllekeimpgaa
open Go.RowKit Fl Ieee
set_option maxRecDepth 20000
attribute [local go_sem] run_store_float run_store_complex Fl.order_self Fl.order_self' Fl.order_eq Fl.order_ne Fl.order_lt Fl.order_gt
end Go.Proofs.Ytandllekeimpgaa
