/- Layer 9: the rows of a matrix are laid in memory of their own (lower.start). -/
import Derived.Test.YtajdfbjjgjpicaaLWP
import Derived.Test.YtajdfbjjgjpicaaApp
import Derived.Laws.CopyOwn
import Derived.Deep.OwnRows
namespace Go.Proofs.Ytajdfbjjgjpicaa
open Go.RowKit Fl Ieee
set_option maxRecDepth 20000
attribute [local go_sem] run_store_float run_store_complex
/-- What lies in the list of rows, in the order. -/
def rowVals (g : Nat → Nat) (n k : Nat) : List Value := (List.range k).map fun i => .slice (some ⟨g i, 0, none⟩) n n
def ordVals (k : Nat) : List Value := (List.range k).map fun i => .int .i64 (i : Nat)
theorem rowVals_succ (g : Nat → Nat) (n k : Nat) : rowVals g n (k + 1) = rowVals g n k ++ [.slice (some ⟨g k, 0, none⟩) n n] := by
  unfold rowVals; rw [List.range_succ, List.map_append]; rfl
theorem ordVals_succ (k : Nat) : ordVals (k + 1) = ordVals k ++ [.int .i64 (k : Nat)] := by
  unfold ordVals; rw [List.range_succ, List.map_append]; rfl
theorem rowVals_congr {g g' : Nat → Nat} {n k : Nat} (h : ∀ i, i < k → g i = g' i) : rowVals g n k = rowVals g' n k :=
  List.map_congr_left fun i hi => by rw [h i (List.mem_range.1 hi)]
/-- k rows have been laid, kr of them are in the list, ko in the order. -/
structure St (W0 W : World) (b n k kr ko : Nat) (Z : Mat) (g : Nat → Nat) (sR sO : Value) : Prop where
  box : W.heap[b]? = some (.cells #[.bool true, sR, sO, .int .i64 1] 104)
  rows : W.ownsRow (b + 1) 25 1 sR kr (rowVals g n kr)
  ord : W.ownsRow (b + 1) 3 1 sO ko (ordVals ko)
  row : ∀ i, i < k → rowGe W (g i) 53 n (fun j => .complex .f64 (Z i j).1 (Z i j).2)
  gB : ∀ i, i < k → b + 1 ≤ g i
  inj : ∀ i j, i < k → j < k → g i = g j → i = j
  offR : ∀ i, i < k → sR.ownBlock ≠ some (g i)
  offO : ∀ i, i < k → sO.ownBlock ≠ some (g i)
  ro : ∀ c, sR.ownBlock = some c → sO.ownBlock ≠ some c
  bel : Below b W0 W
namespace St
variable {W0 W V : World} {b n k kr ko : Nat} {Z : Mat} {g : Nat → Nat} {sR sO : Value}
theorem below (h : St W0 W b n k kr ko Z g sR sO) (hb : Below W.heap.size W V) : St W0 V b n k kr ko Z g sR sO :=
  { h with
    box := row_keep hb h.box
    rows := own_below h.rows hb
    ord := own_below h.ord hb
    row := fun i hi => (h.row i hi).below hb (h.row i hi).lt
    bel := h.bel.trans (hb.mono (Nat.le_of_lt (row_lt h.box))) }
theorem cells (h : St W0 W b n k kr ko Z g sR sO) : W.cell? ⟨b, 1, none⟩ = some sR ∧ W.cell? ⟨b, 2, none⟩ = some sO ∧ (∀ j, W.frozen? ⟨b, j, none⟩ = false) := by
  obtain ⟨-, y, z, -, f⟩ := box4 h.box
  exact ⟨y, z, f⟩
/-- A row more. -/
theorem new {N : Nat} (h : St W0 W b n k kr ko Z g sR sO) (hb : Below W.heap.size W V) (hN : W.heap.size ≤ N) (hr : rowGe V N 53 n (fun j => .complex .f64 (Z k j).1 (Z k j).2)) (_hkr : kr ≤ k) :
    St W0 V b n (k + 1) kr ko Z (fun i => if i = k then N else g i) sR sO := by
  have h' := h.below hb
  have hbl := row_lt h.box
  have hlt : ∀ i, i < k → g i < N := fun i hi => Nat.lt_of_lt_of_le (h.row i hi).lt hN
  have eg : ∀ i, i < k → (if i = k then N else g i) = g i := fun i hi => if_neg (by omega)
  have ek : (if k = k then N else g k) = N := if_pos rfl
  refine { h' with rows := ?_, row := ?_, gB := ?_, inj := ?_, offR := ?_, offO := ?_ }
  · rw [rowVals_congr (fun i hi => eg i (by omega))]; exact h'.rows
  · intro i hi
    by_cases e : i = k
    · subst e; rw [ek]; exact hr
    · rw [eg i (by omega)]; exact h'.row i (by omega)
  · intro i hi
    by_cases e : i = k
    · subst e; rw [ek]; omega
    · rw [eg i (by omega)]; exact h.gB i (by omega)
  · intro i j hi hj e
    by_cases e1 : i = k
    · by_cases e2 : j = k
      · omega
      · rw [e1, ek, eg j (by omega)] at e
        have := hlt j (by omega); omega
    · by_cases e2 : j = k
      · rw [e2, ek, eg i (by omega)] at e
        have := hlt i (by omega); omega
      · rw [eg i (by omega), eg j (by omega)] at e
        exact h.inj i j (by omega) (by omega) e
  · intro i hi e
    by_cases e1 : i = k
    · rw [e1, ek] at e
      have := (h.rows.lt _ e).2; omega
    · rw [eg i (by omega)] at e
      exact h.offR i (by omega) e
  · intro i hi e
    by_cases e1 : i = k
    · rw [e1, ek] at e
      have := (h.ord.lt _ e).2; omega
    · rw [eg i (by omega)] at e
      exact h.offO i (by omega) e
/-- A row is put into the list. -/
theorem appR {o : Obj} {v' : Value} {w1 : World} (h : St W0 W b n k kr ko Z g sR sO)
    (hown : w1.ownsRow (b + 1) 25 1 v' (kr + 1) (rowVals g n kr ++ [.slice (some ⟨g kr, 0, none⟩) n n]))
    (hgr : (W.alloc o).grownBy w1 sR.ownBlock) (hv : v'.ownBlock = sR.ownBlock ∨ (v'.ownBlock = some (W.alloc o).heap.size ∧ (W.alloc o).grownBy w1 none)) :
    w1.cell? ⟨b, 1, none⟩ = some sR ∧ w1.cell? ⟨b, 2, none⟩ = some sO ∧ (∀ j, w1.frozen? ⟨b, j, none⟩ = false) ∧ St W0 (w1.setCell ⟨b, 1, none⟩ v') b n k (kr + 1) ko Z g v' sO := by
  have hs : (W.alloc o).heap.size = W.heap.size + 1 := by simp
  have hbl := row_lt h.box
  have FB : ∀ p, p < W.heap.size → sR.ownBlock ≠ some p → w1.heap[p]? = W.heap[p]? := fun p hp hne =>
    (hgr.block p (by omega) (fun e => hne e.symm)).trans (Below.heap_alloc W o p hp)
  have hbR : sR.ownBlock ≠ some b := fun e => by have := (h.rows.lt _ e).1; omega
  have hbx := (FB b hbl hbR).trans h.box
  obtain ⟨-, y, z, -, f⟩ := box4 hbx
  have hgO : ∀ c, v'.ownBlock = some c → sO.ownBlock ≠ some c := fun c hc e => by
    rcases hv with h1 | ⟨h1, -⟩
    · exact h.ro c (h1.symm.trans hc) e
    · rw [h1] at hc
      injection hc with hc
      have := (h.ord.lt _ e).2; omega
  refine ⟨y, z, f, ?_⟩
  refine { h with box := ?_, rows := ?_, ord := ?_, row := ?_, offR := ?_, ro := hgO, bel := ?_ }
  · rw [heap_setCell_same _ b 1 _ _ _ hbx]; rfl
  · rw [rowVals_succ]
    exact ownsRow_setCell_below hown (by show b < b + 1; omega) _
  · refine ownsRow_setCell_below ((h.ord.alloc o).kept hgr ?_) (by show b < b + 1; omega) _
    by_cases e : sO.ownBlock = none
    · exact .inl e
    · refine .inr fun e2 => ?_
      cases hc : sR.ownBlock with
      | none => rw [hc] at e2; exact e e2
      | some c => rw [hc] at e2; exact h.ro c hc e2
  · intro i hi
    refine ((h.row i hi).of_block (FB _ (h.row i hi).lt (h.offR i hi))).setOther ?_ _
    show g i ≠ b
    have := h.gB i hi; omega
  · intro i hi e
    rcases hv with h1 | ⟨h1, -⟩
    · exact h.offR i hi (h1.symm.trans e)
    · rw [h1] at e
      injection e with e
      have := (h.row i hi).lt; omega
  · exact ((h.bel.alloc (Nat.le_of_lt hbl) o).grown hgr (by omega) (fun j hj => by have := (h.rows.lt j hj).1; omega)).setCell (Nat.le_refl _) _
/-- A number is put into the order. -/
theorem appO {o : Obj} {v' : Value} {w1 : World} (h : St W0 W b n k kr ko Z g sR sO)
    (hown : w1.ownsRow (b + 1) 3 1 v' (ko + 1) (ordVals ko ++ [.int .i64 (ko : Nat)]))
    (hgr : (W.alloc o).grownBy w1 sO.ownBlock) (hv : v'.ownBlock = sO.ownBlock ∨ (v'.ownBlock = some (W.alloc o).heap.size ∧ (W.alloc o).grownBy w1 none)) :
    w1.cell? ⟨b, 2, none⟩ = some sO ∧ (∀ j, w1.frozen? ⟨b, j, none⟩ = false) ∧ St W0 (w1.setCell ⟨b, 2, none⟩ v') b n k kr (ko + 1) Z g sR v' := by
  have hs : (W.alloc o).heap.size = W.heap.size + 1 := by simp
  have hbl := row_lt h.box
  have FB : ∀ p, p < W.heap.size → sO.ownBlock ≠ some p → w1.heap[p]? = W.heap[p]? := fun p hp hne =>
    (hgr.block p (by omega) (fun e => hne e.symm)).trans (Below.heap_alloc W o p hp)
  have hbO : sO.ownBlock ≠ some b := fun e => by have := (h.ord.lt _ e).1; omega
  have hbx := (FB b hbl hbO).trans h.box
  obtain ⟨-, -, z, -, f⟩ := box4 hbx
  have hgO : ∀ c, sR.ownBlock = some c → v'.ownBlock ≠ some c := fun c hc e => by
    rcases hv with h1 | ⟨h1, -⟩
    · exact h.ro c hc (h1.symm.trans e)
    · rw [h1] at e
      injection e with e
      have := (h.rows.lt _ hc).2; omega
  refine ⟨z, f, ?_⟩
  refine { h with box := ?_, rows := ?_, ord := ?_, row := ?_, offO := ?_, ro := hgO, bel := ?_ }
  · rw [heap_setCell_same _ b 2 _ _ _ hbx]; rfl
  · refine ownsRow_setCell_below ((h.rows.alloc o).kept hgr ?_) (by show b < b + 1; omega) _
    by_cases e : sR.ownBlock = none
    · exact .inl e
    · refine .inr fun e2 => ?_
      cases hc : sR.ownBlock with
      | none => exact e hc
      | some c => exact h.ro c hc (e2.symm.trans hc)
  · rw [ordVals_succ]
    exact ownsRow_setCell_below hown (by show b < b + 1; omega) _
  · intro i hi
    refine ((h.row i hi).of_block (FB _ (h.row i hi).lt (h.offO i hi))).setOther ?_ _
    show g i ≠ b
    have := h.gB i hi; omega
  · intro i hi e
    rcases hv with h1 | ⟨h1, -⟩
    · exact h.offO i hi (h1.symm.trans e)
    · rw [h1] at e
      injection e with e
      have := (h.row i hi).lt; omega
  · exact ((h.bel.alloc (Nat.le_of_lt hbl) o).grown hgr (by omega) (fun j hj => by have := (h.ord.lt j hj).1; omega)).setCell (Nat.le_refl _) _
/-- All rows are laid. -/
theorem lo {B : Nat} (h : St W0 W b n n n n Z g sR sO) (hn : 0 < n) (hB : B ≤ b) (hlt : ∀ i j, i < n → j < n → ltC (Z i j)) : ∃ q p qc pc, Lo W B b q p n qc pc g (fun _ => n) ⟨Z, id, false⟩ := by
  obtain ⟨q, qc, rfl, hq, -⟩ := h.rows.form hn
  obtain ⟨p, pc, rfl, hp, -⟩ := h.ord.form hn
  refine ⟨q, p, qc, pc, ?_⟩
  exact
    { box := h.box
      tab :=
        { rows := rowGe.of_own h.rows fun i hi => by simp [rowVals, hi]
          ord := rowGe.of_own h.ord fun i hi => by simp [ordVals, hi]
          row := h.row
          inj := h.inj
          farq := fun i hi e => h.offR i hi (by rw [e]; rfl)
          farp := fun i hi e => h.offO i hi (by rw [e]; rfl)
          qp := fun e => h.ro q rfl (by rw [e]; rfl)
          gB := fun i hi => by have := h.gB i hi; omega
          qB := by omega
          pB := by omega
          cap := fun _ _ => Nat.le_refl _
          lt := hlt }
      bB := hB
      bq := by omega
      bp := by omega
      bg := fun i hi => by have := h.gB i hi; omega }
end St
theorem infoRowSl : (Try.prog.info? 25).map (fun i => (i.zero, i.size, i.bytes)) = some (some (.slice none 0 0), 1, 24) := by kernel_rfl
theorem infoInt9 : (Try.prog.info? 3).map (fun i => (i.zero, i.size, i.bytes)) = some (some (.int .i64 0), 1, 8) := by kernel_rfl
/-- What is eliminated: a matrix' numbers. -/
def matE (l : List C) (n : Nat) : Mat := fun i j => l.getD (i * n + j) (0, 0)
/-- An elimination in memory of its own; of no row: its lists are nil. -/
def Has9 (W : World) (B b n : Nat) (S : El) : Prop :=
  B ≤ b ∧ ((n = 0 ∧ W.heap[b]? = some (.cells #[.bool true, .slice none 0 0, .slice none 0 0, .int .i64 (sgI S.s)] 104)) ∨ (0 < n ∧ ∃ q p qc pc g c, Lo W B b q p n qc pc g c S))
def RetStart (n : Nat) (Z : Mat) (w : World) (e : Ending) (w' : World) : Prop :=
  ∃ b, e = .returned (.pointer (some ⟨b, 0, none⟩)) ∧ Has9 w' w.heap.size b n ⟨Z, id, false⟩ ∧ Below w.heap.size w w'
theorem start_row {wr W2 : World} {l : List C} {n k p : Nat} {xs : List Value} (hp : p = k * n) (hl : l.length = n * n) (hk : k < n) (hx : xs = nums ((l.drop p).take n))
    (h : W2.heap[wr.heap.size]? = some (.cells (splice (nums (List.replicate n (0, 0))) 0 xs).toArray 53 (0, 0))) :
    rowGe W2 wr.heap.size 53 n (fun j => .complex .f64 (matE l n k j).1 (matE l n k j).2) := by
  have h1 : (k + 1) * n ≤ n * n := Nat.mul_le_mul_right _ hk
  rw [Nat.add_mul, Nat.one_mul] at h1
  have hxl : xs.length = n := by rw [hx]; simp [nums]; omega
  refine ⟨_, h, ?_, fun i hi => ?_⟩
  · have : (splice (nums (List.replicate n (0, 0))) 0 xs).length = n := by
      rw [length_splice _ _ _ (by simp [nums, hxl])]; simp [nums]
    rw [List.size_toArray, this]; exact Nat.le_refl _
  · have e : splice (nums (List.replicate n (0, 0))) 0 xs = xs := by simp [splice, hxl, nums]
    rw [e, hx]
    have hlt : p + i < l.length := by omega
    simp [nums, matE, hi, ← hp, List.getElem?_eq_getElem hlt]
theorem start_mid {w1 wr w2 : World} {l : List C} {n k p b b' : Nat} {xs : List Value} {g : Nat → Nat} {sR sO : Value} (hst : St w1 wr b n k k k (matE l n) g sR sO) (hb' : b = b') (hp : p = k * n) (hl : l.length = n * n) (hk : k < n) (hx : xs = nums ((l.drop p).take n))
    (h : Hid (w2.heap[wr.heap.size]? = some (.cells (splice (nums (List.replicate n (0, 0))) 0 xs).toArray 53 (0, 0)))) (hB : Below wr.heap.size wr w2) :
    ∃ g', g' k = wr.heap.size ∧ St w1 w2 b n (k + 1) k k (matE l n) g' sR sO ∧ w2.cell? ⟨b', 1, none⟩ = some sR := by
  have h1 := hst.new hB (Nat.le_refl _) (start_row hp hl hk hx h.out) (Nat.le_refl _)
  subst hb'
  exact ⟨fun i => if i = k then wr.heap.size else g i, if_pos rfl, h1, h1.cells.1⟩
theorem start_app {w1 w2 w3 : World} {n k b b' N : Nat} {Z : Mat} {g : Nat → Nat} {sR sO v' : Value} {o : Obj} (h : St w1 w2 b n (k + 1) k k Z g sR sO) (hb' : b = b') (hg : g k = N)
    (hown : w3.ownsRow (b + 1) 25 1 v' (k + 1) (rowVals g n k ++ [.slice (some ⟨N, 0, none⟩) n n]))
    (hgr : (w2.alloc o).grownBy w3 sR.ownBlock) (hv : v'.ownBlock = sR.ownBlock ∨ (v'.ownBlock = some (w2.alloc o).heap.size ∧ (w2.alloc o).grownBy w3 none)) :
    w3.cell? ⟨b', 1, none⟩ = some sR ∧ w3.cell? ⟨b', 2, none⟩ = some sO ∧ w3.frozen? ⟨b', 1, none⟩ = false ∧ St w1 (w3.setCell ⟨b', 1, none⟩ v') b n (k + 1) (k + 1) k Z g v' sO := by
  subst hb' hg
  obtain ⟨a1, a2, a3, a4⟩ := h.appR hown hgr hv
  exact ⟨a1, a2, a3 1, a4⟩
theorem start_ord {w1 w2 w3 : World} {n k b b' : Nat} {Z : Mat} {g : Nat → Nat} {sR sO v' : Value} {o : Obj} (h : St w1 w2 b n (k + 1) (k + 1) k Z g sR sO) (hb' : b = b')
    (hown : w3.ownsRow (b + 1) 3 1 v' (k + 1) (ordVals k ++ [.int .i64 (k : Nat)]))
    (hgr : (w2.alloc o).grownBy w3 sO.ownBlock) (hv : v'.ownBlock = sO.ownBlock ∨ (v'.ownBlock = some (w2.alloc o).heap.size ∧ (w2.alloc o).grownBy w3 none)) :
    w3.cell? ⟨b', 2, none⟩ = some sO ∧ w3.frozen? ⟨b', 2, none⟩ = false ∧ St w1 (w3.setCell ⟨b', 2, none⟩ v') b n (k + 1) (k + 1) (k + 1) Z g sR v' := by
  subst hb'
  obtain ⟨a1, a2, a3⟩ := h.appO hown hgr hv
  exact ⟨a1, a2 2, a3⟩
theorem start_sz {w1 w2 : World} {b n k kr ko : Nat} {Z : Mat} {g : Nat → Nat} {sR sO : Value} (h : St w1 w2 b n k kr ko Z g sR sO) (o : Obj) : b + 1 ≤ (w2.alloc o).heap.size := by
  have := row_lt h.box; simp; omega
theorem nums_one {l : List C} : ∀ v ∈ nums l, v.oneCell' = true := fun v hv => by
  simp only [nums, List.mem_map] at hv
  obtain ⟨z, _, rfl⟩ := hv
  rfl
set_option maxHeartbeats 4000000 in
theorem start_c (n : Nat) (A : Option Addr) (l : List C) (cap : Nat) (w : World) (hn : n ≤ 64) (hl : l.length = n * n) (hcap : l.length ≤ cap) (hrd : Reads w w.heap.size A (nums l)) (hlt : ltCs l) :
    Calls Try.prog 81 #[mval n n (.slice A l.length cap)] w (RetStart n (matE l n) w) := by
  obtain ⟨i0, hi, hz0, hz1, hz2⟩ := info_parts infoRowSl
  obtain ⟨j0, hj, hy0, hy1, hy2⟩ := info_parts infoInt9
  have hmk := run_make_row' (P := Try.prog) 25 53 (.complex .f64 0 0) 16 Try.underlying25 infoNum rfl .i64 .i64 n (by omega) (by omega)
  have HN := Lib.hid hn
  have HL := Lib.hid hl
  have HCap := Lib.hid hcap
  have HRd := Lib.hid hrd
  have HLt := Lib.hid hlt
  clear hn hl hcap hrd hlt
  obtain ⟨w1, hw1⟩ : ∃ w1, w1 = w.alloc (.cells #[.int .i64 (n : Nat), .int .i64 (n : Nat), .slice A l.length cap] 28) := ⟨_, rfl⟩
  have hs1 : w1.heap.size = w.heap.size + 1 := by rw [hw1]; simp
  have hB1 : Below w.heap.size w w1 := by rw [hw1]; exact below_new _ _
  have hbx : Box w1 w.heap.size n n (.slice A l.length cap) := by rw [hw1]; exact Box.new _ _ _ _ _
  have hst : St w1 (w1.alloc (.cells #[.bool true, .slice none 0 0, .slice none 0 0, .int .i64 1] 104)) w1.heap.size n 0 0 0 (matE l n) (fun _ => 0) (.slice none 0 0) (.slice none 0 0) :=
    { box := heap_alloc_new _ _
      rows := World.ownsRow_nil _ _ _ _
      ord := World.ownsRow_nil _ _ _ _
      row := fun i hi => by omega
      gB := fun i hi => by omega
      inj := fun i j hi => by omega
      offR := fun i hi => by omega
      offO := fun i hi => by omega
      ro := fun c hc => by cases hc
      bel := below_new _ _ }
  have HSt := Lib.hid hst
  have HW1 := Lib.hid hw1
  have HS1 := Lib.hid hs1
  have HB1 := Lib.hid hB1
  have HBx := Lib.hid hbx
  clear hst hw1 hs1 hB1 hbx
  go_enter Try.func81, Try.ntmps81
  go_wp2
  go_loopw [10] (fun i wr => ∃ (k : Nat) (g : Nat → Nat) (sR sO : Value), k ≤ n ∧ i = .int .i64 (k : Nat) ∧ St w1 wr w1.heap.size n k k k (matE l n) g sR sO ∧ (k = 0 → sR = .slice none 0 0 ∧ sO = .slice none 0 0)) (fun i _ => n - (intOf i).toNat)
  case atStart => exact ⟨0, _, _, _, Nat.zero_le _, rfl, by rw [HW1.out] at HSt ⊢; exact HSt.out, fun _ => ⟨rfl, rfl⟩⟩
  case round =>
    obtain ⟨k, g, sR, sO, hk, rfl, hst, hnil⟩ := hrel
    have HNil := Lib.hid hnil
    clear hnil
    have HStr := Lib.hid hst
    have hbw : Box wr w.heap.size n n (.slice A l.length cap) := HBx.out.below hst.bel (by have := HS1.out; omega)
    obtain ⟨b0, b1, b2⟩ := hbw
    clear hst
    by_cases hlt : k < n
    · have hkn : (k + 1) * n ≤ n * n := Nat.mul_le_mul_right _ hlt
      rw [Nat.add_mul, Nat.one_mul] at hkn
      obtain ⟨p, hp⟩ : ∃ p, p = k * n := ⟨_, rfl⟩
      rw [← hp] at hkn
      have h4 : n * n ≤ 64 * 64 := Nat.mul_le_mul HN.out HN.out
      have hm : wrap64 ((k : Int) * (n : Int)) = (p : Int) := by rw [hp, ← Int.natCast_mul, ← hp]; unfold wrap64; omega
      have hpl : p + n ≤ l.length := by have := HL.out; omega
      have hpc : p < cap := by have := HCap.out; omega
      obtain ⟨ad, rfl, had, hce⟩ := HRd.out (by simp [nums]; omega)
      have HAd := Lib.hid had
      have HCe := Lib.hid hce
      obtain ⟨xs, hxs⟩ : ∃ xs, xs = nums ((l.drop p).take n) := ⟨_, rfl⟩
      have hxl : xs.length = n := by rw [hxs]; simp [nums]; omega
      have HXs := Lib.hid hxs
      have HXl := Lib.hid hxl
      have HP := Lib.hid hp
      have HPl := Lib.hid hpl
      clear hkn h4 had hce hxs hxl hp
      have hnew : (wr.alloc (.cells (madeCells #[.complex .f64 0 0] n) 53)).heap[wr.heap.size]? = some (.cells (nums (List.replicate n (0, 0))).toArray 53 (0, 0)) := by rw [mk_nums]; exact heap_alloc_new _ _
      have HNew := Lib.hid hnew
      clear hnew
      have hws : w.heap.size < wr.heap.size := by
        have h1 := HStr.out.bel.size
        have h2 := HS1.out
        have h3 := row_lt HStr.out.box
        omega
      have b1a : ∀ o, (wr.alloc o).cell? ⟨w.heap.size, 1, none⟩ = some (.int .i64 (n : Nat)) := fun o => ((below_new wr o).cell (p := ⟨w.heap.size, 1, none⟩) hws).trans b1
      have b2a : ∀ o, (wr.alloc o).cell? ⟨w.heap.size, 2, none⟩ = some (.slice (some ad) l.length cap) := fun o => ((below_new wr o).cell (p := ⟨w.heap.size, 2, none⟩) hws).trans b2
      have HSrc := Lib.hid (show ∀ j v, xs[j]? = some v → (wr.alloc (.cells (madeCells #[.complex .f64 0 0] n) 53)).cell? ((ad.add p).add j) = some v from fun j v hv => by
        have hj : j < n := by have := lt_of_some hv; have := HXl.out; omega
        rw [add_of_add]
        have hadw : ad.block < wr.heap.size := by have := HAd.out; omega
        have hb1 : (nums l)[p + j]? = some v := by
          rw [HXs.out] at hv
          simpa [nums, hj] using hv
        have h1 := HCe.out _ _ hb1
        have h2 := (HB1.out.cell (p := ad.add (p + j)) (by rw [block_of_add]; exact HAd.out)).trans h1
        have h3 := (HStr.out.bel.cell (p := ad.add (p + j)) (by rw [block_of_add]; have := HAd.out; have := HS1.out; omega)).trans h2
        exact ((below_new wr _).cell (p := ad.add (p + j)) (by rw [block_of_add]; exact hadw)).trans h3)
      have HMin := Lib.hid (show xs.length = Nat.min (l.length - p) n by have := HXl.out; rw [this]; exact (Nat.min_eq_right (by omega)).symm)
      have HFit := Lib.hid (show 0 + xs.length ≤ (nums (List.replicate n (0, 0))).length by have := HXl.out; simp [nums]; omega)
      have HOne := Lib.hid (show ∀ v ∈ xs, v.oneCell' = true by rw [HXs.out]; exact nums_one)
      have HBw := Lib.hid (below_new wr (.cells (madeCells #[.complex .f64 0 0] n) 53))
      have hkb : (k : Int) + 1 ≤ 65 := by have := HN.out; omega
      have H63 := Lib.hid (show k + 1 ≤ maxLen by unfold maxLen; have := HN.out; omega)
      have HBy := Lib.hid (show (k + 1) * 24 ≤ 140737488355328 by have := HN.out; omega)
      have HBy2 := Lib.hid (show (k + 1) * 8 ≤ 140737488355328 by have := HN.out; omega)
      go_wp2_with (first
        | (with_reducible refine wpList_copy_splice rfl (.tmp 16) (.tmp 23) 25 25 rfl 53 Try.underlying25 (by kernel_rfl) _ _ _ _ _ _ rfl rfl wr.heap.size 0 (nums (List.replicate n (0, 0))) 53 HNew.out xs HMin.out (fun _ => ⟨rfl, _, rfl, HSrc.out⟩) HFit.out HOne.out wr.heap.size wr HBw.out (Nat.le_refl _) ?_; intro w2 HG2 hB2; obtain ⟨g', hgk, hS2, c1⟩ := start_mid HStr.out HS1.out HP.out HL.out hlt HXs.out HG2 hB2; have HGk := Lib.hid hgk; have HS2 := Lib.hid hS2; clear HG2 hB2 hgk hS2 b1a b2a b0 b1 b2)
        | (at_builtin; refine wpList_append_stays _ rfl (.tmp 29) (.tmp 31) 74 rfl (w1.heap.size + 1) 25 i0 (.slice none 0 0) 24 Try.underlying74 hi hz0 hz1 hz2 rfl sR k (rowVals g' n k) rfl (HS2.out.rows.alloc _) ⟨w2.heap.size, 0, none⟩ 1 1 [.slice (some ⟨wr.heap.size, 0, none⟩) n n] rfl rfl (cell_one_new _ _ _) (by intro u hu; simp at hu; subst hu; rfl) H63.out HBy.out (start_sz HS2.out _) ?_; intro v1 w3 hown1 hgr1 hv1; obtain ⟨q1, cp1, e1, -, -⟩ := hown1.form (Nat.succ_pos k); subst e1; obtain ⟨c3, c4, f3, hS3⟩ := start_app HS2.out HS1.out HGk.out hown1 hgr1 hv1; have HS3 := Lib.hid hS3; clear hown1 hgr1 hv1 hS3 c1)
        | (at_builtin; refine wpList_append_stays _ rfl (.tmp 39) (.tmp 41) 51 rfl (w1.heap.size + 1) 3 j0 (.int .i64 0) 8 Try.underlying51 hj hy0 hy1 hy2 rfl sO k (ordVals k) rfl (HS3.out.ord.alloc _) ⟨w3.heap.size, 0, none⟩ 1 1 [.int .i64 (k : Nat)] rfl rfl (cell_one_at _ _ _ (by simp [World.setCell])) (by intro u hu; simp at hu; subst hu; rfl) H63.out HBy2.out (start_sz HS3.out _) ?_; intro v2 w4 hown2 hgr2 hv2; obtain ⟨q2, cp2, e2, -, -⟩ := hown2.form (Nat.succ_pos k); subst e2; obtain ⟨c5, f5, hS4⟩ := start_ord HS3.out HS1.out hown2 hgr2 hv2; have HS4 := Lib.hid hS4; clear hown2 hgr2 hv2 hS4 c3 c4 f3))
      go_wp2
      go_roundw
      case rel => exact ⟨k + 1, g', _, _, hlt, by go_num, HS4.out, fun h => by omega⟩
      case measure => simp [intOf]; omega
    · have e : k = n := by omega
      subst e
      go_wp2
      go_ret
      refine ⟨_, rfl, ?_, ?_⟩
      · rw [← HS1.out]
        refine ⟨HB1.out.size, ?_⟩
        rcases Nat.eq_zero_or_pos k with h0 | h0
        · obtain ⟨e1, e2⟩ := HNil.out h0
          subst e1 e2
          exact .inl ⟨h0, HStr.out.box⟩
        · refine .inr ⟨h0, ?_⟩
          obtain ⟨q, p, qc, pc, h⟩ := HStr.out.lo h0 HB1.out.size (fun i j hi hj => ltCs_at HLt.out HL.out hi hj)
          exact ⟨q, p, qc, pc, g, _, h⟩
      · exact HB1.out.trans (HStr.out.bel.mono HB1.out.size)
end Go.Proofs.Ytajdfbjjgjpicaa
