/- Layer 7: a matrix's shape, its entries. -/
import Derived.Test.YtibjkmjccelcaaaMem
import Derived.Test.YtibjkmjccelcaaaRParts
import Derived.Test.YtibjkmjccelcaaaFr
import Derived.Test.YtibjkmjccelcaaaFlMc
import Derived.Deep.RegionLaw
import Derived.Deep.AppendLies
namespace Go.Proofs.Ytibjkmjccelcaaa
open Go.RowKit Fl Ieee
set_option maxRecDepth 20000
attribute [local go_sem] Fl.order_self Fl.order_self' Fl.order_eq Fl.order_ne Fl.order_lt Fl.order_gt Fl.fle_fold Fl.fge_fold run_store_float run_store_complex
/-- A matrix as a value. -/
abbrev mval (r c : Int) (s : Value) : Value := .agg #[.int .i64 r, .int .i64 c, s]
/-- May it be? (n numbers) -/
def okM (r c : Int) (n : Nat) : Bool := decide (0 ≤ r) && decide (r ≤ 64) && decide (0 ≤ c) && decide (c ≤ 64) && decide ((n : Int) = r * c)
theorem okM_iff {r c : Int} {n : Nat} : okM r c n = true ↔ (0 ≤ r ∧ r ≤ 64 ∧ 0 ≤ c ∧ c ≤ 64 ∧ (n : Int) = r * c) := by
  unfold okM; simp [and_assoc]
/-- A call that only lays new blocks and draws. -/
def RetV (v : Value) (w : World) (e : Ending) (w' : World) : Prop := e = .returned v ∧ Below w.heap.size w w'
theorem below_new (w : World) (o : Obj) : Below w.heap.size w (w.alloc o) := (Below.refl _ w).alloc (Nat.le_refl _) o
theorem Check_c (r c : Int) (A : Option Addr) (n cap : Nat) (w : World) :
    Calls Try.prog 39 #[mval r c (.slice A n cap)] w (RetV (.int .i64 (if okM r c n then 0 else 4)) w) := by
  by_cases h1 : r < 0
  · have e : okM r c n = false := by
      rw [Bool.eq_false_iff]; intro h; have := okM_iff.1 h; omega
    rw [e]
    clear e
    go_enter Try.func39, Try.ntmps39
    go_wp2
    go_ret; exact ⟨rfl, below_new _ _⟩
  · by_cases h2 : 64 < r
    · have e : okM r c n = false := by
        rw [Bool.eq_false_iff]; intro h; have := okM_iff.1 h; omega
      rw [e]
      clear e
      go_enter Try.func39, Try.ntmps39
      go_wp2
      go_ret; exact ⟨rfl, below_new _ _⟩
    · by_cases h3 : c < 0
      · have e : okM r c n = false := by
          rw [Bool.eq_false_iff]; intro h; have := okM_iff.1 h; omega
        rw [e]
        clear e
        go_enter Try.func39, Try.ntmps39
        go_wp2
        go_ret; exact ⟨rfl, below_new _ _⟩
      · by_cases h4 : 64 < c
        · have e : okM r c n = false := by
            rw [Bool.eq_false_iff]; intro h; have := okM_iff.1 h; omega
          rw [e]
          clear e
          go_enter Try.func39, Try.ntmps39
          go_wp2
          go_ret; exact ⟨rfl, below_new _ _⟩
        · obtain ⟨a, rfl⟩ : ∃ a : Nat, r = (a : Int) := ⟨r.toNat, by omega⟩
          obtain ⟨b, rfl⟩ : ∃ b : Nat, c = (b : Int) := ⟨c.toNat, by omega⟩
          have ha : a ≤ 64 := by omega
          have hb : b ≤ 64 := by omega
          have hab : a * b ≤ 64 * 64 := Nat.mul_le_mul ha hb
          have hm : wrap64 ((a : Int) * (b : Int)) = ((a * b : Nat) : Int) := by
            rw [← Int.natCast_mul]; unfold wrap64; omega
          have e1 : n = a * b → okM a b n = true := fun h5 => okM_iff.2 ⟨by omega, by omega, by omega, by omega, by rw [h5, Int.natCast_mul]⟩
          have e2 : n ≠ a * b → okM a b n = false := fun h5 => by
            rw [Bool.eq_false_iff]; intro h
            have h6 := (okM_iff.1 h).2.2.2.2
            rw [← Int.natCast_mul] at h6; omega
          have h1' : ((a : Int) < 0) = False := by simp
          have h2' : (64 < (a : Int)) = False := by simp; omega
          have h3' : ((b : Int) < 0) = False := by simp
          have h4' : (64 < (b : Int)) = False := by simp; omega
          clear h1 h2 h3 h4 hab
          by_cases h5 : n = a * b
          · rw [e1 h5]
            clear e1 e2
            subst h5
            go_enter Try.func39, Try.ntmps39
            go_wp2
            go_ret; exact ⟨rfl, below_new _ _⟩
          · rw [e2 h5]
            have h6 : ((n : Int) == ((a * b : Nat) : Int)) = false := by simp; omega
            clear e1 e2 h5
            go_enter Try.func39, Try.ntmps39
            go_wp2
            go_ret; exact ⟨rfl, below_new _ _⟩
/-- A complex number's cells. -/
abbrev nums (l : List C) : List Value := l.map fun z => .complex .f64 z.1 z.2
end Go.Proofs.Ytibjkmjccelcaaa
namespace Go.Proofs.Ytibjkmjccelcaaa
open Go.RowKit Fl Ieee
set_option maxRecDepth 20000
attribute [local go_sem] run_store_float run_store_complex
/-- A number up to NaN. -/
abbrev cnC (z : C) : C := (cn .f64 z.1, cn .f64 z.2)
def ltCs (l : List C) : Prop := ∀ z ∈ l, ltC z
/-- A number is handed back; beside it only new blocks and draws. -/
def RetZ (v : C) (w : World) (e : Ending) (w' : World) : Prop := ∃ z : C, e = .returned (.complex .f64 z.1 z.2) ∧ cnC z = v ∧ ltC z ∧ Below w.heap.size w w'
/-- The entries, row by row; the first k of them. -/
def entry (cols : Nat) (E : Nat → Nat → C) (k : Nat) : C := E (k / cols) (k % cols)
def entries (cols : Nat) (E : Nat → Nat → C) (n : Nat) : List C := (List.range n).map (entry cols E)
theorem entries_succ (cols : Nat) (E : Nat → Nat → C) (n : Nat) : entries cols E (n + 1) = entries cols E n ++ [entry cols E n] := by
  unfold entries; rw [List.range_succ, List.map_append]; rfl
theorem entry_at {cols i j : Nat} (E : Nat → Nat → C) (hj : j < cols) : entry cols E (i * cols + j) = E i j := by
  unfold entry
  have h1 : (i * cols + j) / cols = i := by
    rw [Nat.mul_comm, Nat.mul_add_div (by omega), Nat.div_eq_of_lt hj, Nat.add_zero]
  have h2 : (i * cols + j) % cols = j := by
    rw [Nat.mul_comm, Nat.mul_add_mod, Nat.mod_eq_of_lt hj]
  rw [h1, h2]
theorem own_below {w w' : World} {B e size n : Nat} {v : Value} {xs : List Value} (h : w.ownsRow B e size v n xs) (hb : Below w.heap.size w w') : w'.ownsRow B e size v n xs := by
  refine ⟨h.1, ?_⟩
  rcases h.2 with h1 | ⟨g, cap, cur, hv, hbg, hg, hr⟩
  · exact .inl h1
  · refine .inr ⟨g, cap, cur, hv, hbg, ?_, hr⟩
    have hlt : g < w.heap.size := by
      rcases Nat.lt_or_ge g w.heap.size with h2 | h2
      · exact h2
      · rw [Array.getElem?_eq_none h2] at hg; cases hg
    rw [hb.block g hlt]; exact hg
theorem set3 {w : World} {b : Nat} {x y z u v t : Value} (h0 : w.cell? ⟨b, 0, none⟩ = some x) (h1 : w.cell? ⟨b, 1, none⟩ = some y) (h2 : w.cell? ⟨b, 2, none⟩ = some z) :
    (((w.setCell ⟨b, 0, none⟩ u).setCell ⟨b, 1, none⟩ v).setCell ⟨b, 2, none⟩ t).cell? ⟨b, 0, none⟩ = some u ∧
    (((w.setCell ⟨b, 0, none⟩ u).setCell ⟨b, 1, none⟩ v).setCell ⟨b, 2, none⟩ t).cell? ⟨b, 1, none⟩ = some v ∧
    (((w.setCell ⟨b, 0, none⟩ u).setCell ⟨b, 1, none⟩ v).setCell ⟨b, 2, none⟩ t).cell? ⟨b, 2, none⟩ = some t := by
  have a1 : (w.setCell ⟨b, 0, none⟩ u).cell? ⟨b, 1, none⟩ = some y := (World.cell?_setCell_other _ _ _ _ (by simp)).trans h1
  have a2 : ((w.setCell ⟨b, 0, none⟩ u).setCell ⟨b, 1, none⟩ v).cell? ⟨b, 2, none⟩ = some z := (World.cell?_setCell_other _ _ _ _ (by simp)).trans ((World.cell?_setCell_other _ _ _ _ (by simp)).trans h2)
  exact ⟨(World.cell?_setCell_other _ _ _ _ (by simp)).trans ((World.cell?_setCell_other _ _ _ _ (by simp)).trans (World.cell?_setCell_same _ _ _ h0)),
    (World.cell?_setCell_other _ _ _ _ (by simp)).trans (World.cell?_setCell_same _ _ _ a1), World.cell?_setCell_same _ _ _ a2⟩
theorem own_base {w : World} {B B' e size n : Nat} {v : Value} {xs : List Value} (h : w.ownsRow B e size v n xs) (hB : B' ≤ B) : w.ownsRow B' e size v n xs := by
  refine ⟨h.1, ?_⟩
  rcases h.2 with h1 | ⟨g, cap, cur, hv, hbg, hr⟩
  · exact .inl h1
  · exact .inr ⟨g, cap, cur, hv, Nat.le_trans hB hbg, hr⟩
theorem infoNum : (Try.prog.info? 51).map (fun i => (i.zero, i.size, i.bytes)) = some (some (.complex .f64 0 0), 1, 16) := by kernel_rfl
/-- What is handed back: a matrix in memory of its own. -/
def RetMx (rows cols : Nat) (l : List C) (w : World) (e : Ending) (w' : World) : Prop :=
  ∃ s zs, e = .returned (mval rows cols s) ∧ zs.map cnC = l ∧ ltCs zs ∧ w'.ownsRow w.heap.size 51 1 s l.length (nums zs) ∧ Below w.heap.size w w'
/-- At the head of the loops: k entries have been laid. -/
def MadeR (rows cols : Nat) (E : Nat → Nat → C) (w : World) (k : Nat) (wr : World) : Prop :=
  ∃ s zs, zs.map cnC = entries cols E k ∧ ltCs zs ∧ wr.ownsRow (w.heap.size + 2) 51 1 s k (nums zs) ∧
    wr.cell? ⟨w.heap.size + 1, 0, none⟩ = some (.int .i64 (rows : Nat)) ∧ wr.cell? ⟨w.heap.size + 1, 1, none⟩ = some (.int .i64 (cols : Nat)) ∧ wr.cell? ⟨w.heap.size + 1, 2, none⟩ = some s ∧
    wr.frozen? ⟨w.heap.size + 1, 2, none⟩ = false ∧ (∃ x, wr.heap[w.heap.size]? = some (.cells #[.int .i64 0, .int .i64 0, x] 26)) ∧ w.heap.size + 2 ≤ wr.heap.size ∧ Below w.heap.size w wr
theorem made_next {rows cols k g cap' : Nat} {E : Nat → Nat → C} {w wr W1 w1 : World} {o : Obj} {s : Value} {zs : List C} {z : C}
    (hz : zs.map cnC = entries cols E k) (hlz : ltCs zs) (hown : wr.ownsRow (w.heap.size + 2) 51 1 s k (nums zs))
    (hc : wr.cell? ⟨w.heap.size + 1, 0, none⟩ = some (.int .i64 (rows : Nat)) ∧ wr.cell? ⟨w.heap.size + 1, 1, none⟩ = some (.int .i64 (cols : Nat))) (hc2 : wr.cell? ⟨w.heap.size + 1, 2, none⟩ = some s)
    (hfr : wr.frozen? ⟨w.heap.size + 1, 2, none⟩ = false) (hrc : ∃ x, wr.heap[w.heap.size]? = some (.cells #[.int .i64 0, .int .i64 0, x] 26)) (hsz : w.heap.size + 2 ≤ wr.heap.size) (hbel : Below w.heap.size w wr)
    (hbW : Below wr.drew.heap.size wr.drew W1) (hgrow : (W1.alloc o).grownBy w1 s.ownBlock)
    (hown1 : w1.ownsRow (w.heap.size + 2) 51 1 (.slice (some ⟨g, 0, none⟩) (k + 1) cap') (k + 1) (nums zs ++ [.complex .f64 z.1 z.2]))
    (hzv : cnC z = entry cols E k) (hzl : ltC z) :
    w1.cell? ⟨w.heap.size + 1, 2, none⟩ = some s ∧ w1.frozen? ⟨w.heap.size + 1, 2, none⟩ = false ∧
      MadeR rows cols E w (k + 1) (w1.setCell ⟨w.heap.size + 1, 2, none⟩ (.slice (some ⟨g, 0, none⟩) (k + 1) cap')) := by
  have hs1 : wr.heap.size ≤ W1.heap.size := hbW.size
  have hs2 : W1.heap.size ≤ (W1.alloc o).heap.size := (below_new W1 o).size
  have FB : ∀ p, p < w.heap.size + 2 → w1.heap[p]? = wr.heap[p]? := fun p hp => by
    have h1 : (W1.alloc o).heap[p]? = W1.heap[p]? := Below.heap_alloc W1 o p (by omega)
    have h2 : W1.heap[p]? = wr.heap[p]? := hbW.block p (show p < wr.heap.size by omega)
    have h3 := hgrow.block p (by omega) (fun e => by have := (hown.lt p e.symm).1; omega)
    exact h3.trans (h1.trans h2)
  have hsz1 : wr.heap.size ≤ w1.heap.size := Nat.le_trans hs1 (Nat.le_trans hs2 hgrow.size)
  have c0 : w1.cell? ⟨w.heap.size + 1, 0, none⟩ = some (.int .i64 (rows : Nat)) := (World.cell?_of_block (w := wr) (FB _ (by show w.heap.size + 1 < _; omega))).trans hc.1
  have c1 : w1.cell? ⟨w.heap.size + 1, 1, none⟩ = some (.int .i64 (cols : Nat)) := (World.cell?_of_block (w := wr) (FB _ (by show w.heap.size + 1 < _; omega))).trans hc.2
  have c2 : w1.cell? ⟨w.heap.size + 1, 2, none⟩ = some s := (World.cell?_of_block (w := wr) (FB _ (by show w.heap.size + 1 < _; omega))).trans hc2
  have f2 : w1.frozen? ⟨w.heap.size + 1, 2, none⟩ = false := (World.frozen?_of_block (w := wr) (FB _ (by show w.heap.size + 1 < _; omega))).trans hfr
  refine ⟨c2, f2, .slice (some ⟨g, 0, none⟩) (k + 1) cap', zs ++ [z], ?_, ?_, ?_, ?_, ?_, ?_, ?_, ?_, ?_, ?_⟩
  · rw [List.map_append, hz, entries_succ, List.map_cons, List.map_nil, hzv]
  · intro y hy
    rcases List.mem_append.1 hy with h | h
    · exact hlz y h
    · simp at h; rw [h]; exact hzl
  · have e : nums (zs ++ [z]) = nums zs ++ [.complex .f64 z.1 z.2] := by simp [nums]
    rw [e]
    exact ownsRow_setCell_below hown1 (by show w.heap.size + 1 < _; omega) _
  · exact (World.cell?_setCell_other _ _ _ _ (by simp)).trans c0
  · exact (World.cell?_setCell_other _ _ _ _ (by simp)).trans c1
  · exact World.cell?_setCell_same _ _ _ c2
  · rw [World.frozen?_setCell]; exact f2
  · obtain ⟨x, hx⟩ := hrc
    refine ⟨x, ?_⟩
    rw [Below.heap_setCell _ _ _ _ (by show w.heap.size ≠ w.heap.size + 1; omega), FB _ (by omega)]; exact hx
  · have : (w1.setCell ⟨w.heap.size + 1, 2, none⟩ (.slice (some ⟨g, 0, none⟩) (k + 1) cap')).heap.size = w1.heap.size := by simp [World.setCell]
    omega
  · have hb1 : Below w.heap.size w w1 := by
      have h1 : Below w.heap.size w W1 := hbel.drew.trans (hbW.mono (by show w.heap.size ≤ wr.heap.size; omega))
      have h2 : Below w.heap.size w (W1.alloc o) := h1.new (Nat.le_refl _) o
      exact h2.grown hgrow (by omega) (fun j hj => by have := (hown.lt j hj).1; omega)
    exact hb1.setCell (by show w.heap.size ≤ w.heap.size + 1; omega) _
end Go.Proofs.Ytibjkmjccelcaaa
namespace Go.Proofs.Ytibjkmjccelcaaa
open Go.RowKit Fl Ieee
set_option maxRecDepth 20000
attribute [local go_sem] run_store_float run_store_complex
/-- What stands at a place, up to NaN. -/
def ent (l : List C) (cols i j : Nat) : C := cnC (l.getD (i * cols + j) (0, 0))
/-- A matrix in a block of its own. -/
def Box (W : World) (b : Nat) (r c : Int) (s : Value) : Prop := W.cell? ⟨b, 0, none⟩ = some (.int .i64 r) ∧ W.cell? ⟨b, 1, none⟩ = some (.int .i64 c) ∧ W.cell? ⟨b, 2, none⟩ = some s
theorem Box.below {W W' : World} {b B : Nat} {r c : Int} {s : Value} (h : Box W b r c s) (hb : Below B W W') (hlt : b < B) : Box W' b r c s :=
  ⟨(hb.cell (p := ⟨b, 0, none⟩) hlt).trans h.1, (hb.cell (p := ⟨b, 1, none⟩) hlt).trans h.2.1, (hb.cell (p := ⟨b, 2, none⟩) hlt).trans h.2.2⟩
theorem Box.new (w : World) (r c : Int) (s : Value) (t : TypeId) : Box (w.alloc (.cells #[.int .i64 r, .int .i64 c, s] t)) w.heap.size r c s := by
  refine ⟨?_, ?_, ?_⟩ <;> (rw [World.cell?_alloc_new]; rfl)
theorem at_ok {l : List C} {rows cols i j : Nat} (hl : l.length = rows * cols) (hi : i < rows) (hj : j < cols) : l[i * cols + j]? = some (l.getD (i * cols + j) (0, 0)) := by
  have h : i * cols + j < l.length := by
    rw [hl]
    have h1 : (i + 1) * cols ≤ rows * cols := Nat.mul_le_mul_right _ hi
    rw [Nat.add_mul, Nat.one_mul] at h1; omega
  rw [List.getElem?_eq_getElem h, List.getD_eq_getElem?_getD, List.getElem?_eq_getElem h]; rfl
theorem ltCs_at {l : List C} {rows cols i j : Nat} (h : ltCs l) (hl : l.length = rows * cols) (hi : i < rows) (hj : j < cols) : ltC (l.getD (i * cols + j) (0, 0)) :=
  h _ (List.mem_of_getElem? (at_ok hl hi hj))
theorem prod_small {rows cols : Nat} (hr : rows ≤ 64) (hc : cols ≤ 64) : rows * cols ≤ 4096 := Nat.mul_le_mul hr hc
theorem enters_of {P : Program} {f : FuncId} {fn : Func} {c : Code} (hf : P.funcs[f]? = some fn) (hn : (fn.name == "runtime.NumGoroutine") = false) (hb : fn.body = some c) (args : Array Value) (W : World) :
    (callFunc f args).run P W = .ok (.enter f args) W := by
  have h1 : fn.name ≠ "runtime.NumGoroutine" := by simpa using hn
  simp [callFunc, hf, h1, hb]
/-- A matrix and what is told of it. -/
def RetMxE (rows cols : Int) (l : List C) (er : Int) (w : World) (e : Ending) (w' : World) : Prop :=
  ∃ s zs, e = .returned (.tuple #[mval rows cols s, .int .i64 er]) ∧ zs.map cnC = l ∧ ltCs zs ∧ w'.ownsRow w.heap.size 51 1 s l.length (nums zs) ∧ Below w.heap.size w w'
theorem box3 {w : World} {b : Nat} {x y z : Value} {t : TypeId} (hx : w.heap[b]? = some (.cells #[x, y, z] t)) :
    w.cell? ⟨b, 0, none⟩ = some x ∧ w.cell? ⟨b, 1, none⟩ = some y ∧ w.cell? ⟨b, 2, none⟩ = some z ∧ (∀ j, w.frozen? ⟨b, j, none⟩ = false) := by
  refine ⟨?_, ?_, ?_, fun j => frozen_of_row w b j _ _ hx⟩
  · rw [cell_of_row w b 0 _ _ _ hx]; rfl
  · rw [cell_of_row w b 1 _ _ _ hx]; rfl
  · rw [cell_of_row w b 2 _ _ _ hx]; rfl
theorem slice_of_own {w : World} {B e n : Nat} {v : Value} {xs : List Value} (h : w.ownsRow B e 1 v n xs) : ∃ A m c, v = .slice A m c ∧ m = n := by
  rcases h.2 with ⟨h, h'⟩ | ⟨g, cap, cur, h, _⟩
  · exact ⟨_, _, _, h, h'.symm⟩
  · exact ⟨_, _, _, h, rfl⟩
theorem close_mx {w W1 : World} {b : Nat} {rows cols er : Int} {s x y z : Value} {zs l : List C} (hz : zs.map cnC = l) (hl : ltCs zs) (hown : W1.ownsRow (b + 1) 51 1 s l.length (nums zs)) (hB : Below w.heap.size w W1) (hb : w.heap.size ≤ b) :
    RetMxE rows cols l er w (.returned (.tuple #[mval rows cols s, .int .i64 er])) (((W1.setCell ⟨b, 0, none⟩ x).setCell ⟨b, 1, none⟩ y).setCell ⟨b, 2, none⟩ z) :=
  ⟨s, zs, rfl, hz, hl, own_base (ownsRow_setCell_below (ownsRow_setCell_below (ownsRow_setCell_below hown (by show b < b + 1; omega) _) (by show b < b + 1; omega) _) (by show b < b + 1; omega) _) (by omega),
    ((hB.setCell hb _).setCell hb _).setCell hb _⟩
/-- What stands behind the frame of a function of one matrix: its box, the result's cell, in any world that has grown since. -/
theorem frame1 {w W1 : World} {r c : Int} {s x y z : Value} {t t' : TypeId} (hb : Below ((w.alloc (.cells #[.int .i64 r, .int .i64 c, s] t)).alloc (.cells #[x, y, z] t')).heap.size ((w.alloc (.cells #[.int .i64 r, .int .i64 c, s] t)).alloc (.cells #[x, y, z] t')) W1) :
    Box W1 w.heap.size r c s ∧ W1.heap[w.heap.size + 1]? = some (.cells #[x, y, z] t') ∧ Below w.heap.size w W1 ∧ w.heap.size + 2 ≤ W1.heap.size := by
  obtain ⟨w1, hw1⟩ : ∃ w1, w1 = w.alloc (.cells #[.int .i64 r, .int .i64 c, s] t) := ⟨_, rfl⟩
  have e1 : w1.heap.size = w.heap.size + 1 := by rw [hw1]; simp
  have hbx : Box w1 w.heap.size r c s := by rw [hw1]; exact Box.new _ _ _ _ _
  have hb1 : Below w.heap.size w w1 := by rw [hw1]; exact below_new _ _
  rw [← hw1] at hb
  have e2 : (w1.alloc (.cells #[x, y, z] t')).heap.size = w.heap.size + 2 := by simp [e1]
  have hb2 : Below w1.heap.size w1 (w1.alloc (.cells #[x, y, z] t')) := below_new _ _
  have hn := heap_alloc_new w1 (.cells #[x, y, z] t')
  generalize w1.alloc (.cells #[x, y, z] t') = w2 at *
  refine ⟨(hbx.below hb2 (by omega)).below hb (by omega), ?_, (hb1.trans (hb2.mono (by omega))).trans (hb.mono (by omega)), by have := hb.size; omega⟩
  rw [hb.block _ (by omega), ← e1]; exact hn
end Go.Proofs.Ytibjkmjccelcaaa
