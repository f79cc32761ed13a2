/- Layer 7: a matrix's shape, its entries. -/
import Derived.Test.YtandllekeimpgaaExt
import Derived.Test.YtandllekeimpgaaFlA
import Derived.Deep.RegionLaw
import Derived.Deep.AppendLies
import Derived.Deep.DeepCutAuto
import Derived.Deep.RegionHeld3
import Derived.Maps.AppendAt
import Derived.Deep.OwnRows
namespace Go.Proofs.Ytandllekeimpgaa
open Go.RowKit Fl Ieee
set_option maxRecDepth 20000
attribute [local go_sem] Fl.order_self Fl.order_self' Fl.order_eq Fl.order_ne Fl.order_lt Fl.order_gt Fl.fle_fold Fl.fge_fold run_store_float run_store_complex
/-- A matrix as a value. -/
abbrev mval (r c : Int) (s : Value) : Value := .agg #[.int .i64 r, .int .i64 c, s]
/-- May it be? (n numbers) -/
def okM (r c : Int) (n : Nat) : Bool := decide (0 ≤ r) && decide (r ≤ 64) && decide (0 ≤ c) && decide (c ≤ 64) && decide ((n : Int) = r * c)
theorem okM_iff {r c : Int} {n : Nat} : okM r c n = true ↔ (0 ≤ r ∧ r ≤ 64 ∧ 0 ≤ c ∧ c ≤ 64 ∧ (n : Int) = r * c) := by
  unfold okM; simp [and_assoc]
/-- A call that only lays new blocks and draws. -/
def RetV (v : Value) (w : World) (e : Ending) (w' : World) : Prop := e = .returned v ∧ Below w.heap.size w w'
theorem below_new (w : World) (o : Obj) : Below w.heap.size w (w.alloc o) := (Below.refl _ w).alloc (Nat.le_refl _) o
theorem Check_c (r c : Int) (A : Option Addr) (n cap : Nat) (w : World) :
    Calls Try.prog 33 #[mval r c (.slice A n cap)] w (RetV (.int .i64 (if okM r c n then 0 else 4)) w) := by
  by_cases h1 : r < 0
  · have e : okM r c n = false := by
      rw [Bool.eq_false_iff]; intro h; have := okM_iff.1 h; omega
    rw [e]
    clear e
    go_enter Try.func33, Try.ntmps33
    go_wp2
    go_ret; exact ⟨rfl, below_new _ _⟩
  · by_cases h2 : 64 < r
    · have e : okM r c n = false := by
        rw [Bool.eq_false_iff]; intro h; have := okM_iff.1 h; omega
      rw [e]
      clear e
      go_enter Try.func33, Try.ntmps33
      go_wp2
      go_ret; exact ⟨rfl, below_new _ _⟩
    · by_cases h3 : c < 0
      · have e : okM r c n = false := by
          rw [Bool.eq_false_iff]; intro h; have := okM_iff.1 h; omega
        rw [e]
        clear e
        go_enter Try.func33, Try.ntmps33
        go_wp2
        go_ret; exact ⟨rfl, below_new _ _⟩
      · by_cases h4 : 64 < c
        · have e : okM r c n = false := by
            rw [Bool.eq_false_iff]; intro h; have := okM_iff.1 h; omega
          rw [e]
          clear e
          go_enter Try.func33, Try.ntmps33
          go_wp2
          go_ret; exact ⟨rfl, below_new _ _⟩
        · obtain ⟨a, rfl⟩ : ∃ a : Nat, r = (a : Int) := ⟨r.toNat, by omega⟩
          obtain ⟨b, rfl⟩ : ∃ b : Nat, c = (b : Int) := ⟨c.toNat, by omega⟩
          have ha : a ≤ 64 := by omega
          have hb : b ≤ 64 := by omega
          have hab : a * b ≤ 64 * 64 := Nat.mul_le_mul ha hb
          have hm : wrap64 ((a : Int) * (b : Int)) = ((a * b : Nat) : Int) := by
            rw [← Int.natCast_mul]; unfold wrap64; omega
          have e1 : n = a * b → okM a b n = true := fun h5 => okM_iff.2 ⟨by omega, by omega, by omega, by omega, by rw [h5, Int.natCast_mul]⟩
          have e2 : n ≠ a * b → okM a b n = false := fun h5 => by
            rw [Bool.eq_false_iff]; intro h
            have h6 := (okM_iff.1 h).2.2.2.2
            rw [← Int.natCast_mul] at h6; omega
          have h1' : ((a : Int) < 0) = False := by simp
          have h2' : (64 < (a : Int)) = False := by simp; omega
          have h3' : ((b : Int) < 0) = False := by simp
          have h4' : (64 < (b : Int)) = False := by simp; omega
          clear h1 h2 h3 h4 hab
          by_cases h5 : n = a * b
          · rw [e1 h5]
            clear e1 e2
            subst h5
            go_enter Try.func33, Try.ntmps33
            go_wp2
            go_ret; exact ⟨rfl, below_new _ _⟩
          · rw [e2 h5]
            have h6 : ((n : Int) == ((a * b : Nat) : Int)) = false := by simp; omega
            clear e1 e2 h5
            go_enter Try.func33, Try.ntmps33
            go_wp2
            go_ret; exact ⟨rfl, below_new _ _⟩
/-- A complex number's cells. -/
abbrev nums (l : List C) : List Value := l.map fun z => .complex .f64 z.1 z.2
end Go.Proofs.Ytandllekeimpgaa
namespace Go.Proofs.Ytandllekeimpgaa
open Go.RowKit Fl Ieee
set_option maxRecDepth 20000
attribute [local go_sem] run_store_float run_store_complex
/-- A number up to NaN. -/
abbrev cnC (z : C) : C := (cn .f64 z.1, cn .f64 z.2)
def ltCs (l : List C) : Prop := ∀ z ∈ l, ltC z
/-- A number is handed back; beside it only new blocks and draws. -/
def RetZ (v : C) (w : World) (e : Ending) (w' : World) : Prop := ∃ z : C, e = .returned (.complex .f64 z.1 z.2) ∧ cnC z = v ∧ ltC z ∧ Below w.heap.size w w'
/-- The entries, row by row; the first k of them. -/
def entry (cols : Nat) (E : Nat → Nat → C) (k : Nat) : C := E (k / cols) (k % cols)
def entries (cols : Nat) (E : Nat → Nat → C) (n : Nat) : List C := (List.range n).map (entry cols E)
theorem entries_succ (cols : Nat) (E : Nat → Nat → C) (n : Nat) : entries cols E (n + 1) = entries cols E n ++ [entry cols E n] := by
  unfold entries; rw [List.range_succ, List.map_append]; rfl
theorem entry_at {cols i j : Nat} (E : Nat → Nat → C) (hj : j < cols) : entry cols E (i * cols + j) = E i j := by
  unfold entry
  have h1 : (i * cols + j) / cols = i := by
    rw [Nat.mul_comm, Nat.mul_add_div (by omega), Nat.div_eq_of_lt hj, Nat.add_zero]
  have h2 : (i * cols + j) % cols = j := by
    rw [Nat.mul_comm, Nat.mul_add_mod, Nat.mod_eq_of_lt hj]
  rw [h1, h2]
theorem own_below {w w' : World} {B e size n : Nat} {v : Value} {xs : List Value} (h : w.ownsRow B e size v n xs) (hb : Below w.heap.size w w') : w'.ownsRow B e size v n xs := by
  refine ⟨h.1, ?_⟩
  rcases h.2 with h1 | ⟨g, cap, cur, hv, hbg, hg, hr⟩
  · exact .inl h1
  · refine .inr ⟨g, cap, cur, hv, hbg, ?_, hr⟩
    have hlt : g < w.heap.size := by
      rcases Nat.lt_or_ge g w.heap.size with h2 | h2
      · exact h2
      · rw [Array.getElem?_eq_none h2] at hg; cases hg
    rw [hb.block g hlt]; exact hg
theorem set3 {w : World} {b : Nat} {x y z u v t : Value} (h0 : w.cell? ⟨b, 0, none⟩ = some x) (h1 : w.cell? ⟨b, 1, none⟩ = some y) (h2 : w.cell? ⟨b, 2, none⟩ = some z) :
    (((w.setCell ⟨b, 0, none⟩ u).setCell ⟨b, 1, none⟩ v).setCell ⟨b, 2, none⟩ t).cell? ⟨b, 0, none⟩ = some u ∧
    (((w.setCell ⟨b, 0, none⟩ u).setCell ⟨b, 1, none⟩ v).setCell ⟨b, 2, none⟩ t).cell? ⟨b, 1, none⟩ = some v ∧
    (((w.setCell ⟨b, 0, none⟩ u).setCell ⟨b, 1, none⟩ v).setCell ⟨b, 2, none⟩ t).cell? ⟨b, 2, none⟩ = some t := by
  have a1 : (w.setCell ⟨b, 0, none⟩ u).cell? ⟨b, 1, none⟩ = some y := (World.cell?_setCell_other _ _ _ _ (by simp)).trans h1
  have a2 : ((w.setCell ⟨b, 0, none⟩ u).setCell ⟨b, 1, none⟩ v).cell? ⟨b, 2, none⟩ = some z := (World.cell?_setCell_other _ _ _ _ (by simp)).trans ((World.cell?_setCell_other _ _ _ _ (by simp)).trans h2)
  exact ⟨(World.cell?_setCell_other _ _ _ _ (by simp)).trans ((World.cell?_setCell_other _ _ _ _ (by simp)).trans (World.cell?_setCell_same _ _ _ h0)),
    (World.cell?_setCell_other _ _ _ _ (by simp)).trans (World.cell?_setCell_same _ _ _ a1), World.cell?_setCell_same _ _ _ a2⟩
theorem own_base {w : World} {B B' e size n : Nat} {v : Value} {xs : List Value} (h : w.ownsRow B e size v n xs) (hB : B' ≤ B) : w.ownsRow B' e size v n xs := by
  refine ⟨h.1, ?_⟩
  rcases h.2 with h1 | ⟨g, cap, cur, hv, hbg, hr⟩
  · exact .inl h1
  · exact .inr ⟨g, cap, cur, hv, Nat.le_trans hB hbg, hr⟩
theorem infoNum : (Try.prog.info? 45).map (fun i => (i.zero, i.size, i.bytes)) = some (some (.complex .f64 0 0), 1, 16) := by kernel_rfl
/-- What is handed back: a matrix in memory of its own. -/
def RetMx (rows cols : Nat) (l : List C) (w : World) (e : Ending) (w' : World) : Prop :=
  ∃ s zs, e = .returned (mval rows cols s) ∧ zs.map cnC = l ∧ ltCs zs ∧ w'.ownsRow w.heap.size 45 1 s l.length (nums zs) ∧ Below w.heap.size w w'
/-- At the head of the loops: k entries have been laid. -/
def MadeR (rows cols : Nat) (E : Nat → Nat → C) (w : World) (k : Nat) (wr : World) : Prop :=
  ∃ s zs, zs.map cnC = entries cols E k ∧ ltCs zs ∧ wr.ownsRow (w.heap.size + 2) 45 1 s k (nums zs) ∧
    wr.cell? ⟨w.heap.size + 1, 0, none⟩ = some (.int .i64 (rows : Nat)) ∧ wr.cell? ⟨w.heap.size + 1, 1, none⟩ = some (.int .i64 (cols : Nat)) ∧ wr.cell? ⟨w.heap.size + 1, 2, none⟩ = some s ∧
    wr.frozen? ⟨w.heap.size + 1, 2, none⟩ = false ∧ (∃ x, wr.heap[w.heap.size]? = some (.cells #[.int .i64 0, .int .i64 0, x] 28)) ∧ w.heap.size + 2 ≤ wr.heap.size ∧ Below w.heap.size w wr
theorem made_next {rows cols k g cap' : Nat} {E : Nat → Nat → C} {w wr W1 w1 : World} {o : Obj} {s : Value} {zs : List C} {z : C}
    (hz : zs.map cnC = entries cols E k) (hlz : ltCs zs) (hown : wr.ownsRow (w.heap.size + 2) 45 1 s k (nums zs))
    (hc : wr.cell? ⟨w.heap.size + 1, 0, none⟩ = some (.int .i64 (rows : Nat)) ∧ wr.cell? ⟨w.heap.size + 1, 1, none⟩ = some (.int .i64 (cols : Nat))) (hc2 : wr.cell? ⟨w.heap.size + 1, 2, none⟩ = some s)
    (hfr : wr.frozen? ⟨w.heap.size + 1, 2, none⟩ = false) (hrc : ∃ x, wr.heap[w.heap.size]? = some (.cells #[.int .i64 0, .int .i64 0, x] 28)) (hsz : w.heap.size + 2 ≤ wr.heap.size) (hbel : Below w.heap.size w wr)
    (hbW : Below wr.drew.heap.size wr.drew W1) (hgrow : (W1.alloc o).grownBy w1 s.ownBlock)
    (hown1 : w1.ownsRow (w.heap.size + 2) 45 1 (.slice (some ⟨g, 0, none⟩) (k + 1) cap') (k + 1) (nums zs ++ [.complex .f64 z.1 z.2]))
    (hzv : cnC z = entry cols E k) (hzl : ltC z) :
    w1.cell? ⟨w.heap.size + 1, 2, none⟩ = some s ∧ w1.frozen? ⟨w.heap.size + 1, 2, none⟩ = false ∧
      MadeR rows cols E w (k + 1) (w1.setCell ⟨w.heap.size + 1, 2, none⟩ (.slice (some ⟨g, 0, none⟩) (k + 1) cap')) := by
  have hs1 : wr.heap.size ≤ W1.heap.size := hbW.size
  have hs2 : W1.heap.size ≤ (W1.alloc o).heap.size := (below_new W1 o).size
  have FB : ∀ p, p < w.heap.size + 2 → w1.heap[p]? = wr.heap[p]? := fun p hp => by
    have h1 : (W1.alloc o).heap[p]? = W1.heap[p]? := Below.heap_alloc W1 o p (by omega)
    have h2 : W1.heap[p]? = wr.heap[p]? := hbW.block p (show p < wr.heap.size by omega)
    have h3 := hgrow.block p (by omega) (fun e => by have := (hown.lt p e.symm).1; omega)
    exact h3.trans (h1.trans h2)
  have hsz1 : wr.heap.size ≤ w1.heap.size := Nat.le_trans hs1 (Nat.le_trans hs2 hgrow.size)
  have c0 : w1.cell? ⟨w.heap.size + 1, 0, none⟩ = some (.int .i64 (rows : Nat)) := (World.cell?_of_block (w := wr) (FB _ (by show w.heap.size + 1 < _; omega))).trans hc.1
  have c1 : w1.cell? ⟨w.heap.size + 1, 1, none⟩ = some (.int .i64 (cols : Nat)) := (World.cell?_of_block (w := wr) (FB _ (by show w.heap.size + 1 < _; omega))).trans hc.2
  have c2 : w1.cell? ⟨w.heap.size + 1, 2, none⟩ = some s := (World.cell?_of_block (w := wr) (FB _ (by show w.heap.size + 1 < _; omega))).trans hc2
  have f2 : w1.frozen? ⟨w.heap.size + 1, 2, none⟩ = false := (World.frozen?_of_block (w := wr) (FB _ (by show w.heap.size + 1 < _; omega))).trans hfr
  refine ⟨c2, f2, .slice (some ⟨g, 0, none⟩) (k + 1) cap', zs ++ [z], ?_, ?_, ?_, ?_, ?_, ?_, ?_, ?_, ?_, ?_⟩
  · rw [List.map_append, hz, entries_succ, List.map_cons, List.map_nil, hzv]
  · intro y hy
    rcases List.mem_append.1 hy with h | h
    · exact hlz y h
    · simp at h; rw [h]; exact hzl
  · have e : nums (zs ++ [z]) = nums zs ++ [.complex .f64 z.1 z.2] := by simp [nums]
    rw [e]
    exact ownsRow_setCell_below hown1 (by show w.heap.size + 1 < _; omega) _
  · exact (World.cell?_setCell_other _ _ _ _ (by simp)).trans c0
  · exact (World.cell?_setCell_other _ _ _ _ (by simp)).trans c1
  · exact World.cell?_setCell_same _ _ _ c2
  · rw [World.frozen?_setCell]; exact f2
  · obtain ⟨x, hx⟩ := hrc
    refine ⟨x, ?_⟩
    rw [Below.heap_setCell _ _ _ _ (by show w.heap.size ≠ w.heap.size + 1; omega), FB _ (by omega)]; exact hx
  · have : (w1.setCell ⟨w.heap.size + 1, 2, none⟩ (.slice (some ⟨g, 0, none⟩) (k + 1) cap')).heap.size = w1.heap.size := by simp [World.setCell]
    omega
  · have hb1 : Below w.heap.size w w1 := by
      have h1 : Below w.heap.size w W1 := hbel.drew.trans (hbW.mono (by show w.heap.size ≤ wr.heap.size; omega))
      have h2 : Below w.heap.size w (W1.alloc o) := h1.new (Nat.le_refl _) o
      exact h2.grown hgrow (by omega) (fun j hj => by have := (hown.lt j hj).1; omega)
    exact hb1.setCell (by show w.heap.size ≤ w.heap.size + 1; omega) _
end Go.Proofs.Ytandllekeimpgaa
namespace Go.Proofs.Ytandllekeimpgaa
open Go.RowKit Fl Ieee
set_option maxRecDepth 20000
attribute [local go_sem] run_store_float run_store_complex
/-- What stands at a place, up to NaN. -/
def ent (l : List C) (cols i j : Nat) : C := cnC (l.getD (i * cols + j) (0, 0))
/-- A matrix in a block of its own. -/
def Box (W : World) (b : Nat) (r c : Int) (s : Value) : Prop := W.cell? ⟨b, 0, none⟩ = some (.int .i64 r) ∧ W.cell? ⟨b, 1, none⟩ = some (.int .i64 c) ∧ W.cell? ⟨b, 2, none⟩ = some s
theorem Box.below {W W' : World} {b B : Nat} {r c : Int} {s : Value} (h : Box W b r c s) (hb : Below B W W') (hlt : b < B) : Box W' b r c s :=
  ⟨(hb.cell (p := ⟨b, 0, none⟩) hlt).trans h.1, (hb.cell (p := ⟨b, 1, none⟩) hlt).trans h.2.1, (hb.cell (p := ⟨b, 2, none⟩) hlt).trans h.2.2⟩
theorem Box.new (w : World) (r c : Int) (s : Value) (t : TypeId) : Box (w.alloc (.cells #[.int .i64 r, .int .i64 c, s] t)) w.heap.size r c s := by
  refine ⟨?_, ?_, ?_⟩ <;> (rw [World.cell?_alloc_new]; rfl)
theorem at_ok {l : List C} {rows cols i j : Nat} (hl : l.length = rows * cols) (hi : i < rows) (hj : j < cols) : l[i * cols + j]? = some (l.getD (i * cols + j) (0, 0)) := by
  have h : i * cols + j < l.length := by
    rw [hl]
    have h1 : (i + 1) * cols ≤ rows * cols := Nat.mul_le_mul_right _ hi
    rw [Nat.add_mul, Nat.one_mul] at h1; omega
  rw [List.getElem?_eq_getElem h, List.getD_eq_getElem?_getD, List.getElem?_eq_getElem h]; rfl
theorem ltCs_at {l : List C} {rows cols i j : Nat} (h : ltCs l) (hl : l.length = rows * cols) (hi : i < rows) (hj : j < cols) : ltC (l.getD (i * cols + j) (0, 0)) :=
  h _ (List.mem_of_getElem? (at_ok hl hi hj))
theorem prod_small {rows cols : Nat} (hr : rows ≤ 64) (hc : cols ≤ 64) : rows * cols ≤ 4096 := Nat.mul_le_mul hr hc
theorem enters_of {P : Program} {f : FuncId} {fn : Func} {c : Code} (hf : P.funcs[f]? = some fn) (hn : (fn.name == "runtime.NumGoroutine") = false) (hb : fn.body = some c) (args : Array Value) (W : World) :
    (callFunc f args).run P W = .ok (.enter f args) W := by
  have h1 : fn.name ≠ "runtime.NumGoroutine" := by simpa using hn
  simp [callFunc, hf, h1, hb]
/-- A matrix and what is told of it. -/
def RetMxE (rows cols : Int) (l : List C) (er : Int) (w : World) (e : Ending) (w' : World) : Prop :=
  ∃ s zs, e = .returned (.tuple #[mval rows cols s, .int .i64 er]) ∧ zs.map cnC = l ∧ ltCs zs ∧ w'.ownsRow w.heap.size 45 1 s l.length (nums zs) ∧ Below w.heap.size w w'
theorem box3 {w : World} {b : Nat} {x y z : Value} {t : TypeId} (hx : w.heap[b]? = some (.cells #[x, y, z] t)) :
    w.cell? ⟨b, 0, none⟩ = some x ∧ w.cell? ⟨b, 1, none⟩ = some y ∧ w.cell? ⟨b, 2, none⟩ = some z ∧ (∀ j, w.frozen? ⟨b, j, none⟩ = false) := by
  refine ⟨?_, ?_, ?_, fun j => frozen_of_row w b j _ _ hx⟩
  · rw [cell_of_row w b 0 _ _ _ hx]; rfl
  · rw [cell_of_row w b 1 _ _ _ hx]; rfl
  · rw [cell_of_row w b 2 _ _ _ hx]; rfl
theorem slice_of_own {w : World} {B e n : Nat} {v : Value} {xs : List Value} (h : w.ownsRow B e 1 v n xs) : ∃ A m c, v = .slice A m c ∧ m = n := by
  rcases h.2 with ⟨h, h'⟩ | ⟨g, cap, cur, h, _⟩
  · exact ⟨_, _, _, h, h'.symm⟩
  · exact ⟨_, _, _, h, rfl⟩
theorem close_mx {w W1 : World} {b : Nat} {rows cols er : Int} {s x y z : Value} {zs l : List C} (hz : zs.map cnC = l) (hl : ltCs zs) (hown : W1.ownsRow (b + 1) 45 1 s l.length (nums zs)) (hB : Below w.heap.size w W1) (hb : w.heap.size ≤ b) :
    RetMxE rows cols l er w (.returned (.tuple #[mval rows cols s, .int .i64 er])) (((W1.setCell ⟨b, 0, none⟩ x).setCell ⟨b, 1, none⟩ y).setCell ⟨b, 2, none⟩ z) :=
  ⟨s, zs, rfl, hz, hl, own_base (ownsRow_setCell_below (ownsRow_setCell_below (ownsRow_setCell_below hown (by show b < b + 1; omega) _) (by show b < b + 1; omega) _) (by show b < b + 1; omega) _) (by omega),
    ((hB.setCell hb _).setCell hb _).setCell hb _⟩
/-- What stands behind the frame of a function of one matrix: its box, the result's cell, in any world that has grown since. -/
theorem frame1 {w W1 : World} {r c : Int} {s x y z : Value} {t t' : TypeId} (hb : Below ((w.alloc (.cells #[.int .i64 r, .int .i64 c, s] t)).alloc (.cells #[x, y, z] t')).heap.size ((w.alloc (.cells #[.int .i64 r, .int .i64 c, s] t)).alloc (.cells #[x, y, z] t')) W1) :
    Box W1 w.heap.size r c s ∧ W1.heap[w.heap.size + 1]? = some (.cells #[x, y, z] t') ∧ Below w.heap.size w W1 ∧ w.heap.size + 2 ≤ W1.heap.size := by
  obtain ⟨w1, hw1⟩ : ∃ w1, w1 = w.alloc (.cells #[.int .i64 r, .int .i64 c, s] t) := ⟨_, rfl⟩
  have e1 : w1.heap.size = w.heap.size + 1 := by rw [hw1]; simp
  have hbx : Box w1 w.heap.size r c s := by rw [hw1]; exact Box.new _ _ _ _ _
  have hb1 : Below w.heap.size w w1 := by rw [hw1]; exact below_new _ _
  rw [← hw1] at hb
  have e2 : (w1.alloc (.cells #[x, y, z] t')).heap.size = w.heap.size + 2 := by simp [e1]
  have hb2 : Below w1.heap.size w1 (w1.alloc (.cells #[x, y, z] t')) := below_new _ _
  have hn := heap_alloc_new w1 (.cells #[x, y, z] t')
  generalize w1.alloc (.cells #[x, y, z] t') = w2 at *
  refine ⟨(hbx.below hb2 (by omega)).below hb (by omega), ?_, (hb1.trans (hb2.mono (by omega))).trans (hb.mono (by omega)), by have := hb.size; omega⟩
  rw [hb.block _ (by omega), ← e1]; exact hn
end Go.Proofs.Ytandllekeimpgaa
namespace Go.Proofs.Ytandllekeimpgaa
open Go.RowKit Fl Ieee
set_option maxRecDepth 20000
attribute [local go_sem] run_store_float run_store_complex
/-- A row times a column, its first k terms, up to NaN. -/
def dot (la lb : List C) (ca cb i j : Nat) : Nat → C
  | 0 => (0, 0)
  | k + 1 => pAdd (dot la lb ca cb i j k) (pMul (ent la ca i k) (ent lb cb k j))
/-- A value is handed back, told from a world on. -/
def FromV (v : Value) (B : Nat) (w : World) (e : Ending) (w' : World) : Prop := e = .returned v ∧ Below B w w'
def FromZ (v : C) (B : Nat) (w : World) (e : Ending) (w' : World) : Prop := ∃ z : C, e = .returned (.complex .f64 z.1 z.2) ∧ cnC z = v ∧ ltC z ∧ Below B w w'
theorem from_v {P : Program} {f : FuncId} {args : Array Value} {B : Nat} {w V : World} {v : Value} (h : Calls P f args V (RetV v V)) (hb : Below B w V) (hB : B ≤ w.heap.size) : Calls P f args V (FromV v B w) :=
  h.mono fun _ _ ⟨he, h1⟩ => ⟨he, hb.trans (h1.mono (Nat.le_trans hB hb.size))⟩
theorem from_c {P : Program} {f : FuncId} {args : Array Value} {B : Nat} {w V : World} {v : C} (h : Calls P f args V (RetC v V)) (hb : Below B w V) : Calls P f args V (FromZ v B w) :=
  h.mono fun _ _ ⟨x, y, n, he, hv, hx, hy, hw⟩ => ⟨(x, y), he, hv, ⟨hx, hy⟩, by rw [hw]; exact below_drewN hb n⟩
end Go.Proofs.Ytandllekeimpgaa
namespace Go.Proofs.Ytandllekeimpgaa
open Go.RowKit Fl Ieee
set_option maxRecDepth 20000
attribute [local go_sem] run_store_float run_store_complex
/-- What stands behind the frame of a function of two matrices: both boxes, the result's cell. -/
theorem frame2 {w W1 : World} {r c r' c' : Int} {s s' x y z : Value} {t t' t'' : TypeId}
    (hb : Below (((w.alloc (.cells #[.int .i64 r, .int .i64 c, s] t)).alloc (.cells #[.int .i64 r', .int .i64 c', s'] t')).alloc (.cells #[x, y, z] t'')).heap.size
      (((w.alloc (.cells #[.int .i64 r, .int .i64 c, s] t)).alloc (.cells #[.int .i64 r', .int .i64 c', s'] t')).alloc (.cells #[x, y, z] t'')) W1) :
    Box W1 w.heap.size r c s ∧ Box W1 (w.heap.size + 1) r' c' s' ∧ W1.heap[w.heap.size + 2]? = some (.cells #[x, y, z] t'') ∧ Below w.heap.size w W1 ∧ w.heap.size + 3 ≤ W1.heap.size := by
  obtain ⟨w1, hw1⟩ : ∃ w1, w1 = w.alloc (.cells #[.int .i64 r, .int .i64 c, s] t) := ⟨_, rfl⟩
  have e1 : w1.heap.size = w.heap.size + 1 := by rw [hw1]; simp
  have hbx : Box w1 w.heap.size r c s := by rw [hw1]; exact Box.new _ _ _ _ _
  have hb1 : Below w.heap.size w w1 := by rw [hw1]; exact below_new _ _
  rw [← hw1] at hb
  obtain ⟨h1, h2, h3, h4⟩ := frame1 hb
  rw [e1] at h1 h2 h3 h4
  exact ⟨hbx.below h3 (by omega), h1, h2, hb1.trans (h3.mono (by omega)), h4⟩
end Go.Proofs.Ytandllekeimpgaa
namespace Go.Proofs.Ytandllekeimpgaa
open Go.RowKit Fl Ieee
set_option maxRecDepth 20000
attribute [local go_sem] run_store_float run_store_complex
/-- The cells of a list of numbers by their bits. -/
def zcells (l : List C) : List Value := l.flatMap fun z => [.int .u64 (z.1 : Nat), .int .u64 (z.2 : Nat)]
theorem zcells_at {l : List C} {k : Nat} {z : C} (h : l[k]? = some z) : (zcells l)[2 * k]? = some (.int .u64 (z.1 : Nat)) ∧ (zcells l)[2 * k + 1]? = some (.int .u64 (z.2 : Nat)) := by
  induction l generalizing k with
  | nil => simp at h
  | cons a t ih =>
    have e : zcells (a :: t) = [.int .u64 (a.1 : Nat), .int .u64 (a.2 : Nat)] ++ zcells t := rfl
    cases k with
    | zero => simp at h; subst h; rw [e]; simp
    | succ k =>
      have h1 := ih (k := k) (by simpa using h)
      rw [e]
      constructor
      · rw [List.getElem?_append_right (by simp; omega)]
        have : 2 * (k + 1) - [Value.int IntKind.u64 (a.1 : Nat), .int .u64 (a.2 : Nat)].length = 2 * k := by simp; omega
        rw [this]; exact h1.1
      · rw [List.getElem?_append_right (by simp; omega)]
        have : 2 * (k + 1) + 1 - [Value.int IntKind.u64 (a.1 : Nat), .int .u64 (a.2 : Nat)].length = 2 * k + 1 := by simp; omega
        rw [this]; exact h1.2
/-- A list in memory of its own. -/
def RetL (l : List C) (w : World) (e : Ending) (w' : World) : Prop := ∃ s, e = .returned s ∧ w'.ownsRow w.heap.size 45 1 s l.length (nums l) ∧ Below w.heap.size w w'
def NumbersR (l : List C) (w : World) (s i : Value) (wr : World) : Prop :=
  ∃ k : Nat, k ≤ l.length ∧ i = .int .i64 (k : Nat) ∧ wr.ownsRow w.heap.size 45 1 s k (nums (l.take k)) ∧ Below w.heap.size w wr
set_option maxHeartbeats 1000000 in
theorem Numbers_c (A : Option Addr) (l : List C) (c : Nat) (w : World) (hl : l.length ≤ 1000000) (hr : Reads w w.heap.size A (zcells l)) :
    Calls Try.prog 10 #[.slice A l.length c] w (RetL l w) := by
  obtain ⟨i0, hi, hz0, hz1, hz2⟩ := info_parts infoNum
  have HR := Lib.hid hr
  clear hr
  go_enter Try.func10, Try.ntmps10
  go_wp2
  go_loopw [3, 4] (fun s i wr => NumbersR l w s i wr) (fun _ i _ => l.length - (intOf i).toNat)
  case atStart => exact ⟨0, Nat.zero_le _, rfl, World.ownsRow_nil _ _ _ _, Below.refl _ _⟩
  case round =>
    obtain ⟨k, hk, rfl, hown, hb⟩ := hrel
    have HB := Lib.hid hb
    have HO := Lib.hid hown
    clear hb hown
    by_cases hlt : k < l.length
    · obtain ⟨z, hz⟩ : ∃ z, l[k]? = some z := ⟨l[k], List.getElem?_eq_getElem hlt⟩
      obtain ⟨h1, h2⟩ := zcells_at hz
      obtain ⟨ad, rfl, hab, hc1⟩ := (HR.out.below HB.out).at_ h1
      obtain ⟨ad2, e2, _, hc2⟩ := (HR.out.below HB.out).at_ h2
      have e3 : ad = ad2 := by simpa using e2
      subst e3
      have HZ := Lib.hid hz
      have hd1 : wr.cell? (ad.add (k * 2)) = some (.int .u64 (z.1 : Nat)) := by rw [Nat.mul_comm]; exact hc1
      have hd2 : wr.cell? { block := (ad.add (k * 2)).block, off := (ad.add (k * 2)).off + 1 } = some (.int .u64 (z.2 : Nat)) := by
        have e4 : ad.add (2 * k + 1) = (ad.add (k * 2)).add 1 := by rw [add_of_add, Nat.mul_comm]
        rw [e4] at hc2; exact hc2
      clear hz h1 h2 e2 hc1 hc2
      go_wp2_with (fail)
      refine (Number_c _ _ _).mono ?_
      rintro e w' ⟨n, rfl, rfl⟩
      have hsz := HB.out.size
      have hsz2 : ∀ o, wr.heap.size + 1 = ((wr.alloc o).drewN n).heap.size := fun o => by rw [size_drewN]; simp
      go_wp2_with (at_builtin; refine wpList_append_own _ rfl (.tmp 11) (.tmp 17) 26 rfl w.heap.size 45 i0 (.complex .f64 0 0) 1 16 Try.underlying26 hi hz0 hz1 hz2 rfl (by decide) _ _ _ rfl ((own_drewN (HO.out.alloc _) n).alloc _) ⟨wr.heap.size + 1, 0, none⟩ 1 1 [.complex .f64 z.1 z.2] rfl rfl (cell_one_at _ _ _ (hsz2 _)) (by intro u hu; simp at hu; subst hu; rfl) (by unfold maxLen; omega) (by omega) (Nat.le_trans hsz (Nat.le_trans (below_new wr _).size (below_new ((wr.alloc _).drewN n) _).size)) ?_; intro v' w1 hown1 hgrow1 hnil1)
      clear hnil1
      have hlen : (l.take (k + 1)) = l.take k ++ [z] := by
        have hk2 : l[k] = z := by have := HZ.out; rw [List.getElem?_eq_getElem hlt] at this; exact Option.some.inj this
        rw [List.take_succ_eq_append_getElem hlt, hk2]
      have H5 : w1.ownsRow w.heap.size 45 1 v' (k + 1) (nums (l.take (k + 1))) := by
        rw [hlen]
        have e : nums (l.take k ++ [z]) = nums (l.take k) ++ [.complex .f64 z.1 z.2] := by simp [nums]
        rw [e]; exact hown1
      have H4 : Below w.heap.size w w1 := ((below_drewN (HB.out.new (Nat.le_refl _) _) n).new (Nat.le_refl _) _).grown hgrow1 (Nat.le_trans hsz (Nat.le_trans (below_new wr _).size (below_new ((wr.alloc _).drewN n) _).size)) (fun j hj => (HO.out.lt j hj).1)
      go_roundw
      case rel => exact ⟨k + 1, hlt, by go_num, H5, H4⟩
      case measure => simp [intOf]; omega
    · have e : k = l.length := by omega
      subst e
      go_wp2
      go_ret
      refine ⟨_, rfl, ?_, HB.out⟩
      have h := HO.out
      rw [List.take_length] at h; exact h
end Go.Proofs.Ytandllekeimpgaa
namespace Go.Proofs.Ytandllekeimpgaa
open Go.RowKit Fl Ieee
set_option maxRecDepth 20000
attribute [local go_sem] run_store_float run_store_complex
theorem wrap_small (x : Nat) (h : x ≤ 4096) : wrap64 (x : Int) = (x : Int) := by unfold wrap64; omega
theorem wrap_sum (x y : Nat) (h : x + y ≤ 4096) : wrap64 ((x : Int) + (y : Int)) = (x : Int) + (y : Int) := by unfold wrap64; omega
theorem frame0 {w W1 : World} {r c : Int} {s : Value} {t : TypeId} (hb : Below (w.alloc (.cells #[.int .i64 r, .int .i64 c, s] t)).heap.size (w.alloc (.cells #[.int .i64 r, .int .i64 c, s] t)) W1) :
    Box W1 w.heap.size r c s ∧ Below w.heap.size w W1 ∧ w.heap.size < W1.heap.size := by
  obtain ⟨w1, hw1⟩ : ∃ w1, w1 = w.alloc (.cells #[.int .i64 r, .int .i64 c, s] t) := ⟨_, rfl⟩
  have e1 : w1.heap.size = w.heap.size + 1 := by rw [hw1]; simp
  have hbx : Box w1 w.heap.size r c s := by rw [hw1]; exact Box.new _ _ _ _ _
  have hb1 : Below w.heap.size w w1 := by rw [hw1]; exact below_new _ _
  rw [← hw1] at hb
  exact ⟨hbx.below hb (by omega), hb1.trans (hb.mono (by omega)), by have := hb.size; omega⟩
end Go.Proofs.Ytandllekeimpgaa
namespace Go.Proofs.Ytandllekeimpgaa
open Go.RowKit Fl Ieee
set_option maxRecDepth 20000
attribute [local go_sem] run_store_float run_store_complex
theorem kSameNumber_t (p q : C) (h : cnC p = cnC q) (w : World) :
    Calls Try.prog 42 #[.complex .f64 p.1 p.2, .complex .f64 q.1 q.2] w fun e w' => e = .returned (.bool true) ∧ w = w' := by
  have h1 : ∀ W : World, Calls Try.prog 66 #[.float .f64 p.1, .float .f64 q.1] W fun e w' => e = .returned (.bool true) ∧ W = w' := fun W => by
    have := kSameReal_c p.1 q.1 W
    rwa [decide_eq_true (congrArg Prod.fst h)] at this
  have h2 : ∀ W : World, Calls Try.prog 66 #[.float .f64 p.2, .float .f64 q.2] W fun e w' => e = .returned (.bool true) ∧ W = w' := fun W => by
    have := kSameReal_c p.2 q.2 W
    rwa [decide_eq_true (congrArg Prod.snd h)] at this
  have H1 := Lib.hid h1
  have H2 := Lib.hid h2
  clear h h1 h2
  go_enter Try.func42, Try.ntmps42
  go_wp2_with fail
  refine (H1.out _).mono ?_
  rintro e w' ⟨rfl, rfl⟩
  go_wp2_with fail
  refine (H2.out _).mono ?_
  rintro e w' ⟨rfl, rfl⟩
  go_wp2
  go_ret; exact ⟨rfl, rfl⟩
def SameN (l : List C) (w : World) (i : Value) (wr : World) : Prop := ∃ k m : Nat, k ≤ l.length ∧ i = .int .i64 (k : Nat) ∧ wr = w.drewN m
set_option maxHeartbeats 1000000 in
theorem SameNumbers_t (A B : Option Addr) (l m : List C) (n c c' : Nat) (w : World) (hn : l.length = n) (hm : m.length = n) (h : l.map cnC = m.map cnC) (hmax : n ≤ 4611686018427387904)
    (hA : Reads w w.heap.size A (nums l)) (hB : Reads w w.heap.size B (nums m)) :
    Calls Try.prog 16 #[.slice A n c, .slice B n c'] w (RetB true w) := by
  have HA := Lib.hid hA
  have HB := Lib.hid hB
  have HH := Lib.hid h
  have HN := Lib.hid hn
  have HM := Lib.hid hm
  clear hA hB h hn hm
  go_enter Try.func16, Try.ntmps16
  go_wp2
  go_loopw [5] (fun i wr => SameN l w i wr) (fun i _ => n - (intOf i).toNat)
  case atStart => exact ⟨0, 0, Nat.zero_le _, rfl, rfl⟩
  case round =>
    obtain ⟨k, d, hk, rfl, rfl⟩ := hrel
    have hkn : k ≤ n := by rw [← HN.out]; exact hk
    clear hk
    by_cases hlt : k < n
    · obtain ⟨x, hx⟩ := some_of_lt (l := l) (k := k) (by rw [HN.out]; exact hlt)
      obtain ⟨y, hy⟩ := some_of_lt (l := m) (k := k) (by rw [HM.out]; exact hlt)
      have e : cnC x = cnC y := by
        have h1 := congrArg (fun t : List C => t[k]?) HH.out
        simp [hx, hy] at h1; exact Prod.ext h1.1 h1.2
      have hxv : (nums l)[k]? = some (.complex .f64 x.1 x.2) := by simp [nums, hx]
      have hyv : (nums m)[k]? = some (.complex .f64 y.1 y.2) := by simp [nums, hy]
      obtain ⟨ad, rfl, _, hc1⟩ := HA.out.at_ hxv
      obtain ⟨bd, rfl, _, hc2⟩ := HB.out.at_ hyv
      have HS := Lib.hid (kSameNumber_t x y e)
      clear e hx hy hxv hyv
      go_wp2
      go_quiet ((go_at_call 42; exact quiet_add_left (HS.out _)))
      go_wp2
      go_roundw
      case rel => exact ⟨k + 1, _, by rw [HN.out]; omega, by go_num, rfl⟩
      case measure => simp [intOf]; omega
    · go_wp2
      go_ret
      exact closeB rfl
end Go.Proofs.Ytandllekeimpgaa
namespace Go.Proofs.Ytandllekeimpgaa
open Go.RowKit Fl Ieee
set_option maxRecDepth 20000
attribute [local go_sem] run_store_float run_store_complex
/-- One on the diagonal. -/
def idE (i j : Nat) : C := if i = j then (fone, 0) else (0, 0)
end Go.Proofs.Ytandllekeimpgaa
namespace Go.Proofs.Ytandllekeimpgaa
open Go.RowKit Fl Ieee
set_option maxRecDepth 20000
attribute [local go_sem] run_store_float run_store_complex
end Go.Proofs.Ytandllekeimpgaa
namespace Go.Proofs.Ytandllekeimpgaa
open Go.RowKit Fl Ieee
set_option maxRecDepth 20000
attribute [local go_sem] run_store_float run_store_complex
theorem frameC {w W1 : World} {v : Value} {t : TypeId} (hb : Below (w.alloc (.cells #[v] t)).heap.size (w.alloc (.cells #[v] t)) W1) :
    W1.cell? ⟨w.heap.size, 0, none⟩ = some v ∧ Below w.heap.size w W1 ∧ w.heap.size < W1.heap.size := by
  obtain ⟨w1, hw1⟩ : ∃ w1, w1 = w.alloc (.cells #[v] t) := ⟨_, rfl⟩
  have e1 : w1.heap.size = w.heap.size + 1 := by rw [hw1]; simp
  have hc : w1.cell? ⟨w.heap.size, 0, none⟩ = some v := by rw [hw1, World.cell?_alloc_new]; rfl
  have hb1 : Below w.heap.size w w1 := by rw [hw1]; exact below_new _ _
  rw [← hw1] at hb
  exact ⟨(hb.cell (p := ⟨w.heap.size, 0, none⟩) (by show w.heap.size < _; omega)).trans hc, hb1.trans (hb.mono (by omega)), by have := hb.size; omega⟩
theorem frameR {w W1 : World} {x y z : Value} {t : TypeId} (hb : Below (w.alloc (.cells #[x, y, z] t)).heap.size (w.alloc (.cells #[x, y, z] t)) W1) :
    W1.heap[w.heap.size]? = some (.cells #[x, y, z] t) ∧ Below w.heap.size w W1 ∧ w.heap.size < W1.heap.size := by
  obtain ⟨w1, hw1⟩ : ∃ w1, w1 = w.alloc (.cells #[x, y, z] t) := ⟨_, rfl⟩
  have e1 : w1.heap.size = w.heap.size + 1 := by rw [hw1]; simp
  have hc : w1.heap[w.heap.size]? = some (.cells #[x, y, z] t) := by rw [hw1]; exact heap_alloc_new w _
  have hb1 : Below w.heap.size w w1 := by rw [hw1]; exact below_new _ _
  rw [← hw1] at hb
  exact ⟨(hb.block _ (by omega)).trans hc, hb1.trans (hb.mono (by omega)), by have := hb.size; omega⟩
/-- Behind the frame: two boxes, a cell, the result's row. -/
theorem frame2f {w W1 : World} {r c r' c' : Int} {s s' x y z f : Value} {t t' tf t'' : TypeId}
    (hb : Below ((((w.alloc (.cells #[.int .i64 r, .int .i64 c, s] t)).alloc (.cells #[.int .i64 r', .int .i64 c', s'] t')).alloc (.cells #[f] tf)).alloc (.cells #[x, y, z] t'')).heap.size
      ((((w.alloc (.cells #[.int .i64 r, .int .i64 c, s] t)).alloc (.cells #[.int .i64 r', .int .i64 c', s'] t')).alloc (.cells #[f] tf)).alloc (.cells #[x, y, z] t'')) W1) :
    Box W1 w.heap.size r c s ∧ Box W1 (w.heap.size + 1) r' c' s' ∧ W1.cell? ⟨w.heap.size + 2, 0, none⟩ = some f ∧ W1.heap[w.heap.size + 3]? = some (.cells #[x, y, z] t'') ∧ Below w.heap.size w W1 ∧ w.heap.size + 4 ≤ W1.heap.size := by
  obtain ⟨w1, hw1⟩ : ∃ w1, w1 = w.alloc (.cells #[.int .i64 r, .int .i64 c, s] t) := ⟨_, rfl⟩
  obtain ⟨w2, hw2⟩ : ∃ w2, w2 = w1.alloc (.cells #[.int .i64 r', .int .i64 c', s'] t') := ⟨_, rfl⟩
  obtain ⟨w3, hw3⟩ : ∃ w3, w3 = w2.alloc (.cells #[f] tf) := ⟨_, rfl⟩
  have e1 : w1.heap.size = w.heap.size + 1 := by rw [hw1]; simp
  have e2 : w2.heap.size = w.heap.size + 2 := by rw [hw2]; simp [e1]
  have e3 : w3.heap.size = w.heap.size + 3 := by rw [hw3]; simp [e2]
  rw [← hw1, ← hw2, ← hw3] at hb
  obtain ⟨h1, h2, h3⟩ := frameR hb
  rw [e3] at h1 h3
  rw [hw3] at h2
  obtain ⟨h4, h5, h6⟩ := frameC h2
  rw [e2] at h4
  rw [hw2] at h5
  obtain ⟨h7, h8, h9⟩ := frame0 h5
  rw [e1] at h7
  rw [hw1] at h8
  obtain ⟨h10, h11, h12⟩ := frame0 h8
  exact ⟨h10, h7, h4, h1, h11, h3⟩
end Go.Proofs.Ytandllekeimpgaa
namespace Go.Proofs.Ytandllekeimpgaa
open Go.RowKit Fl Ieee
set_option maxRecDepth 20000
attribute [local go_sem] run_store_float run_store_complex
theorem wpList_append_none {P : Program} {w : World} {ops : Array Oper} {rest : List Oper} {o : Oper} {a : Act} {Q : Exit → Act → World → Prop} (hgd : o.guard = none) (s x : Operand) (t : TypeId)
    (ho : o.op = .call { callee := .builtin .append, args := #[s, x], argTypes := #[t, t] })
    (base : Nat) (e : TypeId) (i : TypeInfo) (size : Nat) (ht : P.underlying t = some (.slice e)) (hi : P.info? e = some i)
    (v : Value) (n : Nat) (xs : List Value) (hs : a.eval s = v) (hown : w.ownsRow base e size v n xs) (hx : a.eval x = .slice none 0 0)
    (h : wpList P ops Q rest (a.put o.dst v) w) : wpList P ops Q (o :: rest) a w :=
  wpList_plain hgd fun _ hK => by
    have hr := run_append_owned_none (P := P) w base t o.type e i size ht hi v n xs hown
    unfold Oper.wp execOp
    simp only [ho, resolve, invoke, builtin, Sem.run_bind, Sem.run_pure, Result.andThen_ok, List.map_toArray, List.map_cons, List.map_nil, hs, hx, hr]
    exact hK _ _ h
/-- A list, told up to NaN, and what is told of it. -/
def RetLC (l : List C) (er : Int) (w : World) (e : Ending) (w' : World) : Prop := ∃ s zs, e = .returned (.tuple #[s, .int .i64 er]) ∧ zs.map cnC = l ∧ ltCs zs ∧ w'.ownsRow w.heap.size 45 1 s l.length (nums zs) ∧ Below w.heap.size w w'
theorem own_slice {w : World} {B n m : Nat} {A : Option Addr} {e : TypeId} {cap : Nat} {xs : List Value} (h : w.ownsRow B e 1 (.slice A m cap) n xs) : m = n ∧ n ≤ cap ∧ (A = none → cap = 0) := by
  rcases h.2 with ⟨h, h'⟩ | ⟨g, cap', cur, h, _, _, hn, _⟩
  · injection h with h1 h2 h3
    subst h1 h2 h3
    exact ⟨h'.symm, by omega, fun _ => rfl⟩
  · injection h with h1 h2 h3
    subst h1 h2 h3
    exact ⟨rfl, hn, fun h => by cases h⟩
end Go.Proofs.Ytandllekeimpgaa
namespace Go.Proofs.Ytandllekeimpgaa
open Go.RowKit Fl Ieee
theorem at_made {zs : List C} {c r i j : Nat} {E : Nat → Nat → C} (h : zs.map cnC = entries c E (r * c)) (hi : i < r) (hj : j < c) : ent zs c i j = E i j := by
  have hlt : i * c + j < r * c := by
    have h1 : (i + 1) * c ≤ r * c := Nat.mul_le_mul_right _ hi
    rw [Nat.add_mul, Nat.one_mul] at h1; omega
  have h2 := congrArg (fun t : List C => t[i * c + j]?) h
  simp only [List.getElem?_map] at h2
  unfold entries at h2
  rw [List.getElem?_map, List.getElem?_range hlt] at h2
  unfold ent
  rw [List.getD_eq_getElem?_getD]
  cases hz : zs[i * c + j]? with
  | none => rw [hz] at h2; cases h2
  | some z =>
    rw [hz] at h2
    have h3 : cnC z = entry c E (i * c + j) := Option.some.inj h2
    show cnC z = _
    rw [h3, entry_at E hj]
theorem own_reads {W : World} {B n : Nat} {e : TypeId} {v : Value} {xs : List Value} (h : W.ownsRow B e 1 v n xs) : ∃ A cap, v = .slice A n cap ∧ Reads W W.heap.size A xs ∧ n ≤ cap ∧ (A = none → cap = 0) := by
  obtain ⟨A, m, c, rfl, rfl⟩ := slice_of_own h
  obtain ⟨-, h1, h2⟩ := own_slice h
  exact ⟨A, c, rfl, Reads.of_own h, h1, h2⟩
theorem len_made {zs : List C} {c r : Nat} {E : Nat → Nat → C} (h : zs.map cnC = entries c E (r * c)) : zs.length = r * c := by
  have := congrArg List.length h; simpa [entries] using this
theorem map_range_congr {n : Nat} {f g : Nat → C} (h : ∀ i, i < n → f i = g i) : (List.range n).map f = (List.range n).map g :=
  List.map_congr_left fun i hi => h i (List.mem_range.1 hi)
theorem entries_congr {c n : Nat} {E F : Nat → Nat → C} (h : ∀ k, k < n → entry c E k = entry c F k) : entries c E n = entries c F n :=
  List.map_congr_left fun i hi => h i (List.mem_range.1 hi)
theorem cnC_cnC (z : C) : cnC (cnC z) = cnC z := Prod.ext (cn_cn .f64 z.1) (cn_cn .f64 z.2)
theorem cnC_ent (l : List C) (c i j : Nat) : cnC (ent l c i j) = ent l c i j := cnC_cnC _
/-- A list is its own entries. -/
theorem ents_self {l : List C} {r c : Nat} (hl : l.length = r * c) : l.map cnC = entries c (fun i j => ent l c i j) (r * c) := by
  apply List.ext_getElem?
  intro k
  unfold entries
  rw [List.getElem?_map, List.getElem?_map]
  by_cases hk : k < r * c
  · have hc : 0 < c := by
      rcases Nat.eq_zero_or_pos c with h | h
      · subst h; simp at hk
      · exact h
    rw [List.getElem?_range hk]
    unfold entry ent
    have e : k / c * c + k % c = k := by rw [Nat.mul_comm]; exact Nat.div_add_mod k c
    rw [List.getElem?_eq_getElem (by omega)]
    show some _ = some _
    simp only [e]
    rw [List.getD_eq_getElem?_getD, List.getElem?_eq_getElem (by omega)]; rfl
  · rw [List.getElem?_eq_none (by omega), List.getElem?_eq_none (by simp; omega)]; rfl
end Go.Proofs.Ytandllekeimpgaa
namespace Go.Proofs.Ytandllekeimpgaa
open Go.RowKit Fl Ieee
set_option maxRecDepth 20000
attribute [local go_sem] run_store_float run_store_complex
/-- What the list becomes, its first k. -/
def applied (l lx : List C) (cols k : Nat) : List C := (List.range k).map fun i => dot l lx cols 1 i 0 cols
theorem applied_succ (l lx : List C) (cols k : Nat) : applied l lx cols (k + 1) = applied l lx cols k ++ [dot l lx cols 1 k 0 cols] := by
  unfold applied; rw [List.range_succ, List.map_append]; rfl
end Go.Proofs.Ytandllekeimpgaa
namespace Go.Proofs.Ytandllekeimpgaa
open Go.RowKit Fl Ieee
set_option maxRecDepth 20000
attribute [local go_sem] run_store_float run_store_complex
theorem great_cn (l : List Nat) (k : Nat) : great (l.map (cn .f64)) k = great l k := by
  induction k with
  | zero => rfl
  | succ k ih =>
    rw [great, great, ih, List.getElem?_map]
    cases hx : l[k]? with
    | none => rfl
    | some x =>
      show (if (!isNaN double (cn .f64 x) && (decide ((great l k).1 < 0) || flt .f64 (great l k).2 (cn .f64 x))) then ((k : Int), cn .f64 x) else great l k) = _
      by_cases hn : isNaN double x = true
      · have h1 : isNaN double (cn .f64 x) = true := (isNaN_cn .f64 x).trans hn
        rw [h1]
        show great l k = (if (!isNaN double x && (decide ((great l k).1 < 0) || flt .f64 (great l k).2 x)) then ((k : Int), x) else great l k)
        rw [hn]; rfl
      · have h0 := Bool.eq_false_iff.2 hn
        rw [cn_of_not (k := .f64) h0]
/-- The sum of the sizes of a column's first i numbers. -/
def colSum (l : List C) (cols j : Nat) : Nat → Nat
  | 0 => 0
  | i + 1 => fadd (colSum l cols j i) (pSize1 (ent l cols i j))
def colSums (l : List C) (rows cols k : Nat) : List Nat := (List.range k).map fun j => colSum l cols j rows
theorem colSums_succ (l : List C) (rows cols k : Nat) : colSums l rows cols (k + 1) = colSums l rows cols k ++ [colSum l cols k rows] := by
  unfold colSums; rw [List.range_succ, List.map_append]; rfl
def norm1 (l : List C) (rows cols : Nat) : Nat := (great (colSums l rows cols cols) cols).2
theorem infoReal7 : (Try.prog.info? 47).map (fun i => (i.zero, i.size, i.bytes)) = some (some (.float .f64 0), 1, 8) := by kernel_rfl
/-- A real and what is told of it. -/
def RetFE (v : Nat) (er : Int) (w : World) (e : Ending) (w' : World) : Prop := e = .returned (.tuple #[.float .f64 v, .int .i64 er]) ∧ Below w.heap.size w w'
theorem retFE {v x : Nat} {a er : Int} (h : x = v) (h' : a = er) : Ending.returned (.tuple #[.float .f64 x, .int .i64 a]) = .returned (.tuple #[.float .f64 v, .int .i64 er]) := by rw [h, h']
end Go.Proofs.Ytandllekeimpgaa
namespace Go.Proofs.Ytandllekeimpgaa
open Go.RowKit Fl Ieee
set_option maxRecDepth 20000
attribute [local go_sem] run_store_float run_store_complex
theorem frame2b {w W1 : World} {r c r' c' : Int} {s s' : Value} {t t' : TypeId}
    (hb : Below ((w.alloc (.cells #[.int .i64 r, .int .i64 c, s] t)).alloc (.cells #[.int .i64 r', .int .i64 c', s'] t')).heap.size
      ((w.alloc (.cells #[.int .i64 r, .int .i64 c, s] t)).alloc (.cells #[.int .i64 r', .int .i64 c', s'] t')) W1) :
    Box W1 w.heap.size r c s ∧ Box W1 (w.heap.size + 1) r' c' s' ∧ Below w.heap.size w W1 ∧ w.heap.size + 2 ≤ W1.heap.size := by
  obtain ⟨w1, hw1⟩ : ∃ w1, w1 = w.alloc (.cells #[.int .i64 r, .int .i64 c, s] t) := ⟨_, rfl⟩
  have e1 : w1.heap.size = w.heap.size + 1 := by rw [hw1]; simp
  rw [← hw1] at hb
  obtain ⟨h1, h2, h3⟩ := frame0 hb
  rw [e1] at h1 h3
  rw [hw1] at h2
  obtain ⟨h4, h5, h6⟩ := frame0 h2
  exact ⟨h4, h1, h5, h3⟩
/-- Told true or false; only new blocks and draws. -/
def RetBB (b : Bool) (w : World) (e : Ending) (w' : World) : Prop := e = .returned (.bool b) ∧ Below w.heap.size w w'
end Go.Proofs.Ytandllekeimpgaa
namespace Go.Proofs.Ytandllekeimpgaa
open Go.RowKit Fl Ieee
set_option maxRecDepth 20000
/-- A matrix lies in a box, its numbers behind it. -/
def Has (W : World) (b : Nat) (r c : Int) (A : Option Addr) (l : List C) (cap : Nat) : Prop :=
  Box W b r c (.slice A l.length cap) ∧ b < W.heap.size ∧ Reads W W.heap.size A (nums l) ∧ (A = none → cap = 0) ∧ l.length ≤ cap
theorem Has.below {W W' : World} {b : Nat} {r c : Int} {A : Option Addr} {l : List C} {cap : Nat} (h : Has W b r c A l cap) (hb : Below W.heap.size W W') : Has W' b r c A l cap :=
  ⟨h.1.below hb h.2.1, Nat.lt_of_lt_of_le h.2.1 hb.size, (h.2.2.1.below hb).more hb.size, h.2.2.2⟩
theorem Has.alloc {W : World} {b : Nat} {r c : Int} {A : Option Addr} {l : List C} {cap : Nat} (h : Has W b r c A l cap) (o : Obj) : Has (W.alloc o) b r c A l cap := h.below (below_new W o)
theorem Has.new {W W' : World} {r c : Int} {A : Option Addr} {zs : List C} {n cap lo : Nat} {t : TypeId} (hown : W.ownsRow lo 45 1 (.slice A n cap) zs.length (nums zs))
    (hb : Below (W.alloc (.cells #[.int .i64 r, .int .i64 c, .slice A n cap] t)).heap.size (W.alloc (.cells #[.int .i64 r, .int .i64 c, .slice A n cap] t)) W') :
    n = zs.length ∧ Has W' W.heap.size r c A zs cap ∧ Below W.heap.size W W' := by
  obtain ⟨e, hcap, hA⟩ := own_slice hown
  subst e
  obtain ⟨h1, h2, h3⟩ := frame0 hb
  exact ⟨rfl, ⟨h1, h3, ((Reads.of_own hown).below h2).more h2.size, hA, hcap⟩, h2⟩
/-- A row of its own, in a block between two bounds. -/
def OwnIn (W : World) (lo hi : Nat) (v : Value) (n : Nat) (xs : List Value) : Prop := W.ownsRow lo 45 1 v n xs ∧ ∀ g, v.ownBlock = some g → g < hi
section
variable {W W' : World} {lo hi n : Nat} {v : Value} {xs : List Value}
theorem OwnIn.of (h : W.ownsRow lo 45 1 v n xs) : OwnIn W lo W.heap.size v n xs := ⟨h, fun g hg => (h.lt g hg).2⟩
theorem OwnIn.below (h : OwnIn W lo hi v n xs) (hb : Below W.heap.size W W') : OwnIn W' lo hi v n xs := ⟨own_below h.1 hb, h.2⟩
theorem OwnIn.alloc (h : OwnIn W lo hi v n xs) (o : Obj) : OwnIn (W.alloc o) lo hi v n xs := h.below (below_new W o)
theorem OwnIn.drew (h : OwnIn W lo hi v n xs) : OwnIn W.drew lo hi v n xs := h
theorem OwnIn.set (h : OwnIn W lo hi v n xs) {p : Addr} (hp : p.block < lo ∨ hi ≤ p.block) (u : Value) : OwnIn (W.setCell p u) lo hi v n xs := by
  refine ⟨⟨h.1.1, ?_⟩, h.2⟩
  rcases h.1.2 with h1 | ⟨g, cap, cur, hv, hbg, hg, hr⟩
  · exact .inl h1
  · have hlt := h.2 g (by rw [hv]; rfl)
    refine .inr ⟨g, cap, cur, hv, hbg, ?_, hr⟩
    rw [Below.heap_setCell _ _ _ _ (by omega)]; exact hg
theorem OwnIn.reads {A : Option Addr} {m cap : Nat} (h : OwnIn W lo hi (.slice A m cap) n xs) : Reads W W.heap.size A xs ∧ m = n ∧ n ≤ cap ∧ (A = none → cap = 0) := by
  obtain ⟨e, h1, h2⟩ := own_slice h.1
  subst e
  exact ⟨Reads.of_own h.1, rfl, h1, h2⟩
end
/-- The row of a variable that was just made. -/
abbrev zrow : Obj := .cells #[.int .i64 0, .int .i64 0, .slice none 0 0] 28
theorem row_keep {Z V : World} {b : Nat} {o : Obj} (h : Below Z.heap.size Z V) (hr : Z.heap[b]? = some o) : V.heap[b]? = some o := by
  have hlt : b < Z.heap.size := by
    rcases Nat.lt_or_ge b Z.heap.size with h1 | h1
    · exact h1
    · rw [Array.getElem?_eq_none h1] at hr; cases hr
  rw [h.block b hlt]; exact hr
theorem row_alloc {Z : World} {b : Nat} {o o' : Obj} (hr : Z.heap[b]? = some o) : (Z.alloc o').heap[b]? = some o := row_keep (below_new Z o') hr
theorem row_new2 (Z : World) (o o' : Obj) : ((Z.alloc o).alloc o').heap[Z.heap.size + 1]? = some o' := by
  have e : Z.heap.size + 1 = (Z.alloc o).heap.size := by simp
  rw [e]; exact heap_alloc_new _ _
theorem row_lt {Z : World} {b : Nat} {o : Obj} (hr : Z.heap[b]? = some o) : b < Z.heap.size := by
  rcases Nat.lt_or_ge b Z.heap.size with h1 | h1
  · exact h1
  · rw [Array.getElem?_eq_none h1] at hr; cases hr
/-- Three cells of a row are written. -/
abbrev put3 (X : World) (b : Nat) (u v s : Value) : World := ((X.setCell ⟨b, 0, none⟩ u).setCell ⟨b, 1, none⟩ v).setCell ⟨b, 2, none⟩ s
theorem put3_row {X : World} {b : Nat} {x y z u v s : Value} {t : TypeId} (h : X.heap[b]? = some (.cells #[x, y, z] t)) :
    (put3 X b u v s).heap[b]? = some (.cells #[u, v, s] t) ∧ (∀ j, j ≠ b → (put3 X b u v s).heap[j]? = X.heap[j]?) ∧ (put3 X b u v s).heap.size = X.heap.size := by
  refine ⟨?_, fun j hj => ?_, by simp [World.setCell]⟩
  · have h1 := heap_setCell_same X b 0 _ t u h
    have h2 := heap_setCell_same _ b 1 _ t v h1
    have h3 := heap_setCell_same _ b 2 _ t s h2
    rw [h3]; rfl
  · rw [heap_setCell_other _ _ j _ hj, heap_setCell_other _ _ j _ hj, heap_setCell_other _ _ j _ hj]
/-- Two matrices in two boxes: the relation behind 'x, y := ..'. -/
def TwoR (R0 C0 R1 C1 : Int) (l0 l1 : List C) (w : World) (s10 s11 : Value) (wx : World) : Prop :=
  ∃ b0 b1 A B c d, s10 = .pointer (some ⟨b0, 0, none⟩) ∧ s11 = .pointer (some ⟨b1, 0, none⟩) ∧ Has wx b0 R0 C0 A l0 c ∧ Has wx b1 R1 C1 B l1 d ∧ Below w.heap.size w wx
section
variable {R0 C0 R1 C1 : Int} {l0 l1 : List C} {w X Wf : World} {b0 b1 lo0 hi0 lo1 hi1 sn sc tn tc : Nat} {sA tA : Option Addr} {t : TypeId}
theorem two_fin (hO0 : OwnIn X lo0 hi0 (.slice sA sn sc) l0.length (nums l0)) (hO1 : OwnIn X lo1 hi1 (.slice tA tn tc) l1.length (nums l1))
    (hold : ∀ j, j < X.heap.size → j ≠ b0 → j ≠ b1 → Wf.heap[j]? = X.heap[j]?)
    (r0 : Wf.heap[b0]? = some (.cells #[.int .i64 R0, .int .i64 C0, .slice sA sn sc] t)) (r1 : Wf.heap[b1]? = some (.cells #[.int .i64 R1, .int .i64 C1, .slice tA tn tc] t))
    (k0 : hi0 ≤ X.heap.size) (k1 : hi1 ≤ X.heap.size) (a0 : b0 < lo0 ∨ hi0 ≤ b0) (a1 : b1 < lo0 ∨ hi0 ≤ b1) (d0 : b0 < lo1 ∨ hi1 ≤ b0) (d1 : b1 < lo1 ∨ hi1 ≤ b1) (hB : Below w.heap.size w Wf) :
    TwoR R0 C0 R1 C1 l0 l1 w (.pointer (some ⟨b0, 0, none⟩)) (.pointer (some ⟨b1, 0, none⟩)) Wf := by
  have move : ∀ {lo hi n : Nat} {v : Value} {xs : List Value}, OwnIn X lo hi v n xs → hi ≤ X.heap.size → (b0 < lo ∨ hi ≤ b0) → (b1 < lo ∨ hi ≤ b1) → OwnIn Wf lo hi v n xs := by
    intro lo hi n v xs h hk e0 e1
    refine ⟨⟨h.1.1, ?_⟩, h.2⟩
    rcases h.1.2 with h1 | ⟨g, cap, cur, hv, hbg, hg, hr⟩
    · exact .inl h1
    · have hlt := h.2 g (by rw [hv]; rfl)
      refine .inr ⟨g, cap, cur, hv, hbg, ?_, hr⟩
      rw [hold g (by omega) (by omega) (by omega)]; exact hg
  obtain ⟨p1, p2, p3, p4⟩ := (move hO0 k0 a0 a1).reads
  obtain ⟨q1, q2, q3, q4⟩ := (move hO1 k1 d0 d1).reads
  subst p2 q2
  obtain ⟨x0, x1, x2, -⟩ := box3 r0
  obtain ⟨y0, y1, y2, -⟩ := box3 r1
  exact ⟨b0, b1, sA, tA, sc, tc, rfl, rfl, ⟨⟨x0, x1, x2⟩, row_lt r0, p1, p4, p3⟩, ⟨⟨y0, y1, y2⟩, row_lt r1, q1, q4, q3⟩, hB⟩
theorem two_set (hO0 : OwnIn X lo0 hi0 (.slice sA sn sc) l0.length (nums l0)) (hO1 : OwnIn X lo1 hi1 (.slice tA tn tc) l1.length (nums l1))
    (r0 : X.heap[b0]? = some zrow) (r1 : X.heap[b1]? = some zrow) (ne : b0 ≠ b1)
    (k0 : hi0 ≤ X.heap.size) (k1 : hi1 ≤ X.heap.size) (a0 : b0 < lo0 ∨ hi0 ≤ b0) (a1 : b1 < lo0 ∨ hi0 ≤ b1) (d0 : b0 < lo1 ∨ hi1 ≤ b0) (d1 : b1 < lo1 ∨ hi1 ≤ b1)
    (hB : Below w.heap.size w (put3 (put3 X b0 (.int .i64 R0) (.int .i64 C0) (.slice sA sn sc)) b1 (.int .i64 R1) (.int .i64 C1) (.slice tA tn tc))) :
    TwoR R0 C0 R1 C1 l0 l1 w (.pointer (some ⟨b0, 0, none⟩)) (.pointer (some ⟨b1, 0, none⟩)) (put3 (put3 X b0 (.int .i64 R0) (.int .i64 C0) (.slice sA sn sc)) b1 (.int .i64 R1) (.int .i64 C1) (.slice tA tn tc)) := by
  obtain ⟨f1, f2, f3⟩ := put3_row (u := .int .i64 R0) (v := .int .i64 C0) (s := .slice sA sn sc) r0
  have r1' := (f2 b1 (Ne.symm ne)).trans r1
  obtain ⟨g1, g2, g3⟩ := put3_row (u := .int .i64 R1) (v := .int .i64 C1) (s := .slice tA tn tc) r1'
  exact two_fin hO0 hO1 (fun j _ h0 h1 => (g2 j h1).trans (f2 j h0)) ((g2 b0 ne).trans f1) g1 k0 k1 a0 a1 d0 d1 hB
theorem two_new_set (hO0 : OwnIn X lo0 hi0 (.slice sA sn sc) l0.length (nums l0)) (hO1 : OwnIn X lo1 hi1 (.slice tA tn tc) l1.length (nums l1))
    (e0 : b0 = X.heap.size) (r1 : X.heap[b1]? = some zrow)
    (k0 : hi0 ≤ X.heap.size) (k1 : hi1 ≤ X.heap.size) (a1 : b1 < lo0 ∨ hi0 ≤ b1) (d1 : b1 < lo1 ∨ hi1 ≤ b1)
    (hB : Below w.heap.size w (put3 (X.alloc (.cells #[.int .i64 R0, .int .i64 C0, .slice sA sn sc] 28)) b1 (.int .i64 R1) (.int .i64 C1) (.slice tA tn tc))) :
    TwoR R0 C0 R1 C1 l0 l1 w (.pointer (some ⟨b0, 0, none⟩)) (.pointer (some ⟨b1, 0, none⟩)) (put3 (X.alloc (.cells #[.int .i64 R0, .int .i64 C0, .slice sA sn sc] 28)) b1 (.int .i64 R1) (.int .i64 C1) (.slice tA tn tc)) := by
  subst e0
  have hlt := row_lt r1
  obtain ⟨g1, g2, g3⟩ := put3_row (u := .int .i64 R1) (v := .int .i64 C1) (s := .slice tA tn tc) (row_alloc (o' := .cells #[.int .i64 R0, .int .i64 C0, .slice sA sn sc] 28) r1)
  have hb := below_new X (.cells #[.int .i64 R0, .int .i64 C0, .slice sA sn sc] 28)
  exact two_fin hO0 hO1 (fun j hj h0 h1 => (g2 j h1).trans (hb.block j hj)) ((g2 _ (by omega)).trans (heap_alloc_new X _)) g1 k0 k1 (Or.inr k0) a1 (Or.inr k1) d1 hB
theorem two_new (hO0 : OwnIn X lo0 hi0 (.slice sA sn sc) l0.length (nums l0)) (hO1 : OwnIn X lo1 hi1 (.slice tA tn tc) l1.length (nums l1))
    (e0 : b0 = X.heap.size) (e1 : b1 = X.heap.size + 1) (k0 : hi0 ≤ X.heap.size) (k1 : hi1 ≤ X.heap.size)
    (hB : Below w.heap.size w ((X.alloc (.cells #[.int .i64 R0, .int .i64 C0, .slice sA sn sc] t)).alloc (.cells #[.int .i64 R1, .int .i64 C1, .slice tA tn tc] t))) :
    TwoR R0 C0 R1 C1 l0 l1 w (.pointer (some ⟨b0, 0, none⟩)) (.pointer (some ⟨b1, 0, none⟩)) ((X.alloc (.cells #[.int .i64 R0, .int .i64 C0, .slice sA sn sc] t)).alloc (.cells #[.int .i64 R1, .int .i64 C1, .slice tA tn tc] t)) := by
  subst e0 e1
  have hb := (below_new X (.cells #[.int .i64 R0, .int .i64 C0, .slice sA sn sc] t)).new (Nat.le_refl _) (.cells #[.int .i64 R1, .int .i64 C1, .slice tA tn tc] t)
  exact two_fin hO0 hO1 (fun j hj _ _ => hb.block j hj) (row_alloc (heap_alloc_new X _)) (row_new2 _ _ _) k0 k1 (Or.inr k0) (Or.inr (by omega)) (Or.inr k1) (Or.inr (by omega)) hB
theorem two_new' (hO0 : OwnIn X lo0 hi0 (.slice sA sn sc) l0.length (nums l0)) (hO1 : OwnIn X lo1 hi1 (.slice tA tn tc) l1.length (nums l1))
    (e0 : b1 = X.heap.size) (e1 : b0 = X.heap.size + 1) (k0 : hi0 ≤ X.heap.size) (k1 : hi1 ≤ X.heap.size)
    (hB : Below w.heap.size w ((X.alloc (.cells #[.int .i64 R1, .int .i64 C1, .slice tA tn tc] t)).alloc (.cells #[.int .i64 R0, .int .i64 C0, .slice sA sn sc] t))) :
    TwoR R0 C0 R1 C1 l0 l1 w (.pointer (some ⟨b0, 0, none⟩)) (.pointer (some ⟨b1, 0, none⟩)) ((X.alloc (.cells #[.int .i64 R1, .int .i64 C1, .slice tA tn tc] t)).alloc (.cells #[.int .i64 R0, .int .i64 C0, .slice sA sn sc] t)) := by
  subst e0 e1
  have hb := (below_new X (.cells #[.int .i64 R1, .int .i64 C1, .slice tA tn tc] t)).new (Nat.le_refl _) (.cells #[.int .i64 R0, .int .i64 C0, .slice sA sn sc] t)
  exact two_fin hO0 hO1 (fun j hj _ _ => hb.block j hj) (row_new2 _ _ _) (row_alloc (heap_alloc_new X _)) k0 k1 (Or.inr (by omega)) (Or.inr k0) (Or.inr (by omega)) (Or.inr k1) hB
end
end Go.Proofs.Ytandllekeimpgaa
namespace Go.Proofs.Ytandllekeimpgaa
open Go.RowKit Fl Ieee
set_option maxRecDepth 20000
attribute [local go_sem] run_store_float run_store_complex Fl.order_self Fl.order_self' Fl.order_eq Fl.order_ne Fl.order_lt Fl.order_gt
end Go.Proofs.Ytandllekeimpgaa
namespace Go.Proofs.Ytandllekeimpgaa
open Go.RowKit Fl Ieee
set_option maxRecDepth 20000
attribute [local go_sem] run_store_float run_store_complex
end Go.Proofs.Ytandllekeimpgaa
namespace Go.Proofs.Ytandllekeimpgaa
open Go.RowKit Fl Ieee
set_option maxRecDepth 20000
theorem bb_of_b {P : Program} {f : FuncId} {args : Array Value} {W : World} {b : Bool} (h : Calls P f args W (RetB b W)) : Calls P f args W (RetBB b W) :=
  h.mono fun _ _ ⟨n, he, hw⟩ => ⟨he, by rw [hw]; exact below_drewN (Below.refl _ W) n⟩
theorem frame3b {w W1 : World} {r c r' c' r'' c'' : Int} {s s' s'' : Value} {t t' t'' : TypeId}
    (hb : Below (((w.alloc (.cells #[.int .i64 r, .int .i64 c, s] t)).alloc (.cells #[.int .i64 r', .int .i64 c', s'] t')).alloc (.cells #[.int .i64 r'', .int .i64 c'', s''] t'')).heap.size
      (((w.alloc (.cells #[.int .i64 r, .int .i64 c, s] t)).alloc (.cells #[.int .i64 r', .int .i64 c', s'] t')).alloc (.cells #[.int .i64 r'', .int .i64 c'', s''] t'')) W1) :
    Box W1 w.heap.size r c s ∧ Box W1 (w.heap.size + 1) r' c' s' ∧ Box W1 (w.heap.size + 2) r'' c'' s'' ∧ Below w.heap.size w W1 ∧ w.heap.size + 3 ≤ W1.heap.size := by
  obtain ⟨w1, hw1⟩ : ∃ w1, w1 = w.alloc (.cells #[.int .i64 r, .int .i64 c, s] t) := ⟨_, rfl⟩
  have e1 : w1.heap.size = w.heap.size + 1 := by rw [hw1]; simp
  rw [← hw1] at hb
  obtain ⟨h1, h2, h3, h4⟩ := frame2b hb
  rw [e1] at h1 h2 h4
  rw [hw1] at h3
  obtain ⟨h5, h6, h7⟩ := frame0 h3
  exact ⟨h5, h1, h2, h6, h4⟩
theorem both_bad_of {ra ca rb cb : Int} {na nb : Nat} (h : (okM ra ca na && okM rb cb nb && (ra == rb) && (ca == cb)) = false) : okM ra ca na = false ∨ (okM ra ca na = true ∧ (okM rb cb nb = false ∨ (ra == rb) = false ∨ ((ra == rb) = true ∧ (ca == cb) = false))) := by
  cases h1 : okM ra ca na
  · exact .inl rfl
  · cases h2 : okM rb cb nb
    · exact .inr ⟨rfl, .inl rfl⟩
    · cases h3 : (ra == rb)
      · exact .inr ⟨rfl, .inr (.inl rfl)⟩
      · rw [h1, h2, h3] at h
        exact .inr ⟨rfl, .inr (.inr ⟨rfl, by simpa using h⟩)⟩
theorem okN {r c : Nat} {l : List C} (hr : r ≤ 64) (hc : c ≤ 64) (hl : l.length = r * c) : okM r c l.length = true := okM_iff.2 ⟨by omega, by omega, by omega, by omega, by rw [hl, Int.natCast_mul]⟩
end Go.Proofs.Ytandllekeimpgaa
namespace Go.Proofs.Ytandllekeimpgaa
open Go.RowKit Fl Ieee
set_option maxRecDepth 20000
theorem mk_nums (n : Nat) : madeCells #[Value.complex .f64 0 0] n = (nums (List.replicate n (0, 0))).toArray := by
  apply Array.ext
  · simp [size_madeCells]
  · intro i h1 h2
    simp [madeCells, Nat.mod_one, nums]
theorem add0 (g k : Nat) : (Addr.add ⟨g, 0, none⟩ k) = ⟨g, k, none⟩ := by
  unfold Addr.add; split <;> simp_all
section
variable {P : Program} (w : World)
/-- Append on a row of one's own: where the slice moves, all that was there stays as it was. -/
theorem run_append_stays (base : Nat) (t ty e : TypeId) (i : TypeInfo) (z : Value) (bytes : Nat) (ht : P.underlying t = some (.slice e)) (hi : P.info? e = some i) (hz : i.zero = some z)
    (hsize : i.size = 1) (hby : i.bytes = bytes) (hzs : z.cells.size = 1)
    (v : Value) (n : Nat) (xs : List Value) (hown : w.ownsRow base e 1 v n xs)
    (a : Addr) (m c : Nat) (news : List Value) (hl : news.length = m * 1) (hnews : ∀ j u, news[j]? = some u → w.cell? (a.add j) = some u) (h1 : ∀ u ∈ news, u.oneCell' = true)
    (h63 : n + m ≤ maxLen) (hbytes : (n + m) * bytes ≤ 140737488355328) (hbase : base ≤ w.heap.size) :
    ∃ v' w', (Builtin.append_ #[t, t] ty #[v, .slice (some a) m c]).run P w = .ok v' w' ∧ w'.ownsRow base e 1 v' (n + m) (xs ++ news) ∧ w.grownBy w' v.ownBlock ∧
      (v'.ownBlock = v.ownBlock ∨ (v'.ownBlock = some w.heap.size ∧ w.grownBy w' none)) := by
  obtain ⟨v', w', hr, h2, h3, h4, h5⟩ := run_append_own_at (P := P) w base t ty e i z 1 bytes ht hi hz hsize hby hzs (by omega) v n xs hown a m c news hl hnews h1 h63 hbytes hbase
  refine ⟨v', w', hr, h2, h3, ?_⟩
  rcases h5 with h5 | h5
  · exact .inl h5
  refine .inr ⟨h5, ?_⟩
  rcases hown.2 with ⟨rfl, rfl⟩ | ⟨g, cap, cur, rfl, hbg, hg, hnc, hcm, hcs, htake⟩
  · exact h3
  have hlt : g < w.heap.size := by
    rcases Nat.lt_or_ge g w.heap.size with h | h
    · exact h
    · rw [Array.getElem?_eq_none h] at hg; cases hg
  by_cases hroom : n + m ≤ cap
  · have hfit : n * i.size + news.length ≤ cur.size := by rw [hl, hcs, hsize, ← Nat.add_mul]; exact Nat.mul_le_mul_right _ hroom
    have hr2 := run_append_room (P := P) w t ty e i ht hi g n cap cur hg a m c news (by rw [hsize]; exact hl) hnews h1 hroom hfit
    rw [hr] at hr2
    injection hr2 with e1 e2
    subst e1
    simp [Value.ownBlock] at h5
    omega
  · have holds : ∀ j u, xs[j]? = some u → w.cell? ((⟨g, 0, none⟩ : Addr).add j) = some u := hown.cells (g := g) rfl
    have hr2 := run_append_grow (P := P) w t ty e i z ht hi hz ⟨g, 0, none⟩ n cap xs (by rw [hsize]; exact hown.1) holds a m c news (by rw [hsize]; exact hl) hnews (by omega) (by simp only [maxLen] at h63; omega) (by rw [hby]; exact growslice_fits (by omega) hbytes)
    rw [hr] at hr2
    injection hr2 with e1 e2
    subst e2
    exact ⟨rfl, rfl, rfl, by simp, fun k hk _ => heap_alloc_old w.drew _ hk⟩
theorem wpList_append_stays {ops : Array Oper} {rest : List Oper} {o : Oper} {a : Act} {Q : Exit → Act → World → Prop} (hgd : o.guard = none) (s x : Operand) (t : TypeId)
    (ho : o.op = .call { callee := .builtin .append, args := #[s, x], argTypes := #[t, t] })
    (base : Nat) (e : TypeId) (i : TypeInfo) (z : Value) (bytes : Nat) (ht : P.underlying t = some (.slice e)) (hi : P.info? e = some i) (hz : i.zero = some z)
    (hsize : i.size = 1) (hby : i.bytes = bytes) (hzs : z.cells.size = 1)
    (v : Value) (n : Nat) (xs : List Value) (hs : a.eval s = v) (hown : w.ownsRow base e 1 v n xs)
    (ad : Addr) (m c : Nat) (news : List Value) (hx : a.eval x = .slice (some ad) m c) (hl : news.length = m * 1) (hnews : ∀ j u, news[j]? = some u → w.cell? (ad.add j) = some u) (h1 : ∀ u ∈ news, u.oneCell' = true)
    (h63 : n + m ≤ maxLen) (hbytes : (n + m) * bytes ≤ 140737488355328) (hbase : base ≤ w.heap.size)
    (h : ∀ v' w', w'.ownsRow base e 1 v' (n + m) (xs ++ news) → w.grownBy w' v.ownBlock → (v'.ownBlock = v.ownBlock ∨ (v'.ownBlock = some w.heap.size ∧ w.grownBy w' none)) → wpList P ops Q rest (a.put o.dst v') w') :
    wpList P ops Q (o :: rest) a w := by
  refine wpList_plain hgd fun K hK => ?_
  obtain ⟨v', w', hr, h2, h3, h4⟩ := run_append_stays (P := P) w base t o.type e i z bytes ht hi hz hsize hby hzs v n xs hown ad m c news hl hnews h1 h63 hbytes hbase
  unfold Oper.wp execOp
  simp only [ho, resolve, invoke, builtin, Sem.run_bind, Sem.run_pure, Result.andThen_ok, List.map_toArray, List.map_cons, List.map_nil, hs, hx, hr]
  exact hK _ _ (h v' w' h2 h3 h4)
end
end Go.Proofs.Ytandllekeimpgaa
namespace Go.Proofs.Ytandllekeimpgaa
open Go.RowKit Fl Ieee
set_option maxRecDepth 20000
attribute [local go_sem] run_store_float run_store_complex Fl.order_self Fl.order_self' Fl.order_eq Fl.order_ne Fl.order_lt Fl.order_gt
/-- The values of a list of whole numbers. -/
abbrev intsV (l : List Int) : List Value := l.map (Value.int .i64)
theorem below_drew {B : Nat} {a w : World} (h : Below B a w) : Below B a w.drew := h.drew
/-- A matrix whose numbers lie in memory of their own. -/
def RetMs (r c : Int) (l : List C) (w : World) (e : Ending) (w' : World) : Prop := ∃ s, e = .returned (mval r c s) ∧ w'.ownsRow w.heap.size 45 1 s l.length (nums l) ∧ Below w.heap.size w w'
end Go.Proofs.Ytandllekeimpgaa
namespace Go.Proofs.Ytandllekeimpgaa
open Go.RowKit Fl Ieee
set_option maxRecDepth 20000
attribute [local go_sem] run_store_float run_store_complex
/-- The numbers of a square matrix, noughts where there are too few. -/
def sqL (l : List C) (k : Nat) : List C := (List.range k).map fun i => l.getD i (0, 0)
theorem sqL_succ (l : List C) (k : Nat) : sqL l (k + 1) = sqL l k ++ [l.getD k (0, 0)] := by
  unfold sqL; rw [List.range_succ, List.map_append]; rfl
theorem sqL_len (l : List C) (k : Nat) : (sqL l k).length = k := by simp [sqL]
theorem sqL_lt {l : List C} (h : ltCs l) (k : Nat) : ltCs (sqL l k) := fun z hz => by
  unfold sqL at hz
  obtain ⟨i, _, rfl⟩ := List.mem_map.1 hz
  rw [List.getD_eq_getElem?_getD]
  cases hi : l[i]? with
  | none => exact ⟨by decide, by decide⟩
  | some x => exact h x (List.mem_of_getElem? hi)
/-- How many rows. -/
def sqN (n : Int) : Nat := (n % 65).toNat
theorem sqN_le (n : Int) : sqN n ≤ 64 := by unfold sqN; omega
theorem sqN_cast (n : Int) : n % 65 = (sqN n : Nat) := by unfold sqN; omega
def SqR (N : Nat) (l : List C) (w : World) (k : Nat) (wr : World) : Prop :=
  ∃ s, wr.ownsRow (w.heap.size + 2) 45 1 s k (nums (sqL l k)) ∧ wr.heap[w.heap.size + 1]? = some (.cells #[.int .i64 (N : Nat), .int .i64 (N : Nat), s] 28) ∧
    wr.heap[w.heap.size]? = some zrow ∧ w.heap.size + 2 ≤ wr.heap.size ∧ Below w.heap.size w wr
theorem SqR.below {N k : Nat} {l : List C} {w wr V : World} (h : SqR N l w k wr) (hb : Below wr.heap.size wr V) : SqR N l w k V := by
  obtain ⟨s, h1, h2, h3, h4, h5⟩ := h
  exact ⟨s, own_below h1 hb, row_keep hb h2, row_keep hb h3, Nat.le_trans h4 hb.size, h5.trans (hb.mono (by omega))⟩
theorem sq_next {N k g cap' : Nat} {l : List C} {w wr w1 : World} {o : Obj} {s : Value} {z : C} (hz : z = l.getD k (0, 0))
    (hown : wr.ownsRow (w.heap.size + 2) 45 1 s k (nums (sqL l k))) (hbx : wr.heap[w.heap.size + 1]? = some (.cells #[.int .i64 (N : Nat), .int .i64 (N : Nat), s] 28))
    (hrc : wr.heap[w.heap.size]? = some zrow) (hsz : w.heap.size + 2 ≤ wr.heap.size) (hbel : Below w.heap.size w wr)
    (hgrow : (wr.alloc o).grownBy w1 s.ownBlock)
    (hown1 : w1.ownsRow (w.heap.size + 2) 45 1 (.slice (some ⟨g, 0, none⟩) (k + 1) cap') (k + 1) (nums (sqL l k) ++ [.complex .f64 z.1 z.2])) :
    w1.cell? ⟨w.heap.size + 1, 2, none⟩ = some s ∧ w1.frozen? ⟨w.heap.size + 1, 2, none⟩ = false ∧ SqR N l w (k + 1) (w1.setCell ⟨w.heap.size + 1, 2, none⟩ (.slice (some ⟨g, 0, none⟩) (k + 1) cap')) := by
  have hs : (wr.alloc o).heap.size = wr.heap.size + 1 := by simp
  have FB : ∀ p, p < w.heap.size + 2 → w1.heap[p]? = wr.heap[p]? := fun p hp => by
    have h1 : (wr.alloc o).heap[p]? = wr.heap[p]? := Below.heap_alloc wr o p (by omega)
    have h3 := hgrow.block p (by omega) (fun e => by have := (hown.lt p e.symm).1; omega)
    exact h3.trans h1
  have hbx1 := (FB _ (by omega)).trans hbx
  obtain ⟨-, -, c2, fr⟩ := box3 hbx1
  refine ⟨c2, fr 2, .slice (some ⟨g, 0, none⟩) (k + 1) cap', ?_, ?_, ?_, ?_, ?_⟩
  · have e : nums (sqL l (k + 1)) = nums (sqL l k) ++ [.complex .f64 z.1 z.2] := by rw [sqL_succ, hz]; simp [nums]
    rw [e]
    exact ownsRow_setCell_below hown1 (by show w.heap.size + 1 < _; omega) _
  · rw [heap_setCell_same _ _ 2 _ _ _ hbx1]; rfl
  · rw [Below.heap_setCell _ _ _ _ (by show w.heap.size ≠ w.heap.size + 1; omega), FB _ (by omega)]; exact hrc
  · have : (w1.setCell ⟨w.heap.size + 1, 2, none⟩ (.slice (some ⟨g, 0, none⟩) (k + 1) cap')).heap.size = w1.heap.size := by simp [World.setCell]
    have := hgrow.size
    omega
  · exact ((hbel.new (Nat.le_refl _) o).grown hgrow (by omega) (fun j hj => by have := (hown.lt j hj).1; omega)).setCell (Nat.le_succ _) _
set_option maxHeartbeats 4000000 in
theorem Square_c (n : Int) (A : Option Addr) (l : List C) (cap : Nat) (w : World) (hr : Reads w w.heap.size A (zcells l)) :
    Calls Try.prog 45 #[.int .i64 n, .slice A l.length cap] w (RetMs (sqN n) (sqN n) (sqL l (sqN n * sqN n)) w) := by
  obtain ⟨i0, hi, hz0, hz1, hz2⟩ := info_parts infoNum
  obtain ⟨N, hN⟩ : ∃ N, N = sqN n := ⟨_, rfl⟩
  have hN64 : N ≤ 64 := by rw [hN]; exact sqN_le n
  have hP := Lib.hid (Pick_c n 65 (by omega) (by omega))
  rw [sqN_cast n, ← hN] at hP
  rw [← hN]
  obtain ⟨M, hM⟩ : ∃ M, M = N * N := ⟨_, rfl⟩
  have hM4 : M ≤ 4096 := by rw [hM]; exact prod_small hN64 hN64
  have hm : wrap64 ((N : Int) * (N : Int)) = (M : Int) := by rw [hM, ← Int.natCast_mul, ← hM]; unfold wrap64; omega
  have HR := Lib.hid hr
  have HM := Lib.hid hM
  have hw0 : SqR N l w 0 ((w.alloc zrow).alloc (.cells #[.int .i64 (N : Nat), .int .i64 (N : Nat), .slice none 0 0] 28)) :=
    ⟨.slice none 0 0, World.ownsRow_nil _ _ _ _, row_new2 _ _ _, row_alloc (heap_alloc_new _ _), by simp, (below_new _ _).new (Nat.le_refl _) _⟩
  have HW0 := Lib.hid hw0
  clear hr hN hM hw0
  go_enter Try.func45, Try.ntmps45
  go_wp2_with fail
  refine (hP.out _).mono ?_
  rintro e w' ⟨rfl, rfl⟩
  go_wp2
  go_loopw [6] (fun i wr => ∃ k : Nat, k ≤ M ∧ i = .int .i64 (k : Nat) ∧ SqR N l w k wr) (fun i _ => M - (intOf i).toNat)
  case atStart => exact ⟨0, Nat.zero_le _, rfl, HW0.out⟩
  case round =>
    obtain ⟨k, hk, rfl, hs⟩ := hrel
    have HS := Lib.hid hs
    have hkb : (k : Int) + 1 ≤ 4097 := by omega
    have H63 := Lib.hid (show k + 1 ≤ maxLen by unfold maxLen; omega)
    have HBy := Lib.hid (show (k + 1) * 16 ≤ 140737488355328 by omega)
    clear hs
    by_cases hlt : k < M
    · have hlti : (k : Int) < (M : Int) := Int.ofNat_lt.2 hlt
      by_cases hlt2 : k < l.length
      · have hlti2 : (k : Int) < (l.length : Int) := Int.ofNat_lt.2 hlt2
        obtain ⟨z, hz⟩ : ∃ z, l[k]? = some z := ⟨l[k], List.getElem?_eq_getElem hlt2⟩
        obtain ⟨h1, h2⟩ := zcells_at hz
        have hbelw : Below w.heap.size w wr := HS.out.choose_spec.2.2.2.2
        obtain ⟨ad, rfl, hab, hc1⟩ := (HR.out.below hbelw).at_ h1
        obtain ⟨ad2, e2, _, hc2⟩ := (HR.out.below hbelw).at_ h2
        have e3 : ad = ad2 := by simpa using e2
        subst e3
        have HZ := Lib.hid (show z = l.getD k (0, 0) by rw [List.getD_eq_getElem?_getD, hz]; rfl)
        have hd1 : wr.cell? (ad.add (k * 2)) = some (.int .u64 (z.1 : Nat)) := by rw [Nat.mul_comm]; exact hc1
        have hd2 : wr.cell? { block := (ad.add (k * 2)).block, off := (ad.add (k * 2)).off + 1 } = some (.int .u64 (z.2 : Nat)) := by
          have e4 : ad.add (2 * k + 1) = (ad.add (k * 2)).add 1 := by rw [add_of_add, Nat.mul_comm]
          rw [e4] at hc2; exact hc2
        clear hz h1 h2 e2 hc1 hc2 hbelw
        go_wp2_with fail
        refine (Number_c _ _ _).mono ?_
        rintro e V ⟨d, rfl, hV⟩
        have HV : Hid (Below wr.heap.size wr V) := by
          show Below _ _ _
          rw [hV]; exact below_drewN (below_new _ _) d
        obtain ⟨s, hown, hbx, hrc, hsz, hbel⟩ := HS.out.below HV.out
        obtain ⟨-, -, c2, -⟩ := box3 hbx
        have HO := Lib.hid hown
        have HBx := Lib.hid hbx
        have HRc := Lib.hid hrc
        have HSz := Lib.hid hsz
        have HBel := Lib.hid hbel
        clear hown hbx hrc hsz hbel hV hd1 hd2
        go_wp2_with (at_builtin; refine wpList_append_own _ rfl (.tmp 30) (.tmp 32) 26 rfl (w.heap.size + 2) 45 i0 (.complex .f64 0 0) 1 16 Try.underlying26 hi hz0 hz1 hz2 rfl (by decide) _ _ _ rfl (HO.out.alloc _) ⟨V.heap.size, 0, none⟩ 1 1 [.complex .f64 z.1 z.2] rfl rfl (cell_one_new _ _ _) (by intro u hu; simp at hu; subst hu; rfl) H63.out HBy.out (Nat.le_trans HSz.out (below_new V _).size) ?_; intro v' w1 hown1 hgrow1 hnil1; obtain ⟨g, cap', e1, -, -⟩ := hown1.form (Nat.succ_pos k); subst e1; obtain ⟨d2, f2, hn⟩ := sq_next HZ.out HO.out HBx.out HRc.out HSz.out HBel.out hgrow1 hown1; have HN := Lib.hid hn; clear hn hown1 hgrow1 hnil1 c2)
        go_wp2
        go_roundw
        case rel => exact ⟨k + 1, hlt, by go_num, HN.out⟩
        case measure => simp [intOf]; omega
      · have hlti2 : ¬ (k : Int) < (l.length : Int) := by omega
        obtain ⟨s, hown, hbx, hrc, hsz, hbel⟩ := HS.out
        obtain ⟨-, -, c2, -⟩ := box3 hbx
        have HO := Lib.hid hown
        have HBx := Lib.hid hbx
        have HRc := Lib.hid hrc
        have HSz := Lib.hid hsz
        have HBel := Lib.hid hbel
        have HZ := Lib.hid (show ((0, 0) : C) = l.getD k (0, 0) by rw [List.getD_eq_getElem?_getD, List.getElem?_eq_none (by omega)]; rfl)
        clear hown hbx hrc hsz hbel
        go_wp2_with (at_builtin; refine wpList_append_own _ rfl (.tmp 30) (.tmp 32) 26 rfl (w.heap.size + 2) 45 i0 (.complex .f64 0 0) 1 16 Try.underlying26 hi hz0 hz1 hz2 rfl (by decide) _ _ _ rfl (HO.out.alloc _) ⟨_, 0, none⟩ 1 1 [.complex .f64 0 0] rfl rfl (cell_one_new _ _ _) (by intro u hu; simp at hu; subst hu; rfl) H63.out HBy.out (Nat.le_trans HSz.out (below_new _ _).size) ?_; intro v' w1 hown1 hgrow1 hnil1; obtain ⟨g, cap', e1, -, -⟩ := hown1.form (Nat.succ_pos k); subst e1; obtain ⟨d2, f2, hn⟩ := sq_next (z := (0, 0)) HZ.out HO.out HBx.out HRc.out HSz.out HBel.out hgrow1 hown1; have HN := Lib.hid hn; clear hn hown1 hgrow1 hnil1 c2)
        go_wp2
        go_roundw
        case rel => exact ⟨k + 1, hlt, by go_num, HN.out⟩
        case measure => simp [intOf]; omega
    · have e : k = M := by omega
      subst e
      obtain ⟨s, hown, hbx, hrc, hsz, hbel⟩ := HS.out
      obtain ⟨x0, x1, x2, -⟩ := box3 hbx
      obtain ⟨r0, r1, r2, fr⟩ := box3 hrc
      have f0 := fr 0
      have f1 := fr 1
      have f2 := fr 2
      obtain ⟨sA, sn, sc, rfl, -⟩ := slice_of_own hown
      have HO := Lib.hid hown
      have HB := Lib.hid hbel
      clear hown hbx hrc hsz hbel fr
      go_wp2
      obtain ⟨q0, q1, q2⟩ := set3 (u := .int .i64 (N : Nat)) (v := .int .i64 (N : Nat)) (t := .slice sA sn sc) r0 r1 r2
      refine bodyPost_ret (v := mval N N (.slice sA sn sc)) (by simp [results, Try.results45, go_sem, q0, q1, q2]) rfl ?_
      refine ⟨_, rfl, ?_, ((HB.out.setCell (Nat.le_refl _) _).setCell (Nat.le_refl _) _).setCell (Nat.le_refl _) _⟩
      rw [← HM.out, sqL_len]
      exact own_base (ownsRow_setCell_below (ownsRow_setCell_below (ownsRow_setCell_below HO.out (by show w.heap.size < _; omega) _) (by show w.heap.size < _; omega) _) (by show w.heap.size < _; omega) _) (by omega)
end Go.Proofs.Ytandllekeimpgaa
namespace Go.Proofs.Ytandllekeimpgaa
open Go.RowKit Fl Ieee
set_option maxRecDepth 20000
attribute [local go_sem] run_store_float run_store_complex
end Go.Proofs.Ytandllekeimpgaa
namespace Go.Proofs.Ytandllekeimpgaa
open Go.RowKit Fl Ieee
set_option maxRecDepth 20000
attribute [local go_sem] run_store_float run_store_complex
end Go.Proofs.Ytandllekeimpgaa
