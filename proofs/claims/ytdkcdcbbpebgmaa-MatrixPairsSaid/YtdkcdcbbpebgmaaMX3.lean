/- Layer 7: transpose, conjugate, identity. -/
import Derived.Test.YtdkcdcbbpebgmaaMX2
namespace Go.Proofs.Ytdkcdcbbpebgmaa
open Go.RowKit Fl Ieee
set_option maxRecDepth 20000
attribute [local go_sem] run_store_float run_store_complex
/-- What stands at a place, up to NaN. -/
def ent (l : List C) (cols i j : Nat) : C := cnC (l.getD (i * cols + j) (0, 0))
/-- A matrix in a block of its own. -/
def Box (W : World) (b : Nat) (r c : Int) (s : Value) : Prop := W.cell? ⟨b, 0, none⟩ = some (.int .i64 r) ∧ W.cell? ⟨b, 1, none⟩ = some (.int .i64 c) ∧ W.cell? ⟨b, 2, none⟩ = some s
theorem Box.below {W W' : World} {b B : Nat} {r c : Int} {s : Value} (h : Box W b r c s) (hb : Below B W W') (hlt : b < B) : Box W' b r c s :=
  ⟨(hb.cell (p := ⟨b, 0, none⟩) hlt).trans h.1, (hb.cell (p := ⟨b, 1, none⟩) hlt).trans h.2.1, (hb.cell (p := ⟨b, 2, none⟩) hlt).trans h.2.2⟩
theorem Box.new (w : World) (r c : Int) (s : Value) (t : TypeId) : Box (w.alloc (.cells #[.int .i64 r, .int .i64 c, s] t)) w.heap.size r c s := by
  refine ⟨?_, ?_, ?_⟩ <;> (rw [World.cell?_alloc_new]; rfl)
theorem at_ok {l : List C} {rows cols i j : Nat} (hl : l.length = rows * cols) (hi : i < rows) (hj : j < cols) : l[i * cols + j]? = some (l.getD (i * cols + j) (0, 0)) := by
  have h : i * cols + j < l.length := by
    rw [hl]
    have h1 : (i + 1) * cols ≤ rows * cols := Nat.mul_le_mul_right _ hi
    rw [Nat.add_mul, Nat.one_mul] at h1; omega
  rw [List.getElem?_eq_getElem h, List.getD_eq_getElem?_getD, List.getElem?_eq_getElem h]; rfl
theorem ltCs_at {l : List C} {rows cols i j : Nat} (h : ltCs l) (hl : l.length = rows * cols) (hi : i < rows) (hj : j < cols) : ltC (l.getD (i * cols + j) (0, 0)) :=
  h _ (List.mem_of_getElem? (at_ok hl hi hj))
theorem prod_small {rows cols : Nat} (hr : rows ≤ 64) (hc : cols ≤ 64) : rows * cols ≤ 4096 := Nat.mul_le_mul hr hc
/-- An entry is read. -/
theorem at_e (rows cols : Nat) (A : Option Addr) (l : List C) (cap i j : Nat) (W : World) (hl : l.length = rows * cols) (hr : rows ≤ 64) (hc : cols ≤ 64) (hi : i < rows) (hj : j < cols) (hrd : Reads W W.heap.size A (nums l)) :
    Calls Try.prog 64 #[mval rows cols (.slice A l.length cap), .int .i64 (i : Nat), .int .i64 (j : Nat)] W (RetV (.complex .f64 (l.getD (i * cols + j) (0, 0)).1 (l.getD (i * cols + j) (0, 0)).2) W) :=
  at_c rows cols A l cap i j (i * cols + j) _ (by simp) (by omega) (by omega) (by omega) (at_ok hl hi hj) W.heap.size W (Nat.le_refl _) (by have := prod_small hr hc; omega) hrd
theorem enters_of {P : Program} {f : FuncId} {fn : Func} {c : Code} (hf : P.funcs[f]? = some fn) (hn : (fn.name == "runtime.NumGoroutine") = false) (hb : fn.body = some c) (args : Array Value) (W : World) :
    (callFunc f args).run P W = .ok (.enter f args) W := by
  have h1 : fn.name ≠ "runtime.NumGoroutine" := by simpa using hn
  simp [callFunc, hf, h1, hb]
theorem TrE_c (b rows cols : Nat) (A : Option Addr) (l : List C) (cap i j : Nat) (W : World) (hbox : Box W b rows cols (.slice A l.length cap)) (hl : l.length = rows * cols) (hr : rows ≤ 64) (hc : cols ≤ 64)
    (hi : i < cols) (hj : j < rows) (hrd : Reads W W.heap.size A (nums l)) (hlt : ltCs l) :
    Calls Try.prog 81 #[.int .i64 (i : Nat), .int .i64 (j : Nat), .pointer (some ⟨b, 0, none⟩)] W (RetZ (ent l cols j i) W) := by
  obtain ⟨c0, c1, c2⟩ := hbox
  have HA := Lib.hid (at_e rows cols A l cap j i W hl hr hc hj hi hrd)
  have HL := Lib.hid (ltCs_at hlt hl hj hi)
  clear hl hr hc hi hj hrd hlt
  go_enter Try.func81, Try.ntmps81
  go_wp2_with fail
  refine HA.out.mono ?_
  rintro e W1 ⟨rfl, hb⟩
  have HB := Lib.hid hb
  clear hb
  go_wp2
  go_ret
  exact ⟨_, rfl, rfl, HL.out, HB.out⟩
theorem tr_enters (args : Array Value) (W : World) : (callFunc 81 args).run Try.prog W = .ok (.enter 81 args) W :=
  enters_of Try.func81 (by kernel_rfl) rfl args W
/-- A matrix and what is told of it. -/
def RetMxE (rows cols : Int) (l : List C) (er : Int) (w : World) (e : Ending) (w' : World) : Prop :=
  ∃ s zs, e = .returned (.tuple #[mval rows cols s, .int .i64 er]) ∧ zs.map cnC = l ∧ ltCs zs ∧ w'.ownsRow w.heap.size 63 1 s l.length (nums zs) ∧ Below w.heap.size w w'
theorem box3 {w : World} {b : Nat} {x y z : Value} {t : TypeId} (hx : w.heap[b]? = some (.cells #[x, y, z] t)) :
    w.cell? ⟨b, 0, none⟩ = some x ∧ w.cell? ⟨b, 1, none⟩ = some y ∧ w.cell? ⟨b, 2, none⟩ = some z ∧ (∀ j, w.frozen? ⟨b, j, none⟩ = false) := by
  refine ⟨?_, ?_, ?_, fun j => frozen_of_row w b j _ _ hx⟩
  · rw [cell_of_row w b 0 _ _ _ hx]; rfl
  · rw [cell_of_row w b 1 _ _ _ hx]; rfl
  · rw [cell_of_row w b 2 _ _ _ hx]; rfl
theorem slice_of_own {w : World} {B e n : Nat} {v : Value} {xs : List Value} (h : w.ownsRow B e 1 v n xs) : ∃ A m c, v = .slice A m c ∧ m = n := by
  rcases h.2 with ⟨h, h'⟩ | ⟨g, cap, cur, h, _⟩
  · exact ⟨_, _, _, h, h'.symm⟩
  · exact ⟨_, _, _, h, rfl⟩
theorem close_mx {w W1 : World} {b : Nat} {rows cols er : Int} {s x y z : Value} {zs l : List C} (hz : zs.map cnC = l) (hl : ltCs zs) (hown : W1.ownsRow (b + 1) 63 1 s l.length (nums zs)) (hB : Below w.heap.size w W1) (hb : w.heap.size ≤ b) :
    RetMxE rows cols l er w (.returned (.tuple #[mval rows cols s, .int .i64 er])) (((W1.setCell ⟨b, 0, none⟩ x).setCell ⟨b, 1, none⟩ y).setCell ⟨b, 2, none⟩ z) :=
  ⟨s, zs, rfl, hz, hl, own_base (ownsRow_setCell_below (ownsRow_setCell_below (ownsRow_setCell_below hown (by show b < b + 1; omega) _) (by show b < b + 1; omega) _) (by show b < b + 1; omega) _) (by omega),
    ((hB.setCell hb _).setCell hb _).setCell hb _⟩
theorem Transpose_no (r c : Int) (A : Option Addr) (n cap : Nat) (w : World) (h : okM r c n = false) :
    Calls Try.prog 32 #[mval r c (.slice A n cap)] w (RetMxE 0 0 [] 4 w) := by
  have HC := Lib.hid (Check_c r c A n cap)
  rw [h] at HC
  go_enter Try.func32, Try.ntmps32
  go_wp2_with fail
  refine (HC.out _).mono ?_
  rintro e W1 ⟨rfl, hb⟩
  have hbl : Below w.heap.size w W1 := (((Below.refl _ w).new (Nat.le_refl _) _).new (Nat.le_refl _) _).trans (hb.mono (by simp; omega))
  have hrow : W1.heap[w.heap.size + 1]? = some (.cells #[.int .i64 0, .int .i64 0, .slice none 0 0] 28) := by
    rw [hb.block _ (by simp)]
    have e : w.heap.size + 1 = (w.alloc (.cells #[.int .i64 r, .int .i64 c, .slice A n cap] 28)).heap.size := by simp
    rw [e]; exact heap_alloc_new _ _
  obtain ⟨r0, r1, r2, fr⟩ := box3 hrow
  have f0 := fr 0
  have f1 := fr 1
  have f2 := fr 2
  have HB := Lib.hid hbl
  clear hb hbl hrow fr h
  go_wp2
  obtain ⟨q0, q1, q2⟩ := set3 (u := .int .i64 0) (v := .int .i64 0) (t := .slice none 0 0) r0 r1 r2
  refine bodyPost_ret (v := .tuple #[mval 0 0 (.slice none 0 0), .int .i64 4]) (by simp [results, Try.results32, go_sem, q0, q1, q2]) rfl ?_
  exact close_mx (zs := []) rfl (by simp [ltCs]) (World.ownsRow_nil _ _ _ _) HB.out (by omega)
/-- What stands behind the frame of a function of one matrix: its box, the result's cell, in any world that has grown since. -/
theorem frame1 {w W1 : World} {r c : Int} {s x y z : Value} {t t' : TypeId} (hb : Below ((w.alloc (.cells #[.int .i64 r, .int .i64 c, s] t)).alloc (.cells #[x, y, z] t')).heap.size ((w.alloc (.cells #[.int .i64 r, .int .i64 c, s] t)).alloc (.cells #[x, y, z] t')) W1) :
    Box W1 w.heap.size r c s ∧ W1.heap[w.heap.size + 1]? = some (.cells #[x, y, z] t') ∧ Below w.heap.size w W1 ∧ w.heap.size + 2 ≤ W1.heap.size := by
  obtain ⟨w1, hw1⟩ : ∃ w1, w1 = w.alloc (.cells #[.int .i64 r, .int .i64 c, s] t) := ⟨_, rfl⟩
  have e1 : w1.heap.size = w.heap.size + 1 := by rw [hw1]; simp
  have hbx : Box w1 w.heap.size r c s := by rw [hw1]; exact Box.new _ _ _ _ _
  have hb1 : Below w.heap.size w w1 := by rw [hw1]; exact below_new _ _
  rw [← hw1] at hb
  have e2 : (w1.alloc (.cells #[x, y, z] t')).heap.size = w.heap.size + 2 := by simp [e1]
  have hb2 : Below w1.heap.size w1 (w1.alloc (.cells #[x, y, z] t')) := below_new _ _
  have hn := heap_alloc_new w1 (.cells #[x, y, z] t')
  generalize w1.alloc (.cells #[x, y, z] t') = w2 at *
  refine ⟨(hbx.below hb2 (by omega)).below hb (by omega), ?_, (hb1.trans (hb2.mono (by omega))).trans (hb.mono (by omega)), by have := hb.size; omega⟩
  rw [hb.block _ (by omega), ← e1]; exact hn
set_option maxHeartbeats 1000000 in
theorem Transpose_c (rows cols : Nat) (A : Option Addr) (l : List C) (cap : Nat) (w : World) (hr : rows ≤ 64) (hc : cols ≤ 64) (hl : l.length = rows * cols) (hrd : Reads w w.heap.size A (nums l)) (hlt : ltCs l) :
    Calls Try.prog 32 #[mval rows cols (.slice A l.length cap)] w (RetMxE cols rows (entries rows (fun i j => ent l cols j i) (cols * rows)) 0 w) := by
  have HC := Lib.hid (Check_c rows cols A l.length cap)
  have ho : okM rows cols l.length = true := okM_iff.2 ⟨by omega, by omega, by omega, by omega, by rw [hl, Int.natCast_mul]⟩
  rw [ho] at HC
  have HRd := Lib.hid hrd
  have HLt := Lib.hid hlt
  have HLen := Lib.hid hl
  clear hrd hlt hl ho
  go_enter Try.func32, Try.ntmps32
  go_wp2_with fail
  refine (HC.out _).mono ?_
  rintro e W1 ⟨rfl, hb⟩
  obtain ⟨⟨b0, b1, b2⟩, hrow, hbl, hs1⟩ := frame1 hb
  have HRow := Lib.hid hrow
  have HB := Lib.hid hbl
  have HS := Lib.hid hs1
  have HBX := Lib.hid (And.intro b0 (And.intro b1 b2))
  clear hb hrow hbl hs1
  have hmf : ∀ (fn : Fn) (first cap : Array Value) (W : World), (Instr.makeFunc fn first cap).run Try.prog W = .ok (.func fn first cap) W := fun _ _ _ _ => rfl
  go_wp2_with fail
  refine (made_c cols rows hc hr 81 #[.pointer (some ⟨w.heap.size, 0, none⟩)] (fun i j => ent l cols j i) W1 tr_enters ?_).mono ?_
  · intro i j W hi hj hW
    have hlt0 : w.heap.size < W1.heap.size := by have := HS.out; omega
    have hbx : Box W w.heap.size rows cols (.slice A l.length cap) := Box.below (W := W1) HBX.out hW hlt0
    have hW0 : Below w.heap.size w W := HB.out.trans (hW.mono (by omega))
    exact TrE_c w.heap.size rows cols A l cap i j W hbx HLen.out hr hc hi hj ((HRd.out.below hW0).more hW0.size) HLt.out
  rintro e W2 ⟨s, zs, rfl, hz, hlz, hown, hb2⟩
  have hlt1 : w.heap.size + 1 < W1.heap.size := by have := HS.out; omega
  obtain ⟨r0, r1, r2, fr⟩ := box3 ((hb2.block _ hlt1).trans HRow.out)
  have f0 := fr 0
  have f1 := fr 1
  have f2 := fr 2
  obtain ⟨sA, sn, sc, rfl, -⟩ := slice_of_own hown
  have HZ := Lib.hid hz
  have HL := Lib.hid hlz
  have HO := Lib.hid (own_base hown (show w.heap.size + 1 + 1 ≤ W1.heap.size from HS.out))
  have HB2 := Lib.hid (HB.out.trans (hb2.mono (by omega)))
  clear hz hlz hown hb2 hlt1 fr
  go_wp2
  obtain ⟨q0, q1, q2⟩ := set3 (u := .int .i64 (cols : Nat)) (v := .int .i64 (rows : Nat)) (t := .slice sA sn sc) r0 r1 r2
  refine bodyPost_ret (v := .tuple #[mval cols rows (.slice sA sn sc), .int .i64 0]) (by simp [results, Try.results32, go_sem, q0, q1, q2]) rfl ?_
  exact close_mx HZ.out HL.out HO.out HB2.out (by omega)
end Go.Proofs.Ytdkcdcbbpebgmaa
