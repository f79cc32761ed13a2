/- Layer 7: a matrix's shape, its entries. -/
import Derived.Test.YtajdfbjjgjpicaaMem
import Derived.Test.YtajdfbjjgjpicaaRParts
import Derived.Test.YtajdfbjjgjpicaaFr
import Derived.Test.YtajdfbjjgjpicaaFlMc
import Derived.Deep.RegionLaw
import Derived.Deep.AppendLies
namespace Go.Proofs.Ytajdfbjjgjpicaa
open Go.RowKit Fl Ieee
set_option maxRecDepth 20000
attribute [local go_sem] Fl.order_self Fl.order_self' Fl.order_eq Fl.order_ne Fl.order_lt Fl.order_gt Fl.fle_fold Fl.fge_fold run_store_float run_store_complex
/-- A matrix as a value. -/
abbrev mval (r c : Int) (s : Value) : Value := .agg #[.int .i64 r, .int .i64 c, s]
/-- May it be? (n numbers) -/
def okM (r c : Int) (n : Nat) : Bool := decide (0 ≤ r) && decide (r ≤ 64) && decide (0 ≤ c) && decide (c ≤ 64) && decide ((n : Int) = r * c)
theorem okM_iff {r c : Int} {n : Nat} : okM r c n = true ↔ (0 ≤ r ∧ r ≤ 64 ∧ 0 ≤ c ∧ c ≤ 64 ∧ (n : Int) = r * c) := by
  unfold okM; simp [and_assoc]
/-- A call that only lays new blocks and draws. -/
def RetV (v : Value) (w : World) (e : Ending) (w' : World) : Prop := e = .returned v ∧ Below w.heap.size w w'
theorem below_new (w : World) (o : Obj) : Below w.heap.size w (w.alloc o) := (Below.refl _ w).alloc (Nat.le_refl _) o
theorem Check_c (r c : Int) (A : Option Addr) (n cap : Nat) (w : World) :
    Calls Try.prog 30 #[mval r c (.slice A n cap)] w (RetV (.int .i64 (if okM r c n then 0 else 4)) w) := by
  by_cases h1 : r < 0
  · have e : okM r c n = false := by
      rw [Bool.eq_false_iff]; intro h; have := okM_iff.1 h; omega
    rw [e]
    clear e
    go_enter Try.func30, Try.ntmps30
    go_wp2
    go_ret; exact ⟨rfl, below_new _ _⟩
  · by_cases h2 : 64 < r
    · have e : okM r c n = false := by
        rw [Bool.eq_false_iff]; intro h; have := okM_iff.1 h; omega
      rw [e]
      clear e
      go_enter Try.func30, Try.ntmps30
      go_wp2
      go_ret; exact ⟨rfl, below_new _ _⟩
    · by_cases h3 : c < 0
      · have e : okM r c n = false := by
          rw [Bool.eq_false_iff]; intro h; have := okM_iff.1 h; omega
        rw [e]
        clear e
        go_enter Try.func30, Try.ntmps30
        go_wp2
        go_ret; exact ⟨rfl, below_new _ _⟩
      · by_cases h4 : 64 < c
        · have e : okM r c n = false := by
            rw [Bool.eq_false_iff]; intro h; have := okM_iff.1 h; omega
          rw [e]
          clear e
          go_enter Try.func30, Try.ntmps30
          go_wp2
          go_ret; exact ⟨rfl, below_new _ _⟩
        · obtain ⟨a, rfl⟩ : ∃ a : Nat, r = (a : Int) := ⟨r.toNat, by omega⟩
          obtain ⟨b, rfl⟩ : ∃ b : Nat, c = (b : Int) := ⟨c.toNat, by omega⟩
          have ha : a ≤ 64 := by omega
          have hb : b ≤ 64 := by omega
          have hab : a * b ≤ 64 * 64 := Nat.mul_le_mul ha hb
          have hm : wrap64 ((a : Int) * (b : Int)) = ((a * b : Nat) : Int) := by
            rw [← Int.natCast_mul]; unfold wrap64; omega
          have e1 : n = a * b → okM a b n = true := fun h5 => okM_iff.2 ⟨by omega, by omega, by omega, by omega, by rw [h5, Int.natCast_mul]⟩
          have e2 : n ≠ a * b → okM a b n = false := fun h5 => by
            rw [Bool.eq_false_iff]; intro h
            have h6 := (okM_iff.1 h).2.2.2.2
            rw [← Int.natCast_mul] at h6; omega
          have h1' : ((a : Int) < 0) = False := by simp
          have h2' : (64 < (a : Int)) = False := by simp; omega
          have h3' : ((b : Int) < 0) = False := by simp
          have h4' : (64 < (b : Int)) = False := by simp; omega
          clear h1 h2 h3 h4 hab
          by_cases h5 : n = a * b
          · rw [e1 h5]
            clear e1 e2
            subst h5
            go_enter Try.func30, Try.ntmps30
            go_wp2
            go_ret; exact ⟨rfl, below_new _ _⟩
          · rw [e2 h5]
            have h6 : ((n : Int) == ((a * b : Nat) : Int)) = false := by simp; omega
            clear e1 e2 h5
            go_enter Try.func30, Try.ntmps30
            go_wp2
            go_ret; exact ⟨rfl, below_new _ _⟩
/-- A complex number's cells. -/
abbrev nums (l : List C) : List Value := l.map fun z => .complex .f64 z.1 z.2
theorem at_c (r c : Int) (A : Option Addr) (l : List C) (cap : Nat) (i j k : Nat) (z : C) (hk : k = i * c.toNat + j) (hc0 : 0 ≤ c) (hc1 : c ≤ 64) (hi : i ≤ 64) (hz : l[k]? = some z) (B : Nat) (w : World) (hB : B ≤ w.heap.size) (hl : l.length ≤ 5000) (hr : Reads w B A (nums l)) :
    Calls Try.prog 63 #[mval r c (.slice A l.length cap), .int .i64 (i : Nat), .int .i64 (j : Nat)] w (RetV (.complex .f64 z.1 z.2) w) := by
  obtain ⟨b, rfl⟩ : ∃ b : Nat, c = (b : Int) := ⟨c.toNat, by omega⟩
  rw [Int.toNat_natCast] at hk
  have hv : (nums l)[k]? = some (.complex .f64 z.1 z.2) := by simp [nums, hz]
  obtain ⟨ad, rfl, hb, hcell⟩ := hr.at_ hv
  have hlt : k < l.length := by
    rcases Nat.lt_or_ge k l.length with h | h
    · exact h
    · rw [List.getElem?_eq_none h] at hz; cases hz
  have hib : i * b ≤ 64 * 64 := Nat.mul_le_mul hi (by omega)
  have hm : wrap64 ((i : Int) * (b : Int)) = (i : Int) * (b : Int) := by
    rw [← Int.natCast_mul]; unfold wrap64; omega
  have hcell2 : ∀ o, (w.alloc o).cell? (ad.add k) = some (.complex .f64 z.1 z.2) := fun o => by
    rw [World.cell?_alloc_lt w o (ad.add k) (by rw [block_of_add]; omega)]; exact hcell
  have hsum : wrap64 ((i : Int) * (b : Int) + (j : Int)) = (k : Int) := by rw [hk, ← Int.natCast_mul]; unfold wrap64; omega
  have HK := Lib.hid hk
  clear hk hz hv hr hcell hi hc0 hc1 hib
  go_enter Try.func63, Try.ntmps63
  go_wp2
  go_ret; exact ⟨rfl, below_new _ _⟩
end Go.Proofs.Ytajdfbjjgjpicaa
namespace Go.Proofs.Ytajdfbjjgjpicaa
open Go.RowKit Fl Ieee
set_option maxRecDepth 20000
attribute [local go_sem] run_store_float run_store_complex
/-- A number up to NaN. -/
abbrev cnC (z : C) : C := (cn .f64 z.1, cn .f64 z.2)
def ltCs (l : List C) : Prop := ∀ z ∈ l, ltC z
/-- A number is handed back; beside it only new blocks and draws. -/
def RetZ (v : C) (w : World) (e : Ending) (w' : World) : Prop := ∃ z : C, e = .returned (.complex .f64 z.1 z.2) ∧ cnC z = v ∧ ltC z ∧ Below w.heap.size w w'
/-- The entries, row by row; the first k of them. -/
def entry (cols : Nat) (E : Nat → Nat → C) (k : Nat) : C := E (k / cols) (k % cols)
def entries (cols : Nat) (E : Nat → Nat → C) (n : Nat) : List C := (List.range n).map (entry cols E)
theorem entries_succ (cols : Nat) (E : Nat → Nat → C) (n : Nat) : entries cols E (n + 1) = entries cols E n ++ [entry cols E n] := by
  unfold entries; rw [List.range_succ, List.map_append]; rfl
theorem entry_at {cols i j : Nat} (E : Nat → Nat → C) (hj : j < cols) : entry cols E (i * cols + j) = E i j := by
  unfold entry
  have h1 : (i * cols + j) / cols = i := by
    rw [Nat.mul_comm, Nat.mul_add_div (by omega), Nat.div_eq_of_lt hj, Nat.add_zero]
  have h2 : (i * cols + j) % cols = j := by
    rw [Nat.mul_comm, Nat.mul_add_mod, Nat.mod_eq_of_lt hj]
  rw [h1, h2]
theorem own_below {w w' : World} {B e size n : Nat} {v : Value} {xs : List Value} (h : w.ownsRow B e size v n xs) (hb : Below w.heap.size w w') : w'.ownsRow B e size v n xs := by
  refine ⟨h.1, ?_⟩
  rcases h.2 with h1 | ⟨g, cap, cur, hv, hbg, hg, hr⟩
  · exact .inl h1
  · refine .inr ⟨g, cap, cur, hv, hbg, ?_, hr⟩
    have hlt : g < w.heap.size := by
      rcases Nat.lt_or_ge g w.heap.size with h2 | h2
      · exact h2
      · rw [Array.getElem?_eq_none h2] at hg; cases hg
    rw [hb.block g hlt]; exact hg
theorem set3 {w : World} {b : Nat} {x y z u v t : Value} (h0 : w.cell? ⟨b, 0, none⟩ = some x) (h1 : w.cell? ⟨b, 1, none⟩ = some y) (h2 : w.cell? ⟨b, 2, none⟩ = some z) :
    (((w.setCell ⟨b, 0, none⟩ u).setCell ⟨b, 1, none⟩ v).setCell ⟨b, 2, none⟩ t).cell? ⟨b, 0, none⟩ = some u ∧
    (((w.setCell ⟨b, 0, none⟩ u).setCell ⟨b, 1, none⟩ v).setCell ⟨b, 2, none⟩ t).cell? ⟨b, 1, none⟩ = some v ∧
    (((w.setCell ⟨b, 0, none⟩ u).setCell ⟨b, 1, none⟩ v).setCell ⟨b, 2, none⟩ t).cell? ⟨b, 2, none⟩ = some t := by
  have a1 : (w.setCell ⟨b, 0, none⟩ u).cell? ⟨b, 1, none⟩ = some y := (World.cell?_setCell_other _ _ _ _ (by simp)).trans h1
  have a2 : ((w.setCell ⟨b, 0, none⟩ u).setCell ⟨b, 1, none⟩ v).cell? ⟨b, 2, none⟩ = some z := (World.cell?_setCell_other _ _ _ _ (by simp)).trans ((World.cell?_setCell_other _ _ _ _ (by simp)).trans h2)
  exact ⟨(World.cell?_setCell_other _ _ _ _ (by simp)).trans ((World.cell?_setCell_other _ _ _ _ (by simp)).trans (World.cell?_setCell_same _ _ _ h0)),
    (World.cell?_setCell_other _ _ _ _ (by simp)).trans (World.cell?_setCell_same _ _ _ a1), World.cell?_setCell_same _ _ _ a2⟩
theorem own_base {w : World} {B B' e size n : Nat} {v : Value} {xs : List Value} (h : w.ownsRow B e size v n xs) (hB : B' ≤ B) : w.ownsRow B' e size v n xs := by
  refine ⟨h.1, ?_⟩
  rcases h.2 with h1 | ⟨g, cap, cur, hv, hbg, hr⟩
  · exact .inl h1
  · exact .inr ⟨g, cap, cur, hv, Nat.le_trans hB hbg, hr⟩
theorem infoNum : (Try.prog.info? 53).map (fun i => (i.zero, i.size, i.bytes)) = some (some (.complex .f64 0 0), 1, 16) := by kernel_rfl
/-- What is handed back: a matrix in memory of its own. -/
def RetMx (rows cols : Nat) (l : List C) (w : World) (e : Ending) (w' : World) : Prop :=
  ∃ s zs, e = .returned (mval rows cols s) ∧ zs.map cnC = l ∧ ltCs zs ∧ w'.ownsRow w.heap.size 53 1 s l.length (nums zs) ∧ Below w.heap.size w w'
/-- At the head of the loops: k entries have been laid. -/
def MadeR (rows cols : Nat) (E : Nat → Nat → C) (w : World) (k : Nat) (wr : World) : Prop :=
  ∃ s zs, zs.map cnC = entries cols E k ∧ ltCs zs ∧ wr.ownsRow (w.heap.size + 2) 53 1 s k (nums zs) ∧
    wr.cell? ⟨w.heap.size + 1, 0, none⟩ = some (.int .i64 (rows : Nat)) ∧ wr.cell? ⟨w.heap.size + 1, 1, none⟩ = some (.int .i64 (cols : Nat)) ∧ wr.cell? ⟨w.heap.size + 1, 2, none⟩ = some s ∧
    wr.frozen? ⟨w.heap.size + 1, 2, none⟩ = false ∧ (∃ x, wr.heap[w.heap.size]? = some (.cells #[.int .i64 0, .int .i64 0, x] 28)) ∧ w.heap.size + 2 ≤ wr.heap.size ∧ Below w.heap.size w wr
theorem made_next {rows cols k g cap' : Nat} {E : Nat → Nat → C} {w wr W1 w1 : World} {o : Obj} {s : Value} {zs : List C} {z : C}
    (hz : zs.map cnC = entries cols E k) (hlz : ltCs zs) (hown : wr.ownsRow (w.heap.size + 2) 53 1 s k (nums zs))
    (hc : wr.cell? ⟨w.heap.size + 1, 0, none⟩ = some (.int .i64 (rows : Nat)) ∧ wr.cell? ⟨w.heap.size + 1, 1, none⟩ = some (.int .i64 (cols : Nat))) (hc2 : wr.cell? ⟨w.heap.size + 1, 2, none⟩ = some s)
    (hfr : wr.frozen? ⟨w.heap.size + 1, 2, none⟩ = false) (hrc : ∃ x, wr.heap[w.heap.size]? = some (.cells #[.int .i64 0, .int .i64 0, x] 28)) (hsz : w.heap.size + 2 ≤ wr.heap.size) (hbel : Below w.heap.size w wr)
    (hbW : Below wr.drew.heap.size wr.drew W1) (hgrow : (W1.alloc o).grownBy w1 s.ownBlock)
    (hown1 : w1.ownsRow (w.heap.size + 2) 53 1 (.slice (some ⟨g, 0, none⟩) (k + 1) cap') (k + 1) (nums zs ++ [.complex .f64 z.1 z.2]))
    (hzv : cnC z = entry cols E k) (hzl : ltC z) :
    w1.cell? ⟨w.heap.size + 1, 2, none⟩ = some s ∧ w1.frozen? ⟨w.heap.size + 1, 2, none⟩ = false ∧
      MadeR rows cols E w (k + 1) (w1.setCell ⟨w.heap.size + 1, 2, none⟩ (.slice (some ⟨g, 0, none⟩) (k + 1) cap')) := by
  have hs1 : wr.heap.size ≤ W1.heap.size := hbW.size
  have hs2 : W1.heap.size ≤ (W1.alloc o).heap.size := (below_new W1 o).size
  have FB : ∀ p, p < w.heap.size + 2 → w1.heap[p]? = wr.heap[p]? := fun p hp => by
    have h1 : (W1.alloc o).heap[p]? = W1.heap[p]? := Below.heap_alloc W1 o p (by omega)
    have h2 : W1.heap[p]? = wr.heap[p]? := hbW.block p (show p < wr.heap.size by omega)
    have h3 := hgrow.block p (by omega) (fun e => by have := (hown.lt p e.symm).1; omega)
    exact h3.trans (h1.trans h2)
  have hsz1 : wr.heap.size ≤ w1.heap.size := Nat.le_trans hs1 (Nat.le_trans hs2 hgrow.size)
  have c0 : w1.cell? ⟨w.heap.size + 1, 0, none⟩ = some (.int .i64 (rows : Nat)) := (World.cell?_of_block (w := wr) (FB _ (by show w.heap.size + 1 < _; omega))).trans hc.1
  have c1 : w1.cell? ⟨w.heap.size + 1, 1, none⟩ = some (.int .i64 (cols : Nat)) := (World.cell?_of_block (w := wr) (FB _ (by show w.heap.size + 1 < _; omega))).trans hc.2
  have c2 : w1.cell? ⟨w.heap.size + 1, 2, none⟩ = some s := (World.cell?_of_block (w := wr) (FB _ (by show w.heap.size + 1 < _; omega))).trans hc2
  have f2 : w1.frozen? ⟨w.heap.size + 1, 2, none⟩ = false := (World.frozen?_of_block (w := wr) (FB _ (by show w.heap.size + 1 < _; omega))).trans hfr
  refine ⟨c2, f2, .slice (some ⟨g, 0, none⟩) (k + 1) cap', zs ++ [z], ?_, ?_, ?_, ?_, ?_, ?_, ?_, ?_, ?_, ?_⟩
  · rw [List.map_append, hz, entries_succ, List.map_cons, List.map_nil, hzv]
  · intro y hy
    rcases List.mem_append.1 hy with h | h
    · exact hlz y h
    · simp at h; rw [h]; exact hzl
  · have e : nums (zs ++ [z]) = nums zs ++ [.complex .f64 z.1 z.2] := by simp [nums]
    rw [e]
    exact ownsRow_setCell_below hown1 (by show w.heap.size + 1 < _; omega) _
  · exact (World.cell?_setCell_other _ _ _ _ (by simp)).trans c0
  · exact (World.cell?_setCell_other _ _ _ _ (by simp)).trans c1
  · exact World.cell?_setCell_same _ _ _ c2
  · rw [World.frozen?_setCell]; exact f2
  · obtain ⟨x, hx⟩ := hrc
    refine ⟨x, ?_⟩
    rw [Below.heap_setCell _ _ _ _ (by show w.heap.size ≠ w.heap.size + 1; omega), FB _ (by omega)]; exact hx
  · have : (w1.setCell ⟨w.heap.size + 1, 2, none⟩ (.slice (some ⟨g, 0, none⟩) (k + 1) cap')).heap.size = w1.heap.size := by simp [World.setCell]
    omega
  · have hb1 : Below w.heap.size w w1 := by
      have h1 : Below w.heap.size w W1 := hbel.drew.trans (hbW.mono (by show w.heap.size ≤ wr.heap.size; omega))
      have h2 : Below w.heap.size w (W1.alloc o) := h1.new (Nat.le_refl _) o
      exact h2.grown hgrow (by omega) (fun j hj => by have := (hown.lt j hj).1; omega)
    exact hb1.setCell (by show w.heap.size ≤ w.heap.size + 1; omega) _
set_option maxHeartbeats 1000000 in
theorem made_c (rows cols : Nat) (hR : rows ≤ 64) (hC : cols ≤ 64) (G : FuncId) (cap : Array Value) (E : Nat → Nat → C) (w : World)
    (hG : ∀ (args : Array Value) (W : World), (callFunc G args).run Try.prog W = .ok (.enter G args) W)
    (hE : ∀ (i j : Nat) (W : World), i < rows → j < cols → Below w.heap.size w W → Calls Try.prog G (#[.int .i64 (i : Nat), .int .i64 (j : Nat)] ++ cap) W (RetZ (E i j) W)) :
    Calls Try.prog 59 #[.int .i64 (rows : Nat), .int .i64 (cols : Nat), .func (.func G) #[] cap] w (RetMx rows cols (entries cols E (rows * cols)) w) := by
  obtain ⟨i0, hi, hz0, hz1, hz2⟩ := info_parts infoNum
  have HE := Lib.hid hE
  clear hE
  go_enter Try.func59, Try.ntmps59
  go_wp2
  go_loopw [14] (fun i wr => ∃ a : Nat, a ≤ rows ∧ i = .int .i64 (a : Nat) ∧ MadeR rows cols E w (a * cols) wr) (fun i _ => rows - (intOf i).toNat)
  case atStart =>
    refine ⟨0, Nat.zero_le _, rfl, .slice none 0 0, [], by simp [entries], by simp [ltCs], ?_, ?_, ?_, ?_, ?_, ?_, ?_, ?_⟩
    · rw [Nat.zero_mul]; exact World.ownsRow_nil _ _ _ _
    · rw [World.cell?_alloc_at _ _ _ _ (by simp)]; rfl
    · rw [World.cell?_alloc_at _ _ _ _ (by simp)]; rfl
    · rw [World.cell?_alloc_at _ _ _ _ (by simp)]; rfl
    · rw [frozen?_alloc_cells, frozen?_alloc_cells]
      simp [World.frozen?]
    · refine ⟨.slice none 0 0, ?_⟩
      have h := ((Below.refl (w.heap.size + 1) (w.alloc (.cells #[.int .i64 0, .int .i64 0, .slice none 0 0] 28))).alloc (by simp) (.cells #[.int .i64 (rows : Nat), .int .i64 (cols : Nat), .slice none 0 0] 28)).block w.heap.size (by omega)
      rw [h]
      exact heap_alloc_new w _
    · simp
    · exact ((Below.refl _ w).new (Nat.le_refl _) _).new (Nat.le_refl _) _
  case round =>
    obtain ⟨a, ha, rfl, hm⟩ := hrel
    have HM := Lib.hid hm
    clear hm
    by_cases hlt : a < rows
    · go_wp2
      go_loopw [18] (fun i wr => ∃ b : Nat, b ≤ cols ∧ i = .int .i64 (b : Nat) ∧ MadeR rows cols E w (a * cols + b) wr) (fun i _ => cols - (intOf i).toNat)
      case atStart => exact ⟨0, Nat.zero_le _, rfl, HM.out⟩
      case round =>
        obtain ⟨b, hb, rfl, hm⟩ := hrel
        have HM2 := Lib.hid hm
        clear hm
        by_cases hlt2 : b < cols
        · obtain ⟨s, zs, hz, hlz, hown, hc0, hc1, hc2, hfr, hrc, hsz, hbel⟩ := HM2.out
          have HZ := Lib.hid hz
          have HL := Lib.hid hlz
          have HR := Lib.hid hrc
          have HB := Lib.hid hbel
          have HO := Lib.hid hown
          have HC := Lib.hid (And.intro hc0 hc1)
          have HS := Lib.hid hsz
          have HF := Lib.hid hfr
          have hlen : zs.length = a * cols + b := by have := congrArg List.length hz; simpa [entries] using this
          have HLen := Lib.hid hlen
          clear hz hlz hown hc0 hc1 hfr hrc hsz hbel hlen
          have hab : a * cols + b ≤ 64 * 64 := by
            have h1 : a * cols ≤ 64 * 64 - cols := by
              have h2 : (a + 1) * cols ≤ 64 * 64 := Nat.mul_le_mul (by omega) hC
              rw [Nat.add_mul, Nat.one_mul] at h2; omega
            omega
          go_wp2
          go_region_law (first
            | (refine step_append_lies _ rfl (.tmp 22) (.tmp 27) 25 rfl (w.heap.size + 2) 53 i0 (.complex .f64 0 0) 1 16 Try.underlying25 hi hz0 hz1 hz2 rfl (by decide) _ _ _ rfl ((own_below (w := wr.drew) HO.out hbW).alloc _) ⟨_, 0, none⟩ 1 1 [.complex .f64 z.1 z.2] rfl rfl (cell_one_new _ _ _) (by intro u hu; simp at hu; subst hu; rfl) (by decide) (by unfold maxLen; omega) (by omega) (Nat.le_trans (Nat.le_trans HS.out hbW.size) (below_new W1 _).size) _ rfl ?_; intro g cap' w1 hown1 hgrow1 hat1 hlt1; have hst := made_next HZ.out HL.out HO.out HC.out hc2 HF.out HR.out HS.out HB.out hbW hgrow1 hown1 (hzv.trans (entry_at E hlt2).symm) hzl; have hk1 := hst.1; have hk2 := hst.2.1)
            | (go_simp; refine (HE.out a b _ hlt hlt2 HB.out.drew).mono ?_; rintro e W1 ⟨z, rfl, hzv, hzl, hbW⟩; have hc2' := (hbW.cell (p := ⟨w.heap.size + 1, 2, none⟩) (Nat.lt_of_lt_of_le (by show w.heap.size + 1 < w.heap.size + 2; omega) HS.out)).trans hc2; have hc3 := fun o => ((below_new W1 o).cell (p := ⟨w.heap.size + 1, 2, none⟩) (Nat.lt_of_lt_of_le (by show w.heap.size + 1 < w.heap.size + 2; omega) (Nat.le_trans HS.out hbW.size))).trans hc2'))
          all_goals
            have HST := Lib.hid hst.2.2
            clear hst hk1 hk2 hown1 hgrow1 hat1 hlt1
            go_wp2
            go_roundw
            case rel => exact ⟨b + 1, hlt2, by go_num, HST.out⟩
            case measure => simp [intOf]; omega
        · have e : b = cols := by omega
          have HN : Hid (MadeR rows cols E w ((a + 1) * cols) wr) := by
            have h := HM2.out
            rw [e] at h
            show MadeR _ _ _ _ _ _
            rw [Nat.add_mul, Nat.one_mul]; exact h
          go_wp2
          go_roundw
          case rel => exact ⟨a + 1, by omega, by go_num, HN.out⟩
          case measure => simp [intOf]; omega
    · have e : a = rows := by omega
      subst e
      obtain ⟨s, zs, hz, hlz, hown, hc0, hc1, hc2, hfr, ⟨x, hrc⟩, hsz, hbel⟩ := HM.out
      have r0 : wr.cell? ⟨w.heap.size, 0, none⟩ = some (.int .i64 0) := by rw [cell_of_row wr w.heap.size 0 _ _ _ hrc]; rfl
      have r1 : wr.cell? ⟨w.heap.size, 1, none⟩ = some (.int .i64 0) := by rw [cell_of_row wr w.heap.size 1 _ _ _ hrc]; rfl
      have r2 : wr.cell? ⟨w.heap.size, 2, none⟩ = some x := by rw [cell_of_row wr w.heap.size 2 _ _ _ hrc]; rfl
      have f0 : wr.frozen? ⟨w.heap.size, 0, none⟩ = false := frozen_of_row wr w.heap.size 0 _ _ hrc
      have f1 : wr.frozen? ⟨w.heap.size, 1, none⟩ = false := frozen_of_row wr w.heap.size 1 _ _ hrc
      have f2 : wr.frozen? ⟨w.heap.size, 2, none⟩ = false := frozen_of_row wr w.heap.size 2 _ _ hrc
      obtain ⟨sA, sn, sc, rfl⟩ : ∃ A n c, s = .slice A n c := by
        rcases hown.2 with ⟨h, _⟩ | ⟨g, cap, cur, h, _⟩
        · exact ⟨_, _, _, h⟩
        · exact ⟨_, _, _, h⟩
      have HZ := Lib.hid hz
      have HL := Lib.hid hlz
      have HO := Lib.hid hown
      have HB := Lib.hid hbel
      clear hz hlz hown hbel hrc hsz
      go_wp2
      obtain ⟨q0, q1, q2⟩ := set3 (u := .int .i64 (a : Nat)) (v := .int .i64 (cols : Nat)) (t := .slice sA sn sc) r0 r1 r2
      refine bodyPost_ret (v := mval a cols (.slice sA sn sc)) (by simp [results, Try.results59, go_sem, q0, q1, q2]) rfl ?_
      have hl : (entries cols E (a * cols)).length = a * cols := by simp [entries]
      refine ⟨_, zs, rfl, HZ.out, HL.out, ?_, ?_⟩
      · rw [hl]
        exact own_base (ownsRow_setCell_below (ownsRow_setCell_below (ownsRow_setCell_below HO.out (by show w.heap.size < _; omega) _) (by show w.heap.size < _; omega) _) (by show w.heap.size < _; omega) _) (by omega)
      · exact ((HB.out.setCell (Nat.le_refl _) _).setCell (Nat.le_refl _) _).setCell (Nat.le_refl _) _
end Go.Proofs.Ytajdfbjjgjpicaa
namespace Go.Proofs.Ytajdfbjjgjpicaa
open Go.RowKit Fl Ieee
set_option maxRecDepth 20000
attribute [local go_sem] run_store_float run_store_complex
/-- What stands at a place, up to NaN. -/
def ent (l : List C) (cols i j : Nat) : C := cnC (l.getD (i * cols + j) (0, 0))
/-- A matrix in a block of its own. -/
def Box (W : World) (b : Nat) (r c : Int) (s : Value) : Prop := W.cell? ⟨b, 0, none⟩ = some (.int .i64 r) ∧ W.cell? ⟨b, 1, none⟩ = some (.int .i64 c) ∧ W.cell? ⟨b, 2, none⟩ = some s
theorem Box.below {W W' : World} {b B : Nat} {r c : Int} {s : Value} (h : Box W b r c s) (hb : Below B W W') (hlt : b < B) : Box W' b r c s :=
  ⟨(hb.cell (p := ⟨b, 0, none⟩) hlt).trans h.1, (hb.cell (p := ⟨b, 1, none⟩) hlt).trans h.2.1, (hb.cell (p := ⟨b, 2, none⟩) hlt).trans h.2.2⟩
theorem Box.new (w : World) (r c : Int) (s : Value) (t : TypeId) : Box (w.alloc (.cells #[.int .i64 r, .int .i64 c, s] t)) w.heap.size r c s := by
  refine ⟨?_, ?_, ?_⟩ <;> (rw [World.cell?_alloc_new]; rfl)
theorem at_ok {l : List C} {rows cols i j : Nat} (hl : l.length = rows * cols) (hi : i < rows) (hj : j < cols) : l[i * cols + j]? = some (l.getD (i * cols + j) (0, 0)) := by
  have h : i * cols + j < l.length := by
    rw [hl]
    have h1 : (i + 1) * cols ≤ rows * cols := Nat.mul_le_mul_right _ hi
    rw [Nat.add_mul, Nat.one_mul] at h1; omega
  rw [List.getElem?_eq_getElem h, List.getD_eq_getElem?_getD, List.getElem?_eq_getElem h]; rfl
theorem ltCs_at {l : List C} {rows cols i j : Nat} (h : ltCs l) (hl : l.length = rows * cols) (hi : i < rows) (hj : j < cols) : ltC (l.getD (i * cols + j) (0, 0)) :=
  h _ (List.mem_of_getElem? (at_ok hl hi hj))
theorem prod_small {rows cols : Nat} (hr : rows ≤ 64) (hc : cols ≤ 64) : rows * cols ≤ 4096 := Nat.mul_le_mul hr hc
/-- An entry is read. -/
theorem at_e (rows cols : Nat) (A : Option Addr) (l : List C) (cap i j : Nat) (W : World) (hl : l.length = rows * cols) (hr : rows ≤ 64) (hc : cols ≤ 64) (hi : i < rows) (hj : j < cols) (hrd : Reads W W.heap.size A (nums l)) :
    Calls Try.prog 63 #[mval rows cols (.slice A l.length cap), .int .i64 (i : Nat), .int .i64 (j : Nat)] W (RetV (.complex .f64 (l.getD (i * cols + j) (0, 0)).1 (l.getD (i * cols + j) (0, 0)).2) W) :=
  at_c rows cols A l cap i j (i * cols + j) _ (by simp) (by omega) (by omega) (by omega) (at_ok hl hi hj) W.heap.size W (Nat.le_refl _) (by have := prod_small hr hc; omega) hrd
theorem enters_of {P : Program} {f : FuncId} {fn : Func} {c : Code} (hf : P.funcs[f]? = some fn) (hn : (fn.name == "runtime.NumGoroutine") = false) (hb : fn.body = some c) (args : Array Value) (W : World) :
    (callFunc f args).run P W = .ok (.enter f args) W := by
  have h1 : fn.name ≠ "runtime.NumGoroutine" := by simpa using hn
  simp [callFunc, hf, h1, hb]
/-- A matrix and what is told of it. -/
def RetMxE (rows cols : Int) (l : List C) (er : Int) (w : World) (e : Ending) (w' : World) : Prop :=
  ∃ s zs, e = .returned (.tuple #[mval rows cols s, .int .i64 er]) ∧ zs.map cnC = l ∧ ltCs zs ∧ w'.ownsRow w.heap.size 53 1 s l.length (nums zs) ∧ Below w.heap.size w w'
theorem box3 {w : World} {b : Nat} {x y z : Value} {t : TypeId} (hx : w.heap[b]? = some (.cells #[x, y, z] t)) :
    w.cell? ⟨b, 0, none⟩ = some x ∧ w.cell? ⟨b, 1, none⟩ = some y ∧ w.cell? ⟨b, 2, none⟩ = some z ∧ (∀ j, w.frozen? ⟨b, j, none⟩ = false) := by
  refine ⟨?_, ?_, ?_, fun j => frozen_of_row w b j _ _ hx⟩
  · rw [cell_of_row w b 0 _ _ _ hx]; rfl
  · rw [cell_of_row w b 1 _ _ _ hx]; rfl
  · rw [cell_of_row w b 2 _ _ _ hx]; rfl
theorem slice_of_own {w : World} {B e n : Nat} {v : Value} {xs : List Value} (h : w.ownsRow B e 1 v n xs) : ∃ A m c, v = .slice A m c ∧ m = n := by
  rcases h.2 with ⟨h, h'⟩ | ⟨g, cap, cur, h, _⟩
  · exact ⟨_, _, _, h, h'.symm⟩
  · exact ⟨_, _, _, h, rfl⟩
theorem close_mx {w W1 : World} {b : Nat} {rows cols er : Int} {s x y z : Value} {zs l : List C} (hz : zs.map cnC = l) (hl : ltCs zs) (hown : W1.ownsRow (b + 1) 53 1 s l.length (nums zs)) (hB : Below w.heap.size w W1) (hb : w.heap.size ≤ b) :
    RetMxE rows cols l er w (.returned (.tuple #[mval rows cols s, .int .i64 er])) (((W1.setCell ⟨b, 0, none⟩ x).setCell ⟨b, 1, none⟩ y).setCell ⟨b, 2, none⟩ z) :=
  ⟨s, zs, rfl, hz, hl, own_base (ownsRow_setCell_below (ownsRow_setCell_below (ownsRow_setCell_below hown (by show b < b + 1; omega) _) (by show b < b + 1; omega) _) (by show b < b + 1; omega) _) (by omega),
    ((hB.setCell hb _).setCell hb _).setCell hb _⟩
/-- What stands behind the frame of a function of one matrix: its box, the result's cell, in any world that has grown since. -/
theorem frame1 {w W1 : World} {r c : Int} {s x y z : Value} {t t' : TypeId} (hb : Below ((w.alloc (.cells #[.int .i64 r, .int .i64 c, s] t)).alloc (.cells #[x, y, z] t')).heap.size ((w.alloc (.cells #[.int .i64 r, .int .i64 c, s] t)).alloc (.cells #[x, y, z] t')) W1) :
    Box W1 w.heap.size r c s ∧ W1.heap[w.heap.size + 1]? = some (.cells #[x, y, z] t') ∧ Below w.heap.size w W1 ∧ w.heap.size + 2 ≤ W1.heap.size := by
  obtain ⟨w1, hw1⟩ : ∃ w1, w1 = w.alloc (.cells #[.int .i64 r, .int .i64 c, s] t) := ⟨_, rfl⟩
  have e1 : w1.heap.size = w.heap.size + 1 := by rw [hw1]; simp
  have hbx : Box w1 w.heap.size r c s := by rw [hw1]; exact Box.new _ _ _ _ _
  have hb1 : Below w.heap.size w w1 := by rw [hw1]; exact below_new _ _
  rw [← hw1] at hb
  have e2 : (w1.alloc (.cells #[x, y, z] t')).heap.size = w.heap.size + 2 := by simp [e1]
  have hb2 : Below w1.heap.size w1 (w1.alloc (.cells #[x, y, z] t')) := below_new _ _
  have hn := heap_alloc_new w1 (.cells #[x, y, z] t')
  generalize w1.alloc (.cells #[x, y, z] t') = w2 at *
  refine ⟨(hbx.below hb2 (by omega)).below hb (by omega), ?_, (hb1.trans (hb2.mono (by omega))).trans (hb.mono (by omega)), by have := hb.size; omega⟩
  rw [hb.block _ (by omega), ← e1]; exact hn
end Go.Proofs.Ytajdfbjjgjpicaa
