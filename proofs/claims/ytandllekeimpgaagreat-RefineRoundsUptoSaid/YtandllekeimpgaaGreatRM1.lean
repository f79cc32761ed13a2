/- Layer 7, the document's answer: a matrix is filled, place by place. -/
import Derived.Test.YtandllekeimpgaaGreatMX1
import Derived.Deep.OwnRows
namespace Go.Proofs.YtandllekeimpgaaGreat
open Go.RowKit Fl Ieee
set_option maxRecDepth 20000
attribute [local go_sem] run_store_float run_store_complex
theorem rCheck_c (r c : Int) (A : Option Addr) (n cap : Nat) (w : World) :
    Calls Tryz.prog 63 #[mval r c (.slice A n cap)] w (RetV (.int .i64 (if okM r c n then 0 else 4)) w) := by
  by_cases h1 : r < 0
  · have e : okM r c n = false := by
      rw [Bool.eq_false_iff]; intro h; have := okM_iff.1 h; omega
    rw [e]
    clear e
    go_enter Tryz.func63, Tryz.ntmps63
    go_wp2
    go_ret; exact ⟨rfl, below_new _ _⟩
  · by_cases h2 : 64 < r
    · have e : okM r c n = false := by
        rw [Bool.eq_false_iff]; intro h; have := okM_iff.1 h; omega
      rw [e]
      clear e
      go_enter Tryz.func63, Tryz.ntmps63
      go_wp2
      go_ret; exact ⟨rfl, below_new _ _⟩
    · by_cases h3 : c < 0
      · have e : okM r c n = false := by
          rw [Bool.eq_false_iff]; intro h; have := okM_iff.1 h; omega
        rw [e]
        clear e
        go_enter Tryz.func63, Tryz.ntmps63
        go_wp2
        go_ret; exact ⟨rfl, below_new _ _⟩
      · by_cases h4 : 64 < c
        · have e : okM r c n = false := by
            rw [Bool.eq_false_iff]; intro h; have := okM_iff.1 h; omega
          rw [e]
          clear e
          go_enter Tryz.func63, Tryz.ntmps63
          go_wp2
          go_ret; exact ⟨rfl, below_new _ _⟩
        · obtain ⟨a, rfl⟩ : ∃ a : Nat, r = (a : Int) := ⟨r.toNat, by omega⟩
          obtain ⟨b, rfl⟩ : ∃ b : Nat, c = (b : Int) := ⟨c.toNat, by omega⟩
          have ha : a ≤ 64 := by omega
          have hb : b ≤ 64 := by omega
          have hab : a * b ≤ 64 * 64 := Nat.mul_le_mul ha hb
          have hm : wrap64 ((a : Int) * (b : Int)) = ((a * b : Nat) : Int) := by
            rw [← Int.natCast_mul]; unfold wrap64; omega
          have e1 : n = a * b → okM a b n = true := fun h5 => okM_iff.2 ⟨by omega, by omega, by omega, by omega, by rw [h5, Int.natCast_mul]⟩
          have e2 : n ≠ a * b → okM a b n = false := fun h5 => by
            rw [Bool.eq_false_iff]; intro h
            have h6 := (okM_iff.1 h).2.2.2.2
            rw [← Int.natCast_mul] at h6; omega
          have h1' : ((a : Int) < 0) = False := by simp
          have h2' : (64 < (a : Int)) = False := by simp; omega
          have h3' : ((b : Int) < 0) = False := by simp
          have h4' : (64 < (b : Int)) = False := by simp; omega
          clear h1 h2 h3 h4 hab
          by_cases h5 : n = a * b
          · rw [e1 h5]
            clear e1 e2
            subst h5
            go_enter Tryz.func63, Tryz.ntmps63
            go_wp2
            go_ret; exact ⟨rfl, below_new _ _⟩
          · rw [e2 h5]
            have h6 : ((n : Int) == ((a * b : Nat) : Int)) = false := by simp; omega
            clear e1 e2 h5
            go_enter Tryz.func63, Tryz.ntmps63
            go_wp2
            go_ret; exact ⟨rfl, below_new _ _⟩
theorem rEnt_c (r c : Int) (A : Option Addr) (l : List C) (cap : Nat) (i j k : Nat) (z : C) (hk : k = i * c.toNat + j) (hc0 : 0 ≤ c) (hc1 : c ≤ 64) (hi : i ≤ 64) (hz : l[k]? = some z) (B : Nat) (w : World) (hB : B ≤ w.heap.size) (hl : l.length ≤ 5000) (hr : Reads w B A (nums l)) :
    Calls Tryz.prog 71 #[mval r c (.slice A l.length cap), .int .i64 (i : Nat), .int .i64 (j : Nat)] w (RetV (.complex .f64 z.1 z.2) w) := by
  obtain ⟨b, rfl⟩ : ∃ b : Nat, c = (b : Int) := ⟨c.toNat, by omega⟩
  rw [Int.toNat_natCast] at hk
  have hv : (nums l)[k]? = some (.complex .f64 z.1 z.2) := by simp [nums, hz]
  obtain ⟨ad, rfl, hb, hcell⟩ := hr.at_ hv
  have hlt : k < l.length := by
    rcases Nat.lt_or_ge k l.length with h | h
    · exact h
    · rw [List.getElem?_eq_none h] at hz; cases hz
  have hib : i * b ≤ 64 * 64 := Nat.mul_le_mul hi (by omega)
  have hm : wrap64 ((i : Int) * (b : Int)) = (i : Int) * (b : Int) := by
    rw [← Int.natCast_mul]; unfold wrap64; omega
  have hcell2 : ∀ o, (w.alloc o).cell? (ad.add k) = some (.complex .f64 z.1 z.2) := fun o => by
    rw [World.cell?_alloc_lt w o (ad.add k) (by rw [block_of_add]; omega)]; exact hcell
  have hsum : wrap64 ((i : Int) * (b : Int) + (j : Int)) = (k : Int) := by rw [hk, ← Int.natCast_mul]; unfold wrap64; omega
  have HK := Lib.hid hk
  clear hk hz hv hr hcell hi hc0 hc1 hib
  go_enter Tryz.func71, Tryz.ntmps71
  go_wp2
  go_ret; exact ⟨rfl, below_new _ _⟩
theorem rEnt_e (rows cols : Nat) (A : Option Addr) (l : List C) (cap i j : Nat) (W : World) (hl : l.length = rows * cols) (hr : rows ≤ 64) (hc : cols ≤ 64) (hi : i < rows) (hj : j < cols) (hrd : Reads W W.heap.size A (nums l)) :
    Calls Tryz.prog 71 #[mval rows cols (.slice A l.length cap), .int .i64 (i : Nat), .int .i64 (j : Nat)] W (RetV (.complex .f64 (l.getD (i * cols + j) (0, 0)).1 (l.getD (i * cols + j) (0, 0)).2) W) :=
  rEnt_c rows cols A l cap i j (i * cols + j) _ (by simp) (by omega) (by omega) (by omega) (at_ok hl hi hj) W.heap.size W (Nat.le_refl _) (by have := prod_small hr hc; omega) hrd
/- A call of one argument box: in the reference. -/
/-- A matrix of noughts is handed back. -/
def RetBl (r c : Int) (n : Nat) (w : World) (e : Ending) (w' : World) : Prop :=
  ∃ g, e = .returned (mval r c (.slice (some ⟨g, 0, none⟩) n n)) ∧ w'.heap[g]? = some (.cells (nums (List.replicate n (0, 0))).toArray 60) ∧ w.heap.size ≤ g ∧ Below w.heap.size w w'
/-- The first k places are laid. -/
def upto (E : Nat → C) (k q : Nat) : C := if q < k then E q else (0, 0)
section
variable {w wr V : World} {b bm g n k : Nat} {r c : Int} {F F' : Nat → C}
/-- A matrix is being filled: its row g, its box bm, the result's box b. -/
def FillW (w : World) (b bm g : Nat) (r c : Int) (n : Nat) (F : Nat → C) (wr : World) : Prop :=
  ∃ zs, zs.map cnC = (List.range n).map F ∧ ltCs zs ∧ wr.heap[g]? = some (.cells (nums zs).toArray 60) ∧
    wr.heap[bm]? = some (.cells #[.int .i64 r, .int .i64 c, .slice (some ⟨g, 0, none⟩) n n] 27) ∧
    wr.heap[b]? = some zrow ∧ Below w.heap.size w wr
theorem FillW.below (h : FillW w b bm g r c n F wr) (hb : Below wr.heap.size wr V) : FillW w b bm g r c n F V := by
  obtain ⟨zs, h1, h2, h3, h4, h5, h6⟩ := h
  exact ⟨zs, h1, h2, row_keep hb h3, row_keep hb h4, row_keep hb h5, h6.trans (hb.mono h6.size)⟩
theorem FillW.congr (h : FillW w b bm g r c n F wr) (hF : ∀ q, q < n → F' q = F q) : FillW w b bm g r c n F' wr := by
  obtain ⟨zs, h1, h2, h3⟩ := h
  exact ⟨zs, by rw [h1]; exact List.map_congr_left fun q hq => (hF q (List.mem_range.1 hq)).symm, h2, h3⟩
/-- What the walk reads. -/
theorem FillW.cells (h : FillW w b bm g r c n F wr) :
    wr.cell? ⟨bm, 0, none⟩ = some (.int .i64 r) ∧ wr.cell? ⟨bm, 1, none⟩ = some (.int .i64 c) ∧ wr.cell? ⟨bm, 2, none⟩ = some (.slice (some ⟨g, 0, none⟩) n n) := by
  obtain ⟨zs, h1, h2, h3, h4, h5, h6⟩ := h
  obtain ⟨x, y, z, -⟩ := box3 h4
  exact ⟨x, y, z⟩
theorem FillW.place (h : FillW w b bm g r c n F wr) (hk : k < n) : (∃ u, wr.cell? ⟨g, k, none⟩ = some u) ∧ wr.frozen? ⟨g, k, none⟩ = false := by
  obtain ⟨zs, h1, h2, h3, h4, h5, h6⟩ := h
  have hl : zs.length = n := by have := congrArg List.length h1; simpa using this
  refine ⟨?_, frozen_of_row wr g k _ _ h3⟩
  have hk' : k < (nums zs).toArray.size := by simp [nums]; omega
  rw [cell_of_row wr g k _ _ _ h3]
  exact ⟨_, Array.getElem?_eq_getElem hk'⟩
theorem FillW.set {z : C} (h : FillW w b bm g r c n F wr) (_hk : k < n) (hz : ltC z) (hF : ∀ q, q < n → F' q = if q = k then cnC z else F q) (h0 : w.heap.size ≤ g) (hb : b ≠ g) (hbm : bm ≠ g) :
    FillW w b bm g r c n F' (wr.setCell ⟨g, k, none⟩ (.complex .f64 z.1 z.2)) := by
  obtain ⟨zs, h1, h2, h3, h4, h5, h6⟩ := h
  have hl : zs.length = n := by have := congrArg List.length h1; simpa using this
  refine ⟨zs.set k z, ?_, ?_, ?_, ?_, ?_, h6.setCell h0 _⟩
  · apply List.ext_getElem
    · simp [hl]
    · intro q p1 p2
      have hq : q < n := by simpa using p2
      have h1q := congrArg (fun l : List C => l[q]?) h1
      simp only [List.getElem?_map, List.getElem?_range hq, Option.map_some] at h1q
      rw [List.getElem?_eq_getElem (by omega)] at h1q
      simp only [Option.map_some, Option.some.injEq] at h1q
      simp only [List.getElem_map, List.getElem_range, hF q hq, List.getElem_set]
      by_cases e : k = q
      · rw [if_pos e, if_pos e.symm]
      · rw [if_neg e, if_neg (fun h => e h.symm)]; exact h1q
  · intro y hy
    rcases List.mem_or_eq_of_mem_set hy with h | h
    · exact h2 y h
    · rw [h]; exact hz
  · rw [heap_setCell_same wr g k _ _ _ h3]
    congr 2
    simp [nums, List.map_set]
  · rw [heap_setCell_other _ _ bm _ hbm]; exact h4
  · rw [heap_setCell_other _ _ b _ hb]; exact h5
/-- It is handed back. -/
theorem FillW.close {er : Int} {W1 : World} (h : FillW w b bm g r c n F wr) (h0 : w.heap.size ≤ b) (hbg : b < g) (hW : W1 = put3 wr b (.int .i64 r) (.int .i64 c) (.slice (some ⟨g, 0, none⟩) n n)) (hn : n ≤ 4096) :
    RetMxE r c ((List.range n).map F) er w (.returned (.tuple #[mval r c (.slice (some ⟨g, 0, none⟩) n n), .int .i64 er])) W1 := by
  obtain ⟨zs, h1, h2, h3, h4, h5, h6⟩ := h
  subst hW
  have hl : zs.length = n := by have := congrArg List.length h1; simpa using this
  refine close_mx (W1 := wr) h1 h2 ?_ h6 h0
  refine ⟨by simp [nums, hl], .inr ⟨g, n, (nums zs).toArray, by simp, hbg, h3, by simp, by unfold maxLen; omega, by simp [nums, hl], ?_⟩⟩
  simp [nums]
  exact List.take_of_length_le (by simp [hl])
end
/-- A blank in its box is a matrix of which nothing is laid. -/
theorem FillW.start {w W1 : World} {b g n : Nat} {r c : Int} {F : Nat → C} (hg : W1.heap[g]? = some (.cells (nums (List.replicate n (0, 0))).toArray 60)) (hb : W1.heap[b]? = some zrow) (hB : Below w.heap.size w W1) (hF : ∀ q, q < n → F q = (0, 0)) :
    FillW w b W1.heap.size g r c n F (W1.alloc (.cells #[.int .i64 r, .int .i64 c, .slice (some ⟨g, 0, none⟩) n n] 27)) := by
  refine ⟨List.replicate n (0, 0), ?_, ?_, row_alloc hg, heap_alloc_new _ _, row_alloc hb, hB.new (Nat.le_refl _) _⟩
  · apply List.ext_getElem
    · simp
    · intro q p1 p2
      have hq : q < n := by simpa using p2
      simp only [List.getElem_map, List.getElem_replicate, List.getElem_range, hF q hq]
      decide
  · intro z hz
    rw [List.eq_of_mem_replicate hz]
    exact ⟨by decide, by decide⟩
end Go.Proofs.YtandllekeimpgaaGreat
namespace Go.Proofs.YtandllekeimpgaaGreat
open Go.RowKit Fl Ieee
set_option maxRecDepth 20000
attribute [local go_sem] run_store_float run_store_complex
end Go.Proofs.YtandllekeimpgaaGreat
namespace Go.Proofs.YtandllekeimpgaaGreat
open Go.RowKit Fl Ieee
set_option maxRecDepth 20000
attribute [local go_sem] run_store_float run_store_complex
end Go.Proofs.YtandllekeimpgaaGreat
