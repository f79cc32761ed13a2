/- Layer 7, the document's answer: a matrix is filled, place by place. -/
import Derived.Test.YtajdfbjjgjpicaaMX1
import Derived.Deep.OwnRows
namespace Go.Proofs.Ytajdfbjjgjpicaa
open Go.RowKit Fl Ieee
set_option maxRecDepth 20000
attribute [local go_sem] run_store_float run_store_complex
theorem rCheck_c (r c : Int) (A : Option Addr) (n cap : Nat) (w : World) :
    Calls Try.prog 35 #[mval r c (.slice A n cap)] w (RetV (.int .i64 (if okM r c n then 0 else 4)) w) := by
  by_cases h1 : r < 0
  · have e : okM r c n = false := by
      rw [Bool.eq_false_iff]; intro h; have := okM_iff.1 h; omega
    rw [e]
    clear e
    go_enter Try.func35, Try.ntmps35
    go_wp2
    go_ret; exact ⟨rfl, below_new _ _⟩
  · by_cases h2 : 64 < r
    · have e : okM r c n = false := by
        rw [Bool.eq_false_iff]; intro h; have := okM_iff.1 h; omega
      rw [e]
      clear e
      go_enter Try.func35, Try.ntmps35
      go_wp2
      go_ret; exact ⟨rfl, below_new _ _⟩
    · by_cases h3 : c < 0
      · have e : okM r c n = false := by
          rw [Bool.eq_false_iff]; intro h; have := okM_iff.1 h; omega
        rw [e]
        clear e
        go_enter Try.func35, Try.ntmps35
        go_wp2
        go_ret; exact ⟨rfl, below_new _ _⟩
      · by_cases h4 : 64 < c
        · have e : okM r c n = false := by
            rw [Bool.eq_false_iff]; intro h; have := okM_iff.1 h; omega
          rw [e]
          clear e
          go_enter Try.func35, Try.ntmps35
          go_wp2
          go_ret; exact ⟨rfl, below_new _ _⟩
        · obtain ⟨a, rfl⟩ : ∃ a : Nat, r = (a : Int) := ⟨r.toNat, by omega⟩
          obtain ⟨b, rfl⟩ : ∃ b : Nat, c = (b : Int) := ⟨c.toNat, by omega⟩
          have ha : a ≤ 64 := by omega
          have hb : b ≤ 64 := by omega
          have hab : a * b ≤ 64 * 64 := Nat.mul_le_mul ha hb
          have hm : wrap64 ((a : Int) * (b : Int)) = ((a * b : Nat) : Int) := by
            rw [← Int.natCast_mul]; unfold wrap64; omega
          have e1 : n = a * b → okM a b n = true := fun h5 => okM_iff.2 ⟨by omega, by omega, by omega, by omega, by rw [h5, Int.natCast_mul]⟩
          have e2 : n ≠ a * b → okM a b n = false := fun h5 => by
            rw [Bool.eq_false_iff]; intro h
            have h6 := (okM_iff.1 h).2.2.2.2
            rw [← Int.natCast_mul] at h6; omega
          have h1' : ((a : Int) < 0) = False := by simp
          have h2' : (64 < (a : Int)) = False := by simp; omega
          have h3' : ((b : Int) < 0) = False := by simp
          have h4' : (64 < (b : Int)) = False := by simp; omega
          clear h1 h2 h3 h4 hab
          by_cases h5 : n = a * b
          · rw [e1 h5]
            clear e1 e2
            subst h5
            go_enter Try.func35, Try.ntmps35
            go_wp2
            go_ret; exact ⟨rfl, below_new _ _⟩
          · rw [e2 h5]
            have h6 : ((n : Int) == ((a * b : Nat) : Int)) = false := by simp; omega
            clear e1 e2 h5
            go_enter Try.func35, Try.ntmps35
            go_wp2
            go_ret; exact ⟨rfl, below_new _ _⟩
theorem rEnt_c (r c : Int) (A : Option Addr) (l : List C) (cap : Nat) (i j k : Nat) (z : C) (hk : k = i * c.toNat + j) (hc0 : 0 ≤ c) (hc1 : c ≤ 64) (hi : i ≤ 64) (hz : l[k]? = some z) (B : Nat) (w : World) (hB : B ≤ w.heap.size) (hl : l.length ≤ 5000) (hr : Reads w B A (nums l)) :
    Calls Try.prog 73 #[mval r c (.slice A l.length cap), .int .i64 (i : Nat), .int .i64 (j : Nat)] w (RetV (.complex .f64 z.1 z.2) w) := by
  obtain ⟨b, rfl⟩ : ∃ b : Nat, c = (b : Int) := ⟨c.toNat, by omega⟩
  rw [Int.toNat_natCast] at hk
  have hv : (nums l)[k]? = some (.complex .f64 z.1 z.2) := by simp [nums, hz]
  obtain ⟨ad, rfl, hb, hcell⟩ := hr.at_ hv
  have hlt : k < l.length := by
    rcases Nat.lt_or_ge k l.length with h | h
    · exact h
    · rw [List.getElem?_eq_none h] at hz; cases hz
  have hib : i * b ≤ 64 * 64 := Nat.mul_le_mul hi (by omega)
  have hm : wrap64 ((i : Int) * (b : Int)) = (i : Int) * (b : Int) := by
    rw [← Int.natCast_mul]; unfold wrap64; omega
  have hcell2 : ∀ o, (w.alloc o).cell? (ad.add k) = some (.complex .f64 z.1 z.2) := fun o => by
    rw [World.cell?_alloc_lt w o (ad.add k) (by rw [block_of_add]; omega)]; exact hcell
  have hsum : wrap64 ((i : Int) * (b : Int) + (j : Int)) = (k : Int) := by rw [hk, ← Int.natCast_mul]; unfold wrap64; omega
  have HK := Lib.hid hk
  clear hk hz hv hr hcell hi hc0 hc1 hib
  go_enter Try.func73, Try.ntmps73
  go_wp2
  go_ret; exact ⟨rfl, below_new _ _⟩
theorem rEnt_e (rows cols : Nat) (A : Option Addr) (l : List C) (cap i j : Nat) (W : World) (hl : l.length = rows * cols) (hr : rows ≤ 64) (hc : cols ≤ 64) (hi : i < rows) (hj : j < cols) (hrd : Reads W W.heap.size A (nums l)) :
    Calls Try.prog 73 #[mval rows cols (.slice A l.length cap), .int .i64 (i : Nat), .int .i64 (j : Nat)] W (RetV (.complex .f64 (l.getD (i * cols + j) (0, 0)).1 (l.getD (i * cols + j) (0, 0)).2) W) :=
  rEnt_c rows cols A l cap i j (i * cols + j) _ (by simp) (by omega) (by omega) (by omega) (at_ok hl hi hj) W.heap.size W (Nat.le_refl _) (by have := prod_small hr hc; omega) hrd
theorem rIs_c (r c : Int) (A : Option Addr) (n cap : Nat) (w : World) :
    Calls Try.prog 69 #[mval r c (.slice A n cap)] w (RetBB (okM r c n) w) := by
  have HC := Lib.hid (rCheck_c r c A n cap)
  cases ho : okM r c n
  · rw [ho] at HC
    go_enter Try.func69, Try.ntmps69
    go_wp2_with fail
    refine (HC.out _).mono ?_
    rintro e W1 ⟨rfl, hb⟩
    have HB := Lib.hid (frame0 hb).2.1
    clear hb
    go_wp2
    go_ret
    exact ⟨rfl, HB.out⟩
  · rw [ho] at HC
    go_enter Try.func69, Try.ntmps69
    go_wp2_with fail
    refine (HC.out _).mono ?_
    rintro e W1 ⟨rfl, hb⟩
    have HB := Lib.hid (frame0 hb).2.1
    clear hb
    go_wp2
    go_ret
    exact ⟨rfl, HB.out⟩
/- A call of one argument box: in the reference. -/
/-- A matrix of noughts is handed back. -/
def RetBl (r c : Int) (n : Nat) (w : World) (e : Ending) (w' : World) : Prop :=
  ∃ g, e = .returned (mval r c (.slice (some ⟨g, 0, none⟩) n n)) ∧ w'.heap[g]? = some (.cells (nums (List.replicate n (0, 0))).toArray 53) ∧ w.heap.size ≤ g ∧ Below w.heap.size w w'
theorem Blank_of (r c : Nat) (n : Nat) (hn : n ≤ 4096) (hm : wrap64 ((r : Int) * (c : Int)) = (n : Int)) (w : World) :
    Calls Try.prog 70 #[.int .i64 (r : Nat), .int .i64 (c : Nat)] w (RetBl r c n w) := by
  have hmk := run_make_row' (P := Try.prog) 25 53 (.complex .f64 0 0) 16 Try.underlying25 infoNum rfl .i64 .i64 n (by omega) (by omega)
  clear hn
  go_enter Try.func70, Try.ntmps70
  go_wp2
  refine bodyPost_ret (v := mval r c (.slice (some ⟨w.heap.size + 1, 0, none⟩) n n)) (by simp [results, Try.results70, go_sem]) rfl ?_
  refine ⟨w.heap.size + 1, rfl, ?_, by omega, ((Below.refl _ w).new (Nat.le_refl _) _).new (Nat.le_refl _) _⟩
  rw [← mk_nums]
  exact row_new2 _ _ _
theorem Blank_c (r c : Nat) (hr : r ≤ 64) (hc : c ≤ 64) (w : World) :
    Calls Try.prog 70 #[.int .i64 (r : Nat), .int .i64 (c : Nat)] w (RetBl r c (r * c) w) :=
  Blank_of r c (r * c) (prod_small hr hc) (by rw [← Int.natCast_mul]; exact wrap_small _ (prod_small hr hc)) w
/-- The first k places are laid. -/
def upto (E : Nat → C) (k q : Nat) : C := if q < k then E q else (0, 0)
section
variable {w wr V : World} {b bm g n k : Nat} {r c : Int} {F F' : Nat → C}
/-- A matrix is being filled: its row g, its box bm, the result's box b. -/
def FillW (w : World) (b bm g : Nat) (r c : Int) (n : Nat) (F : Nat → C) (wr : World) : Prop :=
  ∃ zs, zs.map cnC = (List.range n).map F ∧ ltCs zs ∧ wr.heap[g]? = some (.cells (nums zs).toArray 53) ∧
    wr.heap[bm]? = some (.cells #[.int .i64 r, .int .i64 c, .slice (some ⟨g, 0, none⟩) n n] 28) ∧
    wr.heap[b]? = some zrow ∧ Below w.heap.size w wr
theorem FillW.below (h : FillW w b bm g r c n F wr) (hb : Below wr.heap.size wr V) : FillW w b bm g r c n F V := by
  obtain ⟨zs, h1, h2, h3, h4, h5, h6⟩ := h
  exact ⟨zs, h1, h2, row_keep hb h3, row_keep hb h4, row_keep hb h5, h6.trans (hb.mono h6.size)⟩
theorem FillW.congr (h : FillW w b bm g r c n F wr) (hF : ∀ q, q < n → F' q = F q) : FillW w b bm g r c n F' wr := by
  obtain ⟨zs, h1, h2, h3⟩ := h
  exact ⟨zs, by rw [h1]; exact List.map_congr_left fun q hq => (hF q (List.mem_range.1 hq)).symm, h2, h3⟩
/-- What the walk reads. -/
theorem FillW.cells (h : FillW w b bm g r c n F wr) :
    wr.cell? ⟨bm, 0, none⟩ = some (.int .i64 r) ∧ wr.cell? ⟨bm, 1, none⟩ = some (.int .i64 c) ∧ wr.cell? ⟨bm, 2, none⟩ = some (.slice (some ⟨g, 0, none⟩) n n) := by
  obtain ⟨zs, h1, h2, h3, h4, h5, h6⟩ := h
  obtain ⟨x, y, z, -⟩ := box3 h4
  exact ⟨x, y, z⟩
theorem FillW.place (h : FillW w b bm g r c n F wr) (hk : k < n) : (∃ u, wr.cell? ⟨g, k, none⟩ = some u) ∧ wr.frozen? ⟨g, k, none⟩ = false := by
  obtain ⟨zs, h1, h2, h3, h4, h5, h6⟩ := h
  have hl : zs.length = n := by have := congrArg List.length h1; simpa using this
  refine ⟨?_, frozen_of_row wr g k _ _ h3⟩
  have hk' : k < (nums zs).toArray.size := by simp [nums]; omega
  rw [cell_of_row wr g k _ _ _ h3]
  exact ⟨_, Array.getElem?_eq_getElem hk'⟩
theorem FillW.set {z : C} (h : FillW w b bm g r c n F wr) (_hk : k < n) (hz : ltC z) (hF : ∀ q, q < n → F' q = if q = k then cnC z else F q) (h0 : w.heap.size ≤ g) (hb : b ≠ g) (hbm : bm ≠ g) :
    FillW w b bm g r c n F' (wr.setCell ⟨g, k, none⟩ (.complex .f64 z.1 z.2)) := by
  obtain ⟨zs, h1, h2, h3, h4, h5, h6⟩ := h
  have hl : zs.length = n := by have := congrArg List.length h1; simpa using this
  refine ⟨zs.set k z, ?_, ?_, ?_, ?_, ?_, h6.setCell h0 _⟩
  · apply List.ext_getElem
    · simp [hl]
    · intro q p1 p2
      have hq : q < n := by simpa using p2
      have h1q := congrArg (fun l : List C => l[q]?) h1
      simp only [List.getElem?_map, List.getElem?_range hq, Option.map_some] at h1q
      rw [List.getElem?_eq_getElem (by omega)] at h1q
      simp only [Option.map_some, Option.some.injEq] at h1q
      simp only [List.getElem_map, List.getElem_range, hF q hq, List.getElem_set]
      by_cases e : k = q
      · rw [if_pos e, if_pos e.symm]
      · rw [if_neg e, if_neg (fun h => e h.symm)]; exact h1q
  · intro y hy
    rcases List.mem_or_eq_of_mem_set hy with h | h
    · exact h2 y h
    · rw [h]; exact hz
  · rw [heap_setCell_same wr g k _ _ _ h3]
    congr 2
    simp [nums, List.map_set]
  · rw [heap_setCell_other _ _ bm _ hbm]; exact h4
  · rw [heap_setCell_other _ _ b _ hb]; exact h5
/-- It is handed back. -/
theorem FillW.close {er : Int} {W1 : World} (h : FillW w b bm g r c n F wr) (h0 : w.heap.size ≤ b) (hbg : b < g) (hW : W1 = put3 wr b (.int .i64 r) (.int .i64 c) (.slice (some ⟨g, 0, none⟩) n n)) (hn : n ≤ 4096) :
    RetMxE r c ((List.range n).map F) er w (.returned (.tuple #[mval r c (.slice (some ⟨g, 0, none⟩) n n), .int .i64 er])) W1 := by
  obtain ⟨zs, h1, h2, h3, h4, h5, h6⟩ := h
  subst hW
  have hl : zs.length = n := by have := congrArg List.length h1; simpa using this
  refine close_mx (W1 := wr) h1 h2 ?_ h6 h0
  refine ⟨by simp [nums, hl], .inr ⟨g, n, (nums zs).toArray, by simp, hbg, h3, by simp, by unfold maxLen; omega, by simp [nums, hl], ?_⟩⟩
  simp [nums]
  exact List.take_of_length_le (by simp [hl])
end
/-- A blank in its box is a matrix of which nothing is laid. -/
theorem FillW.start {w W1 : World} {b g n : Nat} {r c : Int} {F : Nat → C} (hg : W1.heap[g]? = some (.cells (nums (List.replicate n (0, 0))).toArray 53)) (hb : W1.heap[b]? = some zrow) (hB : Below w.heap.size w W1) (hF : ∀ q, q < n → F q = (0, 0)) :
    FillW w b W1.heap.size g r c n F (W1.alloc (.cells #[.int .i64 r, .int .i64 c, .slice (some ⟨g, 0, none⟩) n n] 28)) := by
  refine ⟨List.replicate n (0, 0), ?_, ?_, row_alloc hg, heap_alloc_new _ _, row_alloc hb, hB.new (Nat.le_refl _) _⟩
  · apply List.ext_getElem
    · simp
    · intro q p1 p2
      have hq : q < n := by simpa using p2
      simp only [List.getElem_map, List.getElem_replicate, List.getElem_range, hF q hq]
      decide
  · intro z hz
    rw [List.eq_of_mem_replicate hz]
    exact ⟨by decide, by decide⟩
end Go.Proofs.Ytajdfbjjgjpicaa
namespace Go.Proofs.Ytajdfbjjgjpicaa
open Go.RowKit Fl Ieee
set_option maxRecDepth 20000
attribute [local go_sem] run_store_float run_store_complex
/-- Ones are laid in the first k rows. -/
def idF (n k q : Nat) : C := if q / n < k then idE (q / n) (q % n) else (0, 0)
theorem idF_step {n k : Nat} (hk : k < n) (q : Nat) : idF n (k + 1) q = if q = k * n + k then (fone, 0) else idF n k q := by
  have hd := Nat.div_add_mod q n
  have hm : q % n < n := Nat.mod_lt _ (by omega)
  unfold idF idE
  by_cases h1 : q / n = k
  · rw [h1] at hd ⊢
    rw [if_pos (Nat.lt_succ_self k)]
    by_cases h2 : k = q % n
    · rw [if_pos h2, if_pos]
      rw [← h2, Nat.mul_comm] at hd; exact hd.symm
    · rw [if_neg h2, if_neg, if_neg (Nat.lt_irrefl k)]
      intro e; rw [Nat.mul_comm] at hd; omega
  · have h3 : q ≠ k * n + k := fun e => h1 (by
      subst e
      exact (Nat.div_eq_of_lt_le (by omega) (by rw [Nat.add_mul]; omega)))
    rw [if_neg h3]
    by_cases h4 : q / n < k
    · rw [if_pos (by omega), if_pos h4]
    · rw [if_neg (by omega), if_neg h4]
theorem idF_end {n q : Nat} (hq : q < n * n) : idF n n q = entry n idE q := by
  unfold idF entry
  rw [if_pos (Nat.div_lt_of_lt_mul hq)]
set_option maxHeartbeats 1000000 in
theorem rIdentity_of (n N : Nat) (w : World) (hn : n ≤ 64) (hN : n * n = N) :
    Calls Try.prog 37 #[.int .i64 (n : Nat)] w (RetMxE n n ((List.range N).map (idF n n)) 0 w) := by
  have hN4 : N ≤ 4096 := hN ▸ prod_small hn hn
  have HBl := Lib.hid (fun W => Blank_of n n N hN4 (by rw [← Int.natCast_mul, hN]; exact wrap_small _ hN4) W)
  have HRow := Lib.hid (heap_alloc_new w zrow)
  have HN := Lib.hid hN
  have HN4 := Lib.hid hN4
  clear hN hN4
  go_enter Try.func37, Try.ntmps37
  go_wp2_with fail
  refine (HBl.out _).mono ?_
  rintro e W1 ⟨g, rfl, hg, hgl, hb⟩
  have HG := Lib.hid (show w.heap.size < g by simp at hgl; omega)
  have HG2 := Lib.hid (row_lt hg)
  have HW := Lib.hid (FillW.start (F := idF n 0) (r := (n : Nat)) (c := (n : Nat)) hg (row_keep hb HRow.out) ((below_new w _).trans (hb.mono (by simp))) (fun q _ => by unfold idF; rw [if_neg (Nat.not_lt_zero _)]))
  clear hg hgl hb
  go_wp2
  go_loopw [5] (fun i wr => ∃ k : Nat, k ≤ n ∧ i = .int .i64 (k : Nat) ∧ FillW w w.heap.size W1.heap.size g n n N (idF n k) wr) (fun i _ => n - (intOf i).toNat)
  case atStart => exact ⟨0, Nat.zero_le _, rfl, HW.out⟩
  case round =>
    obtain ⟨k, hk, rfl, hf⟩ := hrel
    have HF := Lib.hid hf
    clear hf
    by_cases hlt : k < n
    · obtain ⟨q, hq⟩ : ∃ q, q = k * n := ⟨_, rfl⟩
      obtain ⟨p, hp⟩ : ∃ p, p = q + k := ⟨_, rfl⟩
      have hpN : p < N := by
        have h1 : (k + 1) * n ≤ n * n := Nat.mul_le_mul_right _ (by omega)
        rw [HN.out, Nat.add_mul] at h1; omega
      have hm : wrap64 ((k : Int) * (n : Int)) = (q : Int) := by rw [hq, ← Int.natCast_mul]; exact wrap_small _ (prod_small (by omega) hn)
      have hs : wrap64 ((q : Int) + (k : Int)) = (p : Int) := by rw [hp, ← Int.natCast_add]; exact wrap_small _ (by have := HN4.out; omega)
      have hpi : (p : Int) < (N : Int) := Int.ofNat_lt.2 hpN
      obtain ⟨x, y, z⟩ := HF.out.cells
      obtain ⟨⟨u, hu⟩, hfz⟩ := HF.out.place hpN
      have HP := Lib.hid (And.intro hq (And.intro hp hpN))
      clear hq hp hpN
      go_wp2
      go_roundw
      case rel =>
        refine ⟨k + 1, hlt, by go_num, ?_⟩
        exact HF.out.set (z := (fone, 0)) HP.out.2.2 ⟨by decide, by decide⟩ (fun q' hq' => by rw [idF_step hlt, HP.out.2.1, HP.out.1]; rfl) (Nat.le_of_lt HG.out) (Nat.ne_of_lt HG.out) (Nat.ne_of_gt HG2.out)
      case measure => simp [intOf]; omega
    · have e : k = n := by omega
      subst e
      obtain ⟨x, y, z⟩ := HF.out.cells
      have HR2 : wr.heap[w.heap.size]? = some zrow := by obtain ⟨zs, _, _, _, _, h5, _⟩ := HF.out; exact h5
      obtain ⟨r0, r1, r2, fr⟩ := box3 HR2
      have f0 := fr 0
      have f1 := fr 1
      have f2 := fr 2
      clear fr
      go_wp2
      obtain ⟨q0, q1, q2⟩ := set3 (u := .int .i64 (k : Nat)) (v := .int .i64 (k : Nat)) (t := .slice (some ⟨g, 0, none⟩) N N) r0 r1 r2
      refine bodyPost_ret (v := .tuple #[mval k k (.slice (some ⟨g, 0, none⟩) N N), .int .i64 0]) (by simp [results, Try.results37, go_sem, q0, q1, q2]) rfl ?_
      exact HF.out.close (Nat.le_refl _) HG.out rfl HN4.out
theorem rIdentity_c (n : Nat) (w : World) (hn : n ≤ 64) : Calls Try.prog 37 #[.int .i64 (n : Nat)] w (RetMxE n n (entries n idE (n * n)) 0 w) := by
  have h := rIdentity_of n (n * n) w hn rfl
  rwa [show (List.range (n * n)).map (idF n n) = entries n idE (n * n) from List.map_congr_left fun q hq => idF_end (List.mem_range.1 hq)] at h
end Go.Proofs.Ytajdfbjjgjpicaa
namespace Go.Proofs.Ytajdfbjjgjpicaa
open Go.RowKit Fl Ieee
set_option maxRecDepth 20000
attribute [local go_sem] run_store_float run_store_complex
theorem rNorm1_no (r c : Int) (A : Option Addr) (n cap : Nat) (w : World) (h : okM r c n = false) :
    Calls Try.prog 75 #[mval r c (.slice A n cap)] w (RetFE 0 4 w) := by
  have HC := Lib.hid (rIs_c r c A n cap)
  rw [h] at HC
  go_enter Try.func75, Try.ntmps75
  go_wp2_with fail
  refine (HC.out _).mono ?_
  rintro e W1 ⟨rfl, hb⟩
  obtain ⟨hbx, hb0, hs1⟩ := frame0 hb
  have HB := Lib.hid hb0
  clear hb hb0 hs1 hbx h
  go_wp2
  go_ret2
  exact ⟨retFE rfl rfl, HB.out⟩
set_option maxHeartbeats 2000000 in
theorem rNorm1_c (rows cols : Nat) (A : Option Addr) (l : List C) (cap : Nat) (w : World) (hr : rows ≤ 64) (hc : cols ≤ 64) (hl : l.length = rows * cols) (hrd : Reads w w.heap.size A (nums l)) (hlt : ltCs l) :
    Calls Try.prog 75 #[mval rows cols (.slice A l.length cap)] w (RetFE (norm1 l rows cols) 0 w) := by
  obtain ⟨i0, hi, hz0, hz1, hz2⟩ := info_parts infoReal7
  have HC := Lib.hid (rIs_c rows cols A l.length cap)
  have ho : okM rows cols l.length = true := okM_iff.2 ⟨by omega, by omega, by omega, by omega, by rw [hl, Int.natCast_mul]⟩
  rw [ho] at HC
  have HRd := Lib.hid hrd
  have HLen := Lib.hid hl
  have HLt := Lib.hid hlt
  clear hrd hl ho hlt
  go_enter Try.func75, Try.ntmps75
  go_wp2_with fail
  refine (HC.out _).mono ?_
  rintro e W1 ⟨rfl, hb⟩
  obtain ⟨hbx, hb0, hs1⟩ := frame0 hb
  have HBX := Lib.hid hbx
  obtain ⟨b0, b1, b2⟩ := hbx
  have HB := Lib.hid hb0
  have HS := Lib.hid hs1
  clear hb hb0 hs1
  go_wp2
  go_loopw [4, 5] (fun s i wr => NormR l rows cols (w.heap.size + 1) W1 s i wr) (fun _ i _ => cols - (intOf i).toNat)
  case atStart => exact ⟨0, [], Nat.zero_le _, rfl, rfl, World.ownsRow_nil _ _ _ _, Below.refl _ _⟩
  case round =>
    rename World => w0
    obtain ⟨k, ys, hk, rfl, hz, hown, hbel⟩ := hrel
    have HZ := Lib.hid hz
    have HO := Lib.hid hown
    have HBe := Lib.hid hbel
    have hyl : ys.length = k := by have := congrArg List.length hz; simpa [colSums] using this
    obtain ⟨c0, c1, c2⟩ := Box.below (W := W1) HBX.out hbel (Nat.lt_succ_self _)
    clear hz hown hbel b0 b1 b2
    by_cases hlt : k < cols
    · go_wp2
      go_loopw [6, 7] (fun s i wv => SumR l rows cols k w0 s i wv) (fun _ i _ => rows - (intOf i).toNat)
      case atStart => exact ⟨0, 0, Nat.zero_le _, rfl, rfl, (by decide : cn .f64 0 = 0), by omega, Below.refl _ _⟩
      case round =>
        rename World => wv
        obtain ⟨n, x, hn, rfl, rfl, hz, hlx, hbv⟩ := hrel
        have HZ2 := Lib.hid hz
        have HBv := Lib.hid hbv
        clear hz hbv
        have hBb : w.heap.size + 1 ≤ W1.heap.size := HS.out
        have hWr : Below (w.heap.size + 1) W1 wv := HBe.out.trans (HBv.out.mono (Nat.le_trans hBb HBe.out.size))
        by_cases hlt2 : n < rows
        · have h0 : Below w.heap.size w wv := HB.out.trans (hWr.mono (Nat.le_succ _))
          obtain ⟨d0, d1, d2⟩ := Box.below (W := W1) HBX.out hWr (Nat.lt_succ_self _)
          have HAt := Lib.hid (rEnt_e rows cols A l cap n k wv HLen.out hr hc hlt2 hlt ((HRd.out.below h0).more h0.size))
          have hz := ltCs_at HLt.out HLen.out hlt2 hlt
          have HM := Lib.hid (fun (V : World) => rSize1_c (l.getD (n * cols + k) (0, 0)).1 (l.getD (n * cols + k) (0, 0)).2 hz.1 hz.2 V)
          have HWr := Lib.hid hWr
          clear h0 hWr hBb hz c0 c1 c2
          go_wp2_with fail
          refine HAt.out.mono ?_
          rintro e V1 ⟨rfl, hV1⟩
          go_wp2_with fail
          refine (HM.out V1).mono ?_
          rintro e V2 ⟨y, m, rfl, hy, hly, rfl⟩
          have HY := Lib.hid hy
          have HV1 := Lib.hid hV1
          clear hy hV1
          go_wp2_with fail
          refine upon_add _ _ _ _ ?_
          intro r1 n1 h1
          have hs : cn .f64 r1 = colSum l cols k (n + 1) := by
            rw [h1.1]
            show _ = fadd (colSum l cols k n) (pSize1 (ent l cols n k))
            rw [HZ2.out, HY.out]
            rfl
          have HSS := Lib.hid hs
          have hl1 := h1.2
          have HV3 := Lib.hid (HBv.out.trans ((below_drewN HV1.out (m + n1)).mono HBv.out.size))
          clear hs h1
          go_wp2
          go_roundw
          case rel => exact ⟨n + 1, r1, hlt2, by go_num, rfl, HSS.out, hl1, HV3.out⟩
          case measure => simp [intOf]; omega
        · have e : n = rows := by omega
          subst e
          obtain ⟨d0, d1, d2⟩ := Box.below (W := W1) HBX.out hWr (Nat.lt_succ_self _)
          have hsz : w.heap.size + 1 ≤ w0.heap.size := Nat.le_trans hBb HBe.out.size
          have hOv := own_below HO.out HBv.out
          have hsz2 : w.heap.size + 1 ≤ (wv.alloc (.cells #[.float .f64 x] 31)).heap.size := Nat.le_trans hsz (Nat.le_trans HBv.out.size (below_new wv _).size)
          have HOv := Lib.hid (hOv.alloc (.cells #[.float .f64 x] 31))
          have HSz := Lib.hid hsz2
          have HWr := Lib.hid hWr
          clear hOv hsz hsz2 hWr hBb c0 c1 c2
          go_wp2_with (at_builtin; refine wpList_append_own _ rfl (.tmp 32) (.tmp 34) 90 rfl (w.heap.size + 1) 31 i0 (.float .f64 0) 1 8 Try.underlying90 hi hz0 hz1 hz2 rfl (by decide) _ _ _ rfl HOv.out ⟨wv.heap.size, 0, none⟩ 1 1 [.float .f64 x] rfl rfl (cell_one_new _ _ _) (by intro u hu; simp at hu; subst hu; rfl) (by unfold maxLen; omega) (by omega) HSz.out ?_; intro v' w1 hown1 hgrow1 hnil1)
          clear hnil1
          have hrel1 : NormR l n cols (w.heap.size + 1) W1 v' (.int .i64 ((k + 1 : Nat) : Int)) w1 := by
            refine ⟨k + 1, ys ++ [x], hlt, rfl, ?_, ?_, ?_⟩
            · rw [List.map_append, HZ.out, colSums_succ, List.map_cons, List.map_nil, HZ2.out]
            · have e : reals (ys ++ [x]) = reals ys ++ [.float .f64 x] := by simp [reals]
              rw [e]; exact hown1
            · exact (HWr.out.new HS.out _).grown hgrow1 HSz.out (fun j hj => (HOv.out.lt j hj).1)
          have HRel := Lib.hid hrel1
          clear hrel1 hown1 hgrow1
          go_wp2
          go_roundw
          case rel =>
            have h := HRel.out
            simpa using h
          case measure => simp [intOf]; omega
    · have e : k = cols := by omega
      subst e
      obtain ⟨sA, sn, sc, rfl, rfl⟩ := slice_of_own HO.out
      have hg := RGreatest_c sA ys sc w0 (by rw [hyl]; omega) (Reads.of_own HO.out)
      rw [hyl] at hg
      have HG := Lib.hid hg
      have HV := Lib.hid (show (great ys sn).2 = norm1 l rows sn by unfold norm1; rw [← HZ.out, great_cn])
      clear hg
      go_wp2_with fail
      refine HG.out.mono ?_
      rintro e V ⟨m9, rfl, rfl⟩
      go_wp2
      go_ret2
      exact ⟨retFE HV.out rfl, below_drewN (HB.out.trans (HBe.out.mono (Nat.le_succ _))) m9⟩
end Go.Proofs.Ytajdfbjjgjpicaa
