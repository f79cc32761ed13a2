/- Layer 12: a column of the inverse. -/
import Derived.Test.YtajdfbjjgjpicaaSV0
import Derived.Test.YtajdfbjjgjpicaaLW3
import Derived.Test.YtajdfbjjgjpicaaMX1
import Derived.Deep.DeepCutAuto
import Derived.BigRegion
namespace Go.Proofs.Ytajdfbjjgjpicaa
open Go.RowKit Fl Ieee
set_option maxRecDepth 20000
attribute [local go_sem] run_store_float run_store_complex
/-- The right side of column j. -/
def eCol (n j : Nat) : List C := (List.range n).map fun i => if i = j then (fone, 0) else (0, 0)
theorem eCol_len (n j : Nat) : (eCol n j).length = n := by simp [eCol]
theorem eCol_mem {n j : Nat} {z : C} (h : z ∈ eCol n j) : z = (fone, 0) ∨ z = (0, 0) := by
  unfold eCol at h
  obtain ⟨i, _, rfl⟩ := List.mem_map.1 h
  split
  · exact .inl rfl
  · exact .inr rfl
theorem eCol_fin (n j : Nat) : ∀ z ∈ eCol n j, pFinite z = true := fun z hz => by
  rcases eCol_mem hz with rfl | rfl <;> decide +kernel
theorem eCol_lt (n j : Nat) : ltCs (eCol n j) := fun z hz => by
  rcases eCol_mem hz with rfl | rfl <;> exact ⟨by decide, by decide⟩
def colOk (n : Nat) (S : El) (j : Nat) : Bool := solOk n S (eCol n j)
def colI (n : Nat) (S : El) (j : Nat) : List C := solL n S (eCol n j)
theorem eCol_row {W : World} {n : Nat} : (W.alloc (.cells (madeCells #[.complex .f64 0 0] n) 53)).heap[W.heap.size]? = some (.cells (nums (List.replicate n (0, 0))).toArray 53) := by
  rw [mk_nums]; exact heap_alloc_new _ _
theorem eCol_set {n j : Nat} : (madeCells #[.complex .f64 0 0] n).setIfInBounds j (.complex .f64 4607182418800017408 0) = (nums (eCol n j)).toArray := by
  rw [mk_nums]
  have h1 : (nums (List.replicate n (0, 0))).toArray.setIfInBounds j (.complex .f64 4607182418800017408 0) = ((nums (List.replicate n (0, 0))).set j (.complex .f64 fone 0)).toArray := by rw [List.setIfInBounds_toArray]; rfl
  rw [h1, nums_setl _ j (fone, 0)]
  congr 2
  apply List.ext_getElem
  · simp [eCol]
  · intro q p1 p2
    rw [List.getElem_set]
    simp only [eCol, List.getElem_map, List.getElem_range, List.getElem_replicate]
    by_cases e : j = q
    · rw [if_pos e, if_pos e.symm]
    · rw [if_neg e, if_neg (fun h => e h.symm)]
set_option maxHeartbeats 2000000 in
theorem column_c {B b n nb lb : Nat} {S : El} (j : Nat) (w : World) (h : Has9 w B b n S) (hf : finTo S.E n) (hp : Perm n S.o) (hn : n ≤ 64) (hj : j < n) (h1 : w.cell? ⟨nb, 0, none⟩ = some (.int .i64 (n : Nat))) (h2 : w.cell? ⟨lb, 0, none⟩ = some (.pointer (some ⟨b, 0, none⟩))) (hlb : lb < w.heap.size) :
    Calls Try.prog 49 #[.int .i64 (j : Nat), .pointer (some ⟨nb, 0, none⟩), .pointer (some ⟨lb, 0, none⟩)] w (RetSol (if colOk n S j then 0 else 6) (if colOk n S j then colI n S j else []) w) := by
  have hmk := run_make_row' (P := Try.prog) 25 53 (.complex .f64 0 0) 16 Try.underlying25 infoNum rfl .i64 .i64 n (by omega) (by omega)
  have hji : (j : Int) < (n : Int) := Int.ofNat_lt.2 hj
  obtain ⟨u, hu⟩ : ∃ u, (w.alloc (.cells (madeCells #[.complex .f64 0 0] n) 53)).cell? ⟨w.heap.size, j, none⟩ = some u := by
    rw [cell_of_row _ w.heap.size j _ _ _ eCol_row]
    exact ⟨_, Array.getElem?_eq_getElem (by simp [nums]; exact hj)⟩
  have hfr : (w.alloc (.cells (madeCells #[.complex .f64 0 0] n) 53)).frozen? ⟨w.heap.size, j, none⟩ = false := frozen_of_row _ w.heap.size j _ _ eCol_row
  have hbw := below_new w (.cells ((madeCells #[.complex .f64 0 0] n).setIfInBounds j (.complex .f64 4607182418800017408 0)) 53)
  have hl2 : ∀ o, (w.alloc o).cell? ⟨lb, 0, none⟩ = some (.pointer (some ⟨b, 0, none⟩)) := fun o => ((below_new w o).cell (p := ⟨lb, 0, none⟩) hlb).trans h2
  have hrow := heap_alloc_new w (.cells ((madeCells #[.complex .f64 0 0] n).setIfInBounds j (.complex .f64 4607182418800017408 0)) 53)
  rw [eCol_set] at hrow hbw
  have hrd : Reads (w.alloc (.cells (nums (eCol n j)).toArray 53)) (w.alloc (.cells (nums (eCol n j)).toArray 53)).heap.size (some ⟨w.heap.size, 0, none⟩) (nums (eCol n j)) :=
    (Reads.new w 53 (nums (eCol n j))).more (by simp)
  have HSl := Lib.hid (Solve_run (some ⟨w.heap.size, 0, none⟩) (eCol n j) n _ (h.below hbw) hf hp hn (eCol_len n j) (eCol_fin n j) (eCol_lt n j) hrd)
  rw [← eCol_set] at HSl hbw
  clear hrow
  rw [eCol_len] at HSl
  have HBw := Lib.hid hbw
  clear h hf hp hn hbw hrd h2
  obtain ⟨er, her⟩ : ∃ er : Int, er = if colOk n S j then 0 else 6 := ⟨_, rfl⟩
  obtain ⟨rs, hrs⟩ : ∃ rs : List C, rs = if colOk n S j then colI n S j else [] := ⟨_, rfl⟩
  rw [show (if solOk n S (eCol n j) = true then (0 : Int) else 6) = er from her.symm, show (if solOk n S (eCol n j) = true then solL n S (eCol n j) else []) = rs from hrs.symm] at HSl
  rw [← her, ← hrs]
  clear her hrs
  go_enter Try.func49, Try.ntmps49
  go_wp2_with fail
  refine HSl.out.mono ?_
  rintro e W1 ⟨s, rfl, hown, hb⟩
  have HO := Lib.hid (own_base hown HBw.out.size)
  have HB := Lib.hid (HBw.out.trans (hb.mono HBw.out.size))
  clear hown hb
  go_wp2
  go_ret2
  exact ⟨_, rfl, HO.out, HB.out⟩
end Go.Proofs.Ytajdfbjjgjpicaa
namespace Go.Proofs.Ytajdfbjjgjpicaa
open Go.RowKit Fl Ieee
set_option maxRecDepth 20000
attribute [local go_sem] run_store_float run_store_complex
/-- The first column that is not told. -/
def invJ (n : Nat) (S : El) : Nat := (List.range n).findIdx fun j => !colOk n S j
def ofI (r c : Int) (l : List C) : Int × Int :=
  if (ofF r c l).1 = 0 then (if invJ r.toNat (ofS r l) < r.toNat then (6, (invJ r.toNat (ofS r l) : Int)) else (0, 0)) else ofF r c l
/-- The inverse's numbers. -/
def invE (n : Nat) (S : El) (i j : Nat) : C := solX (lowE S) (uppE S) S.o (bOf (eCol n j)) n i
theorem invJ_le {n : Nat} {S : El} : invJ n S ≤ n := by have := List.findIdx_le_length (xs := List.range n) (p := fun j => !colOk n S j); simpa [invJ] using this
theorem invJ_of {n k : Nat} {S : El} (hk : k < n) (ha : ∀ j, j < k → colOk n S j = true) (hb : colOk n S k = false) : invJ n S = k := by
  refine (List.findIdx_eq (by simpa using hk)).2 ⟨by simp [hb], fun j hj => ?_⟩
  simp [ha j hj]
theorem invJ_all {n : Nat} {S : El} (ha : ∀ j, j < n → colOk n S j = true) : ¬ invJ n S < n := fun h => by
  have h1 := List.findIdx_getElem (xs := List.range n) (p := fun j => !colOk n S j) (w := by simpa [invJ] using h)
  simp only [List.getElem_range, Bool.not_eq_true'] at h1
  have h2 := ha (invJ n S) h
  unfold invJ at h2
  rw [h2] at h1; cases h1
theorem colOk_of {n j : Nat} {S : El} (hj : j < n) (h : ¬ invJ n S < n) : colOk n S j = true := by
  cases hf : colOk n S j with
  | true => rfl
  | false =>
    have := List.findIdx_lt_length_of_exists (xs := List.range n) (p := fun j => !colOk n S j) ⟨j, List.mem_range.2 hj, by simp [hf]⟩
    exact absurd (by simpa [invJ] using this) h
/-- What is told of an inverse. -/
def RetI (f : Int × Int) (n : Nat) (E : Nat → Nat → C) (w : World) (e : Ending) (w' : World) : Prop :=
  Below w.heap.size w w' ∧ (f.1 = 0 → ∃ s, e = .returned (.tuple #[mval n n s, .agg #[.int .i64 0, .int .i64 0]]) ∧ w'.ownsRow w.heap.size 53 1 s (n * n) (nums (entries n E (n * n)))) ∧
    (f.1 ≠ 0 → e = .returned (.tuple #[mval 0 0 (.slice none 0 0), .agg #[.int .i64 f.1, .int .i64 f.2]]))
theorem set32 {w : World} {r f : Nat} {x0 x1 x2 y0 y1 u v s p q : Value} {T T' : TypeId} (hr : w.heap[r]? = some (.cells #[x0, x1, x2] T)) (hf : w.heap[f]? = some (.cells #[y0, y1] T')) (hne : r ≠ f) :
    ((put3 w r u v s).setCell ⟨f, 0, none⟩ p |>.setCell ⟨f, 1, none⟩ q).heap[r]? = some (.cells #[u, v, s] T) ∧ ((put3 w r u v s).setCell ⟨f, 0, none⟩ p |>.setCell ⟨f, 1, none⟩ q).heap[f]? = some (.cells #[p, q] T') := by
  obtain ⟨h1, h2, -⟩ := put3_row (u := u) (v := v) (s := s) hr
  have h3 := (h2 f (Ne.symm hne)).trans hf
  have h4 := heap_setCell_same _ f 0 _ _ p h3
  have h5 := heap_setCell_same _ f 1 _ _ q h4
  refine ⟨?_, by rw [h5]; rfl⟩
  rw [Below.heap_setCell _ _ _ _ hne, Below.heap_setCell _ _ _ _ hne]; exact h1
theorem set23 {w : World} {r f : Nat} {x0 x1 x2 y0 y1 u v s p q : Value} {T T' : TypeId} (hr : w.heap[r]? = some (.cells #[x0, x1, x2] T)) (hf : w.heap[f]? = some (.cells #[y0, y1] T')) (hne : r ≠ f) :
    (put3 ((w.setCell ⟨f, 0, none⟩ p).setCell ⟨f, 1, none⟩ q) r u v s).heap[r]? = some (.cells #[u, v, s] T) ∧ (put3 ((w.setCell ⟨f, 0, none⟩ p).setCell ⟨f, 1, none⟩ q) r u v s).heap[f]? = some (.cells #[p, q] T') := by
  have h4 := heap_setCell_same w f 0 _ _ p hf
  have h5 := heap_setCell_same _ f 1 _ _ q h4
  have hr' : ((w.setCell ⟨f, 0, none⟩ p).setCell ⟨f, 1, none⟩ q).heap[r]? = some (.cells #[x0, x1, x2] T) := by
    rw [Below.heap_setCell _ _ _ _ hne, Below.heap_setCell _ _ _ _ hne]; exact hr
  obtain ⟨h1, h2, -⟩ := put3_row (u := u) (v := v) (s := s) hr'
  exact ⟨h1, by rw [h2 f (Ne.symm hne), h5]; rfl⟩
/-- The result's five cells, in either order's world. -/
theorem put32 {w : World} {r f : Nat} {x0 x1 x2 y0 y1 u v s p q : Value} {T T' : TypeId} (hr : w.heap[r]? = some (.cells #[x0, x1, x2] T)) (hf : w.heap[f]? = some (.cells #[y0, y1] T')) (hne : r ≠ f) :
    ((put3 w r u v s).setCell ⟨f, 0, none⟩ p |>.setCell ⟨f, 1, none⟩ q).drew.cell? ⟨r, 0, none⟩ = some u ∧ ((put3 w r u v s).setCell ⟨f, 0, none⟩ p |>.setCell ⟨f, 1, none⟩ q).drew.cell? ⟨r, 1, none⟩ = some v ∧ ((put3 w r u v s).setCell ⟨f, 0, none⟩ p |>.setCell ⟨f, 1, none⟩ q).drew.cell? ⟨r, 2, none⟩ = some s ∧
      ((put3 w r u v s).setCell ⟨f, 0, none⟩ p |>.setCell ⟨f, 1, none⟩ q).drew.cell? ⟨f, 0, none⟩ = some p ∧ ((put3 w r u v s).setCell ⟨f, 0, none⟩ p |>.setCell ⟨f, 1, none⟩ q).drew.cell? ⟨f, 1, none⟩ = some q := by
  obtain ⟨h1, h2⟩ := set32 (u := u) (v := v) (s := s) (p := p) (q := q) hr hf hne
  generalize (((put3 w r u v s).setCell ⟨f, 0, none⟩ p).setCell ⟨f, 1, none⟩ q) = X at h1 h2 ⊢
  obtain ⟨a, b, c, -⟩ := box3 (show X.drew.heap[r]? = _ from h1)
  obtain ⟨d, e, -⟩ := row2 (show X.drew.heap[f]? = _ from h2)
  exact ⟨a, b, c, d, e⟩
theorem inv_enters (args : Array Value) (W : World) : (callFunc 49 args).run Try.prog W = .ok (.enter 49 args) W :=
  enters_of Try.func49 (by kernel_rfl) rfl args W
/-- What stands ahead of the call of lower.Of. -/
theorem frameI (w : World) (r c : Int) (s : Value) : ∃ W, W = ((w.alloc (.cells #[.int .i64 r, .int .i64 c, s] 28)).alloc zrow).alloc (.cells #[.int .i64 0, .int .i64 0] 43) ∧
    W.heap[w.heap.size]? = some (.cells #[.int .i64 r, .int .i64 c, s] 28) ∧ W.heap[w.heap.size + 1]? = some zrow ∧ W.heap[w.heap.size + 2]? = some (.cells #[.int .i64 0, .int .i64 0] 43) ∧ Below w.heap.size w W ∧ W.heap.size = w.heap.size + 3 := by
  refine ⟨_, rfl, row_alloc (row_alloc (heap_alloc_new w _)), row_alloc (row_new2 w _ _), ?_, ((below_new w _).new (Nat.le_refl _) _).new (Nat.le_refl _) _, by simp⟩
  have e : w.heap.size + 2 = ((w.alloc (.cells #[.int .i64 r, .int .i64 c, s] 28)).alloc zrow).heap.size := by simp
  rw [e]; exact heap_alloc_new _ _
set_option maxHeartbeats 4000000 in
theorem inv_bad (r c : Int) (A : Option Addr) (l : List C) (cap : Nat) (w : World) (hcap : l.length ≤ cap) (hrd : Reads w w.heap.size A (nums l)) (hlt : ltCs l) (hF : (ofF r c l).1 ≠ 0) (n : Nat) (E : Nat → Nat → C) :
    Calls Try.prog 18 #[mval r c (.slice A l.length cap)] w (RetI (ofF r c l) n E w) := by
  obtain ⟨Wf, hWf, hm, hr, hff, hbw, hsz⟩ := frameI w r c (.slice A l.length cap)
  obtain ⟨f1, f2, hf⟩ : ∃ f1 f2, ofF r c l = (f1, f2) := ⟨_, _, rfl⟩
  have HOf := Lib.hid (show Calls Try.prog 47 #[mval r c (.slice A l.length cap)] Wf fun e w' => e = .returned (.tuple #[.pointer none, .agg #[.int .i64 f1, .int .i64 f2]]) ∧ Below Wf.heap.size Wf w' from
    (Of_c r c A l cap Wf hcap ((hrd.below hbw).more hbw.size) hlt).mono fun e w' h => by
      have h' := h.bad hF
      rw [hf] at h'; exact h')
  rw [hf] at hF ⊢
  have hne : (f1 == 0) = false := by simpa using hF
  have HR := Lib.hid hr
  have HFf := Lib.hid hff
  have HBw := Lib.hid hbw
  have HSz := Lib.hid hsz
  have HF0 := Lib.hid (show f1 ≠ 0 from hF)
  rw [hWf] at HOf
  have HWf := Lib.hid hWf
  clear hcap hrd hlt hF hm hr hff hbw hsz hf hWf
  go_enter Try.func18, Try.ntmps18
  go_wp2_with fail
  refine HOf.out.mono ?_
  rintro e W1 ⟨rfl, hb⟩
  rw [← HWf.out] at hb
  have hb2 := (hb.trans ((below_new W1 (.cells #[.pointer none] 75)).mono hb.size)).trans ((below_new (W1.alloc (.cells #[.pointer none] 75)) (.cells #[.int .i64 f1, .int .i64 f2] 43)).mono (Nat.le_trans hb.size (below_new W1 _).size))
  have hr1 := row_keep hb2 HR.out
  have hf1 := row_keep hb2 HFf.out
  have HR1 := Lib.hid hr1
  have HF1 := Lib.hid hf1
  have HB1 := Lib.hid (HBw.out.trans (hb2.mono HBw.out.size))
  obtain ⟨c0, c1, c2, fr⟩ := box3 hr1
  obtain ⟨d0, d1, fd⟩ := row2 hf1
  have f0 := fr 0
  have f1' := fr 1
  have f2' := fr 2
  have g0 := fd 0
  have g1 := fd 1
  obtain ⟨e0, e1, fe⟩ := row2 (heap_alloc_new (W1.alloc (.cells #[.pointer none] 75)) (.cells #[.int .i64 f1, .int .i64 f2] 43))
  have hz : (W1.alloc (.cells #[.pointer none] 75)).heap.size = W1.heap.size + 1 := by simp
  rw [hz] at e0 e1 fe
  have hlt := hb.size
  rw [HSz.out] at hlt
  have n0 : W1.heap.size ≠ w.heap.size := by omega
  have n1 : w.heap.size ≠ W1.heap.size := by omega
  have n2 : W1.heap.size + 1 ≠ w.heap.size + 2 := by omega
  have n3 : w.heap.size + 2 ≠ W1.heap.size + 1 := by omega
  clear hb hb2 hr1 hf1 fr fd hlt
  go_wp2
  go_region
  all_goals go_wp2
  all_goals
    obtain ⟨q0, q1, q2, q3, q4⟩ := put32 (u := .int .i64 0) (v := .int .i64 0) (s := .slice none 0 0) (p := .int .i64 f1) (q := .int .i64 f2) HR1.out HF1.out (by omega)
    refine bodyPost_ret (v := .tuple #[mval 0 0 (.slice none 0 0), .agg #[.int .i64 f1, .int .i64 f2]]) (by simp [results, Try.results18, go_sem, q0, q1, q2, q3, q4]) rfl ?_
    exact ⟨(((((HB1.out.setCell (Nat.le_succ _) _).setCell (Nat.le_succ _) _).setCell (Nat.le_succ _) _).setCell (by show w.heap.size ≤ w.heap.size + 1 + 1; omega) _).setCell (by show w.heap.size ≤ w.heap.size + 1 + 1; omega) _).drew, fun h => absurd h HF0.out, fun _ => rfl⟩
end Go.Proofs.Ytajdfbjjgjpicaa
namespace Go.Proofs.Ytajdfbjjgjpicaa
open Go.RowKit Fl Ieee
set_option maxRecDepth 20000
theorem mr_real {x : Nat} (hx : x < 18446744073709551616) : Mr (x, 0) (x, 0) := ⟨⟨.inl rfl,   .inr ⟨show rung double 0 = 0 by decide, show rung double (fneg 0) = 0 by decide +kernel⟩⟩, ⟨hx, by show (0 : Nat) < _; decide⟩, ⟨hx, by show (0 : Nat) < _; decide⟩⟩
theorem eCol_mr (n j k : Nat) : Mr (bOf (eCol n j) k) (bOf (eCol n j) k) := by
  unfold bOf
  rw [List.getD_eq_getElem?_getD]
  cases h : (eCol n j)[k]? with
  | none => exact mr_real (by decide)
  | some z =>
    rcases eCol_mem (List.mem_of_getElem? h) with e | e
    · subst e; exact mr_real (by decide)
    · subst e; exact mr_real (by decide)
theorem lowMr {n : Nat} {S S' : El} (h : Mirr n S S') (i j : Nat) (hi : i < n) (hj : j < n) : Mr (lowE S i j) (lowE S' i j) := by
  unfold lowE
  by_cases e : i = j
  · rw [if_pos e, if_pos e]; exact mr_real (by decide)
  · rw [if_neg e, if_neg e]
    by_cases e2 : j < i
    · rw [if_pos e2, if_pos e2]; exact h.mir i j hi hj
    · rw [if_neg e2, if_neg e2]; exact mr_real (by decide)
theorem uppMr {n : Nat} {S S' : El} (h : Mirr n S S') (i j : Nat) (hi : i < n) (hj : j < n) : Mr (uppE S i j) (uppE S' i j) := by
  unfold uppE
  by_cases e2 : j < i
  · rw [if_pos e2, if_pos e2]; exact mr_real (by decide)
  · rw [if_neg e2, if_neg e2]; exact h.mir i j hi hj
/-- The inverse of the conjugate. -/
theorem inv_mir {l : List C} {n : Nat} (hn : n ≤ 64) (hl : l.length = n * n) (h : ltCs l) (hF : (ofF n n l).1 = 0) :
    (∀ i j, i < n → j < n → Mr (invE n (ofS n l) i j) (invE n (ofS n (conjB l)) i j)) ∧ ∀ j, colOk n (ofS n (conjB l)) j = colOk n (ofS n l) j := by
  have ht : Mirr n (ofS n l) (ofS n (conjB l)) := (of_mirror hn hl h).2 hF
  obtain ⟨hfin, -, h0⟩ := of_fin hn hl hF
  have hd : ∀ i, i < n → pFinite (uppE (ofS n l) i i) = true ∧ pZero (uppE (ofS n l) i i) = false := fun i hi => by
    have e : uppE (ofS n l) i i = (ofS n l).E i i := by unfold uppE; rw [if_neg (Nat.lt_irrefl _)]
    rw [e]
    exact ⟨ht.fin i i hi hi, run_diag (S := S0 l n) (matE_fin hl hfin) n (Nat.le_refl _) h0 i hi⟩
  have hs := fun j => sol_mir (o := (ofS n l).o) (b := bOf (eCol n j)) (b' := bOf (eCol n j)) (lowMr ht) (uppMr ht) hd (fun i _ => eCol_mr n j _)
  constructor
  · intro i j hi hj
    have h1 := (hs j).1 i hi
    unfold invE
    rw [ht.o]; exact h1
  · intro j
    have h1 := (hs j).2
    unfold colOk solOk
    rw [ht.o]; exact h1
theorem invJ_mir {l : List C} {n : Nat} (hn : n ≤ 64) (hl : l.length = n * n) (h : ltCs l) (hF : (ofF n n l).1 = 0) : invJ n (ofS n (conjB l)) = invJ n (ofS n l) := by
  unfold invJ
  congr 1
  funext j
  rw [(inv_mir hn hl h hF).2 j]
theorem ofI_mir {l : List C} {n : Nat} (hn : n ≤ 64) (hl : l.length = n * n) (h : ltCs l) : ofI n n (conjB l) = ofI n n l := by
  have h1 : ofF n n (conjB l) = ofF n n l := (of_mirror hn hl h).1
  unfold ofI
  rw [h1]
  by_cases hF : (ofF n n l).1 = 0
  · rw [if_pos hF, if_pos hF]
    have h2 : invJ (n : Int).toNat (ofS n (conjB l)) = invJ (n : Int).toNat (ofS n l) := invJ_mir hn hl h hF
    rw [h2]
  · rw [if_neg hF, if_neg hF]
/-- The inverse is finite. -/
theorem inv_fin {n : Nat} {S : El} (hI : ¬ invJ n S < n) {i j : Nat} (hi : i < n) (hj : j < n) : pFinite (invE n S i j) = true :=
  sol_fin (show solFine (lowE S) (uppE S) S.o (bOf (eCol n j)) n = true from colOk_of hj hI) i hi
theorem ofI_ok {r c : Int} {l : List C} (h : (ofI r c l).1 = 0) : (ofF r c l).1 = 0 ∧ ¬ invJ r.toNat (ofS r l) < r.toNat ∧ ofI r c l = (0, 0) := by
  unfold ofI at h ⊢
  by_cases hF : (ofF r c l).1 = 0
  · rw [if_pos hF] at h ⊢
    by_cases h1 : invJ r.toNat (ofS r l) < r.toNat
    · rw [if_pos h1] at h; simp at h
    · rw [if_neg h1]; exact ⟨hF, h1, rfl⟩
  · rw [if_neg hF] at h; exact absurd h hF
/-- The sizes' sums are the same. -/
theorem norm1_same {l l' : List C} {n : Nat} (h : ∀ i j, i < n → j < n → pSize1 (ent l' n i j) = pSize1 (ent l n i j)) : norm1 l' n n = norm1 l n n := by
  have h1 : ∀ j, j < n → ∀ k, k ≤ n → colSum l' n j k = colSum l n j k := fun j hj k => by
    induction k with
    | zero => intro _; rfl
    | succ k ih => intro hk; rw [colSum, colSum, ih (by omega), h k j (by omega) hj]
  have h2 : colSums l' n n n = colSums l n n n := List.map_congr_left fun j hj => h1 j (List.mem_range.1 hj) n (Nat.le_refl _)
  unfold norm1; rw [h2]
theorem norm1_conj {l : List C} {n : Nat} (hl : l.length = n * n) (h : ltCs l) (hf : ∀ z ∈ l, pFinite z = true) : norm1 (conjB l) n n = norm1 l n n :=
  norm1_same fun i j hi hj => by
    have hm := (mat_conj hl h hf).mir i j hi hj
    have f1 : pFinite (l.getD (i * n + j) (0, 0)) = true := matE_fin hl hf i j hi hj
    have f2 : pFinite ((conjB l).getD (i * n + j) (0, 0)) = true := hm.finite.trans f1
    unfold ent
    rw [fin_cn f1, fin_cn f2]
    exact hm.size1
theorem ent_entries {n i j : Nat} {E : Nat → Nat → C} (hi : i < n) (hj : j < n) (hf : pFinite (E i j) = true) : ent (entries n E (n * n)) n i j = E i j := by
  have h : i * n + j < n * n := by
    have h1 : (i + 1) * n ≤ n * n := Nat.mul_le_mul_right _ hi
    rw [Nat.add_mul, Nat.one_mul] at h1; omega
  unfold ent entries
  rw [List.getD_eq_getElem?_getD, List.getElem?_map, List.getElem?_range h]
  show cnC (entry n E (i * n + j)) = _
  rw [entry_at E hj]; exact fin_cn hf
/-- What errors are carried by: the two norms' product. -/
def carP (n : Nat) (l : List C) : Nat := fmul (cn .f64 (norm1 l n n)) (cn .f64 (norm1 (entries n (invE n (ofS n l)) (n * n)) n n))
def carBad (n : Nat) (l : List C) : Bool := isInf double (carP n l) || isNaN double (carP n l)
def carF (r c : Int) (l : List C) : Int × Int := if (ofI r c l).1 = 0 then (if carBad r.toNat l then (6, -1) else (0, 0)) else ofI r c l
def carV (r c : Int) (l : List C) : Nat := if (ofI r c l).1 = 0 then (if carBad r.toNat l then 0 else carP r.toNat l) else 0
theorem carP_mir {l : List C} {n : Nat} (hn : n ≤ 64) (hl : l.length = n * n) (h : ltCs l) (hI : (ofI n n l).1 = 0) : carP n (conjB l) = carP n l := by
  obtain ⟨hF, hJ0, -⟩ := ofI_ok hI
  have hJ : ¬ invJ n (ofS n l) < n := hJ0
  have hJ' : ¬ invJ n (ofS n (conjB l)) < n := by rw [invJ_mir hn hl h hF]; exact hJ
  obtain ⟨hm, -⟩ := inv_mir hn hl h hF
  have e2 : norm1 (entries n (invE n (ofS n (conjB l))) (n * n)) n n = norm1 (entries n (invE n (ofS n l)) (n * n)) n n := norm1_same fun i j hi hj => by
    rw [ent_entries hi hj (inv_fin hJ' hi hj), ent_entries hi hj (inv_fin hJ hi hj)]
    exact (hm i j hi hj).size1
  unfold carP
  rw [norm1_conj hl h (of_fin hn hl hF).1, e2]
theorem car_mir {l : List C} {n : Nat} (hn : n ≤ 64) (hl : l.length = n * n) (h : ltCs l) : carF n n (conjB l) = carF n n l ∧ carV n n (conjB l) = carV n n l := by
  have hI := ofI_mir hn hl h
  unfold carF carV
  rw [hI]
  by_cases h0 : (ofI n n l).1 = 0
  · have hP : carP (n : Int).toNat (conjB l) = carP (n : Int).toNat l := carP_mir hn hl h h0
    rw [if_pos h0, if_pos h0, if_pos h0, if_pos h0]
    unfold carBad
    rw [hP]
    exact ⟨rfl, rfl⟩
  · rw [if_neg h0, if_neg h0, if_neg h0, if_neg h0]; exact ⟨rfl, rfl⟩
theorem inv_lt {l : List C} {n : Nat} (hn : n ≤ 64) (hl : l.length = n * n) (h : ltCs l) (hF : (ofF n n l).1 = 0) : ltCs (entries n (invE n (ofS n l)) (n * n)) := fun z hz => by
  obtain ⟨p, hp, rfl⟩ := List.mem_map.1 hz
  have hp := List.mem_range.1 hp
  have hn0 : 0 < n := Nat.pos_of_ne_zero fun h0 => by subst h0; simp at hp
  exact ((inv_mir hn hl h hF).1 (p / n) (p % n) (Nat.div_lt_of_lt_mul hp) (Nat.mod_lt _ hn0)).2.1
end Go.Proofs.Ytajdfbjjgjpicaa
namespace Go.Proofs.Ytajdfbjjgjpicaa
open Go.RowKit Fl Ieee
set_option maxRecDepth 20000
attribute [local go_sem] run_store_float run_store_complex
/-- The frame behind lower.Of. -/
structure InvF (w W1 W : World) (nb B b n : Nat) (S : El) : Prop where
  bel : Below w.heap.size w W
  r : W.heap[w.heap.size + 1]? = some zrow
  f : W.heap[w.heap.size + 2]? = some (.cells #[.int .i64 0, .int .i64 0] 43)
  l : W.heap[W1.heap.size]? = some (.cells #[.pointer (some ⟨b, 0, none⟩)] 75)
  nc : W.heap[nb]? = some (.cells #[.int .i64 (n : Nat)] 3)
  has : Has9 W1 B b n S
  keep : ∀ j, B ≤ j → j < W1.heap.size → W.heap[j]? = W1.heap[j]?
  size : w.heap.size + 3 ≤ W1.heap.size
  nlt : W1.heap.size < nb
/-- The inverse that is being written. -/
structure InvS (w W1 W : World) (nb mb g B b n : Nat) (S : El) (zs : Nat → C) : Prop extends InvF w W1 W nb B b n S where
  box : W.heap[mb]? = some (.cells #[.int .i64 (n : Nat), .int .i64 (n : Nat), .slice (some ⟨g, 0, none⟩) (n * n) (n * n)] 28)
  row : W.heap[g]? = some (.cells (nums ((List.range (n * n)).map zs)).toArray 53)
  mg : mb ≠ g
  gn : nb < g
  mn : nb < mb
theorem InvF.below {w W1 W V : World} {nb B b n : Nat} {S : El} (h : InvF w W1 W nb B b n S) (hb : Below W.heap.size W V) : InvF w W1 V nb B b n S where
  bel := h.bel.trans (hb.mono h.bel.size)
  r := row_keep hb h.r
  f := row_keep hb h.f
  l := row_keep hb h.l
  nc := row_keep hb h.nc
  has := h.has
  keep j h1 h2 := by
    have h3 := row_lt h.l
    rw [hb.block j (by omega)]; exact h.keep j h1 h2
  size := h.size
  nlt := h.nlt
theorem InvF.has9 {w W1 W : World} {nb B b n : Nat} {S : El} (h : InvF w W1 W nb B b n S) : Has9 W B b n S := h.has.keep h.keep
theorem InvF.other {w W1 W : World} {nb B b n : Nat} {S : El} (h : InvF w W1 W nb B b n S) {a : Addr} (ha : nb < a.block) (v : Value) : InvF w W1 (W.setCell a v) nb B b n S where
  bel := h.bel.setCell (by have := h.size; have := h.nlt; omega) _
  r := by rw [Below.heap_setCell _ _ _ _ (by have := h.size; have := h.nlt; omega)]; exact h.r
  f := by rw [Below.heap_setCell _ _ _ _ (by have := h.size; have := h.nlt; omega)]; exact h.f
  l := by rw [Below.heap_setCell _ _ _ _ (by have := h.nlt; omega)]; exact h.l
  nc := by rw [Below.heap_setCell _ _ _ _ (by omega)]; exact h.nc
  has := h.has
  keep j h1 h2 := by rw [Below.heap_setCell _ _ _ _ (by have := h.nlt; omega)]; exact h.keep j h1 h2
  size := h.size
  nlt := h.nlt
namespace InvS
variable {w W1 W V : World} {nb mb g B b n : Nat} {S : El} {zs : Nat → C}
theorem below (h : InvS w W1 W nb mb g B b n S zs) (hb : Below W.heap.size W V) : InvS w W1 V nb mb g B b n S zs :=
  { h.toInvF.below hb with
    box := row_keep hb h.box
    row := row_keep hb h.row
    mg := h.mg
    gn := h.gn
    mn := h.mn }
theorem put (h : InvS w W1 W nb mb g B b n S zs) (p : Nat) (z : C) : InvS w W1 (W.setCell ⟨g, p, none⟩ (.complex .f64 z.1 z.2)) nb mb g B b n S (putX zs p z) :=
  { h.toInvF.other (a := ⟨g, p, none⟩) h.gn _ with
    box := by rw [Below.heap_setCell _ _ _ _ (by show mb ≠ g; exact h.mg)]; exact h.box
    row := by
      rw [heap_setCell_same W g p _ _ _ h.row]
      congr 2
      rw [← map_put]
      simp
    mg := h.mg
    gn := h.gn
    mn := h.mn }
theorem frozenX (h : InvS w W1 W nb mb g B b n S zs) (i : Nat) : W.frozen? ⟨g, i, none⟩ = false := frozen_of_row W g i _ _ h.row
theorem cellX (h : InvS w W1 W nb mb g B b n S zs) {i : Nat} (hi : i < n * n) : W.cell? ⟨g, i, none⟩ = some (.complex .f64 (zs i).1 (zs i).2) := by
  rw [cell_of_row W g i _ _ _ h.row]
  simp [nums, hi]
end InvS
theorem row1 {w : World} {b : Nat} {x : Value} {t : TypeId} (hx : w.heap[b]? = some (.cells #[x] t)) : w.cell? ⟨b, 0, none⟩ = some x := by
  rw [cell_of_row w b 0 _ _ _ hx]; rfl
theorem row_new3 (Z : World) (a b c : Obj) : (((Z.alloc a).alloc b).alloc c).heap[Z.heap.size + 1 + 1]? = some c := by
  have e : Z.heap.size + 1 + 1 = ((Z.alloc a).alloc b).heap.size := by simp
  rw [e]; exact heap_alloc_new _ _
theorem wrap64I {x : Int} {y : Nat} (e : x = (y : Int)) (h : y ≤ 9223372036854775807) : wrap64 x = (y : Int) := by
  rw [e]; unfold wrap64; omega
theorem InvS.own {w W1 W : World} {nb mb g B b n : Nat} {S : El} {zs : Nat → C} {E : Nat → Nat → C} (h : InvS w W1 W nb mb g B b n S zs) (hz : ∀ i j, i < n → j < n → zs (i * n + j) = E i j) (hn : n ≤ 64) :
    W.ownsRow w.heap.size 53 1 (.slice (some ⟨g, 0, none⟩) (n * n) (n * n)) (n * n) (nums (entries n E (n * n))) := by
  have e : (List.range (n * n)).map zs = entries n E (n * n) := List.map_congr_left fun p hp => by
    have hp := List.mem_range.1 hp
    have hn0 : 0 < n := Nat.pos_of_ne_zero fun h0 => by subst h0; simp at hp
    have h1 : p / n < n := Nat.div_lt_of_lt_mul hp
    have h2 := hz (p / n) (p % n) h1 (Nat.mod_lt _ hn0)
    rw [Nat.div_add_mod'] at h2
    exact h2
  have h4 : n * n ≤ 4096 := prod_small hn hn
  refine ⟨by simp [nums, entries], .inr ⟨g, n * n, _, rfl, ?_, h.row, Nat.le_refl _, by unfold maxLen; omega, by simp [nums], ?_⟩⟩
  · have := h.size; have := h.nlt; have := h.gn; omega
  · rw [e]
    show ((nums (entries n E (n * n))).take (n * n * 1)) = _
    exact List.take_of_length_le (by simp [nums, entries])
theorem nums_zero (n : Nat) : nums ((List.range n).map fun _ => ((0, 0) : C)) = nums (List.replicate n (0, 0)) := by rw [List.map_const', List.length_range]
theorem InvF.startA {w W1 X : World} {nb B b n M : Nat} {S : El} (h : InvF w W1 X nb B b n S) (hM : M = n * n) :
    InvS w W1 ((X.alloc (.cells (madeCells #[.complex .f64 0 0] M) 53)).alloc (.cells #[.int .i64 (n : Nat), .int .i64 (n : Nat), .slice (some ⟨X.heap.size, 0, none⟩) M M] 28)).drew nb (X.heap.size + 1) X.heap.size B b n S (fun _ => (0, 0)) := by
  subst hM
  have hn := row_lt h.nc
  have h1 := (h.below (below_new X (.cells (madeCells #[.complex .f64 0 0] (n * n)) 53))).below (below_new _ (.cells #[.int .i64 (n : Nat), .int .i64 (n : Nat), .slice (some ⟨X.heap.size, 0, none⟩) (n * n) (n * n)] 28))
  exact
    { h1.below ((Below.refl _ _).drew) with
      box := row_new2 X _ _
      row := by
        rw [nums_zero, ← mk_nums]
        exact row_alloc (heap_alloc_new X _)
      mg := by omega
      gn := hn
      mn := by omega }
theorem InvF.startB {w W1 X : World} {nb B b n M : Nat} {S : El} (h : InvF w W1 X nb B b n S) (hM : M = n * n) :
    InvS w W1 ((X.alloc (.cells #[.int .i64 (n : Nat), .int .i64 (n : Nat), .slice (some ⟨X.heap.size + 1, 0, none⟩) M M] 28)).alloc (.cells (madeCells #[.complex .f64 0 0] M) 53)).drew nb X.heap.size (X.heap.size + 1) B b n S (fun _ => (0, 0)) := by
  subst hM
  have hn := row_lt h.nc
  have h1 := (h.below (below_new X (.cells #[.int .i64 (n : Nat), .int .i64 (n : Nat), .slice (some ⟨X.heap.size + 1, 0, none⟩) (n * n) (n * n)] 28))).below (below_new _ (.cells (madeCells #[.complex .f64 0 0] (n * n)) 53))
  exact
    { h1.below ((Below.refl _ _).drew) with
      box := row_alloc (heap_alloc_new X _)
      row := by
        rw [nums_zero, ← mk_nums]
        exact row_new2 X _ _
      mg := by omega
      gn := by omega
      mn := hn }
/-- The end: the result's five cells. -/
theorem put32n {w : World} {r f : Nat} {x0 x1 x2 y0 y1 u v s p q : Value} {T T' : TypeId} (hr : w.heap[r]? = some (.cells #[x0, x1, x2] T)) (hf : w.heap[f]? = some (.cells #[y0, y1] T')) (hne : r ≠ f) :
    ((put3 w r u v s).setCell ⟨f, 0, none⟩ p |>.setCell ⟨f, 1, none⟩ q).cell? ⟨r, 0, none⟩ = some u ∧ ((put3 w r u v s).setCell ⟨f, 0, none⟩ p |>.setCell ⟨f, 1, none⟩ q).cell? ⟨r, 1, none⟩ = some v ∧ ((put3 w r u v s).setCell ⟨f, 0, none⟩ p |>.setCell ⟨f, 1, none⟩ q).cell? ⟨r, 2, none⟩ = some s ∧
      ((put3 w r u v s).setCell ⟨f, 0, none⟩ p |>.setCell ⟨f, 1, none⟩ q).cell? ⟨f, 0, none⟩ = some p ∧ ((put3 w r u v s).setCell ⟨f, 0, none⟩ p |>.setCell ⟨f, 1, none⟩ q).cell? ⟨f, 1, none⟩ = some q := by
  obtain ⟨h1, h2⟩ := set32 (u := u) (v := v) (s := s) (p := p) (q := q) hr hf hne
  generalize (((put3 w r u v s).setCell ⟨f, 0, none⟩ p).setCell ⟨f, 1, none⟩ q) = X at h1 h2 ⊢
  obtain ⟨a, b, c, -⟩ := box3 h1
  obtain ⟨d, e, -⟩ := row2 h2
  exact ⟨a, b, c, d, e⟩
theorem InvF.end_ {w W1 W : World} {nb B b n : Nat} {S : El} (h : InvF w W1 W nb B b n S) (u v s p q : Value) :
    Below w.heap.size w ((((((W.setCell ⟨w.heap.size + 1, 0, none⟩ u).setCell ⟨w.heap.size + 1, 1, none⟩ v).setCell ⟨w.heap.size + 1, 2, none⟩ s).setCell ⟨w.heap.size + 1 + 1, 0, none⟩ p).setCell ⟨w.heap.size + 1 + 1, 1, none⟩ q)) :=
  ((((h.bel.setCell (Nat.le_succ _) _).setCell (Nat.le_succ _) _).setCell (Nat.le_succ _) _).setCell (by show w.heap.size ≤ w.heap.size + 1 + 1; omega) _).setCell (by show w.heap.size ≤ w.heap.size + 1 + 1; omega) _
theorem InvS.cells {w W1 W : World} {nb mb g B b n : Nat} {S : El} {zs : Nat → C} (h : InvS w W1 W nb mb g B b n S zs) :
    W.cell? ⟨w.heap.size + 1, 0, none⟩ = some (.int .i64 0) ∧ W.cell? ⟨w.heap.size + 1, 1, none⟩ = some (.int .i64 0) ∧ W.cell? ⟨w.heap.size + 1, 2, none⟩ = some (.slice none 0 0) ∧ (∀ j, W.frozen? ⟨w.heap.size + 1, j, none⟩ = false) ∧
      W.cell? ⟨w.heap.size + 1 + 1, 0, none⟩ = some (.int .i64 0) ∧ W.cell? ⟨w.heap.size + 1 + 1, 1, none⟩ = some (.int .i64 0) ∧ (∀ j, W.frozen? ⟨w.heap.size + 1 + 1, j, none⟩ = false) := by
  obtain ⟨a, b, c, d⟩ := box3 h.r
  obtain ⟨x, y, z⟩ := row2 h.f
  exact ⟨a, b, c, d, x, y, z⟩
/-- What a column's call tells. -/
theorem RetSol.ok {er : Int} {X : List C} {w w' : World} {e : Ending} {n : Nat} (h : RetSol er X w e w') (hX : X.length = n) : ∃ A c, e = .returned (.tuple #[.slice A n c, .int .i64 er]) ∧ w'.ownsRow w.heap.size 53 1 (.slice A n c) n (nums X) ∧ Below w.heap.size w w' := by
  obtain ⟨s, rfl, ho, hb⟩ := h
  obtain ⟨A, m, c, rfl, rfl⟩ := slice_of_own ho
  subst hX
  exact ⟨A, c, rfl, ho, hb⟩
theorem colI_len (n : Nat) (S : El) (j : Nat) : (colI n S j).length = n := by simp [colI, solL]
theorem colI_get {n j i : Nat} {S : El} (hi : i < n) : (nums (colI n S j))[i]? = some (.complex .f64 (invE n S i j).1 (invE n S i j).2) := by
  simp [nums, colI, solL, hi, invE]
set_option maxHeartbeats 16000000 in
theorem inv_good (n : Nat) (A : Option Addr) (l : List C) (cap : Nat) (w : World) (hn : n ≤ 64) (hl : l.length = n * n) (hcap : l.length ≤ cap) (hrd : Reads w w.heap.size A (nums l)) (hlt : ltCs l) (hF : (ofF n n l).1 = 0) :
    Calls Try.prog 18 #[mval n n (.slice A l.length cap)] w (RetI (if invJ n (ofS n l) < n then (6, (invJ n (ofS n l) : Int)) else (0, 0)) n (invE n (ofS n l)) w) := by
  obtain ⟨hfin, hf, h0⟩ := of_fin hn hl hF
  have hperm : Perm n (ofS n l).o := of_perm
  have hfinE : finTo (ofS n l).E n := elRun_fin (matE_fin hl hfin) n (Nat.le_refl _)
  obtain ⟨S, hS⟩ : ∃ S, S = ofS n l := ⟨_, rfl⟩
  obtain ⟨M, hM⟩ : ∃ M, M = n * n := ⟨_, rfl⟩
  have hM4 : M ≤ 4096 := by rw [hM]; exact prod_small hn hn
  have hLM : l.length = M := hl.trans hM.symm
  obtain ⟨Wf, hWf, hm, hr, hff, hbw, hsz⟩ := frameI w n n (.slice A l.length cap)
  have HOf := Lib.hid (show Calls Try.prog 47 #[mval n n (.slice A l.length cap)] Wf fun e w' => ∃ b, e = .returned (.tuple #[.pointer (some ⟨b, 0, none⟩), .agg #[.int .i64 0, .int .i64 0]]) ∧ Has9 w' Wf.heap.size b n S ∧ Below Wf.heap.size Wf w' from
    (Of_c n n A l cap Wf hcap ((hrd.below hbw).more hbw.size) hlt).mono fun e w' h => by rw [hS]; exact h.ok hf)
  rw [← hS] at hperm hfinE ⊢
  have HSize := Lib.hid (fun (B b : Nat) (V : World) (h : Has9 V B b n S) => Size_c V h)
  have HCol := Lib.hid (fun (B b nb lb j : Nat) (V : World) (h : Has9 V B b n S) (hj : j < n) (h1 : V.cell? ⟨nb, 0, none⟩ = some (.int .i64 (n : Nat))) (h2 : V.cell? ⟨lb, 0, none⟩ = some (.pointer (some ⟨b, 0, none⟩))) (hlb : lb < V.heap.size) =>
    column_c j V h hfinE hperm hn hj h1 h2 hlb)
  have HR := Lib.hid hr
  have HFf := Lib.hid hff
  have HBw := Lib.hid hbw
  have HSz := Lib.hid hsz
  have HM := Lib.hid hM
  have HM4 := Lib.hid hM4
  have HN := Lib.hid hn
  rw [hWf, hLM] at HOf
  rw [hLM]
  obtain ⟨ff, hff2⟩ : ∃ ff : Int × Int, ff = if invJ n S < n then (6, (invJ n S : Int)) else (0, 0) := ⟨_, rfl⟩
  rw [← hff2]
  have HFF := Lib.hid hff2
  clear hff2
  rw [hLM] at hWf
  have HWf := Lib.hid hWf
  have hmk := run_make_row' (P := Try.prog) 25 53 (.complex .f64 0 0) 16 Try.underlying25 infoNum rfl .i64 .i64 M (by omega) (by omega)
  have hmf : ∀ (fn : Fn) (first cap : Array Value) (W : World), (Instr.makeFunc fn first cap).run Try.prog W = .ok (.func fn first cap) W := fun _ _ _ _ => rfl
  have hmw : IntKind.i64.wrap ((n : Int) * (n : Int)) = (M : Int) := wrapI (by rw [hM, Int.natCast_mul]) (by omega)
  have hmw2 : wrap64 ((n : Int) * (n : Int)) = (M : Int) := wrap64I (by rw [hM, Int.natCast_mul]) (by omega)
  clear hcap hrd hlt hF hm hr hff hbw hsz hl hf h0 hfin hperm hfinE hS hLM hM hM4 hn hWf
  go_enter Try.func18, Try.ntmps18
  go_wp2_with fail
  refine HOf.out.mono ?_
  rintro e W1 ⟨b, rfl, h9, hb⟩
  rw [← HWf.out] at hb h9
  have hz : ∀ o, (W1.alloc o).heap.size = W1.heap.size + 1 := fun o => by simp
  have hIF := Lib.hid (fun (nb : Nat) (V : World) (hV : Below (W1.heap.size + 2) ((W1.alloc (.cells #[.pointer (some ⟨b, 0, none⟩)] 75)).alloc (.cells #[.int .i64 0, .int .i64 0] 43)) V) (hnb : V.heap[nb]? = some (.cells #[.int .i64 (n : Nat)] 3)) (hlt : W1.heap.size < nb) =>
    (show InvF w W1 V nb Wf.heap.size b n S from by
      have hV' : Below ((W1.alloc (.cells #[.pointer (some ⟨b, 0, none⟩)] 75)).alloc (.cells #[.int .i64 0, .int .i64 0] 43)).heap.size ((W1.alloc (.cells #[.pointer (some ⟨b, 0, none⟩)] 75)).alloc (.cells #[.int .i64 0, .int .i64 0] 43)) V := hV.mono (by simp)
      have hb2 := (below_new W1 (.cells #[.pointer (some ⟨b, 0, none⟩)] 75)).new (Nat.le_refl _) (.cells #[.int .i64 0, .int .i64 0] 43)
      have hs1 := hb.size
      have hs2 := HSz.out
      exact
        { bel := HBw.out.trans ((hb.trans ((hb2.mono hs1).trans (hV'.mono (by simp; omega)))).mono HBw.out.size)
          r := row_keep hV' (row_keep hb2 (row_keep hb HR.out))
          f := row_keep hV' (row_keep hb2 (row_keep hb HFf.out))
          l := row_keep hV' (row_alloc (heap_alloc_new W1 _))
          nc := hnb
          has := h9
          keep := fun j h1 h2 => by rw [hV'.block j (by simp; omega), hb2.block j h2]
          size := by omega
          nlt := hlt }))
  have h9' := (h9.below (below_new W1 (.cells #[.pointer (some ⟨b, 0, none⟩)] 75))).below (below_new _ (.cells #[.int .i64 0, .int .i64 0] 43))
  have H9 := Lib.hid h9'
  have HZ1 := Lib.hid hb.size
  clear hb h9 h9' hz
  go_wp2_with fail
  refine (HSize.out _ _ _ H9.out).mono ?_
  rintro e V ⟨rfl, rfl⟩
  go_upto_region 6 with fail
  go_cut [8] (fun s8 wx => ∃ mb g, s8 = .pointer (some ⟨mb, 0, none⟩) ∧ InvS w W1 wx (W1.heap.size + 1 + 1) mb g Wf.heap.size b n S (fun _ => (0, 0)))
  case first =>
    go_region
    all_goals go_wp2
    all_goals go_meet
    all_goals
      have hsz3 : (((W1.alloc (.cells #[.pointer (some ⟨b, 0, none⟩)] 75)).alloc (.cells #[.int .i64 0, .int .i64 0] 43)).alloc (.cells #[.int .i64 (n : Nat)] 3)).heap.size = W1.heap.size + 1 + 1 + 1 := by simp
    · have hI := hIF.out (W1.heap.size + 1 + 1) (((W1.alloc (.cells #[.pointer (some ⟨b, 0, none⟩)] 75)).alloc (.cells #[.int .i64 0, .int .i64 0] 43)).alloc (.cells #[.int .i64 (n : Nat)] 3)) ((Below.refl _ _).new (by simp) _) (row_new3 _ _ _ _) (by omega)
      have h := hI.startA HM.out
      rw [hsz3] at h
      exact ⟨_, _, rfl, h⟩
    · have hI := hIF.out (W1.heap.size + 1 + 1) (((W1.alloc (.cells #[.pointer (some ⟨b, 0, none⟩)] 75)).alloc (.cells #[.int .i64 0, .int .i64 0] 43)).alloc (.cells #[.int .i64 (n : Nat)] 3)) ((Below.refl _ _).new (by simp) _) (row_new3 _ _ _ _) (by omega)
      have h := hI.startB HM.out
      rw [hsz3] at h
      exact ⟨_, _, rfl, h⟩
  case rest =>
    obtain ⟨mb, g, rfl, hs⟩ := hcut
    have HS0 := Lib.hid hs
    have cn0 := row1 hs.nc
    clear hs hIF HSize H9 HOf HR HFf HBw HWf hmk
    go_wp2
    go_loopw [35] (fun i wr => ∃ (j : Nat) (zs : Nat → C), j ≤ n ∧ i = .int .i64 (j : Nat) ∧ InvS w W1 wr (W1.heap.size + 1 + 1) mb g Wf.heap.size b n S zs ∧ (∀ i q, i < n → q < j → zs (i * n + q) = invE n S i q) ∧ (∀ q, q < j → colOk n S q = true)) (fun i _ => n - (intOf i).toNat)
    case atStart => exact ⟨0, _, Nat.zero_le _, rfl, HS0.out, fun i q _ hq => by omega, fun q hq => by omega⟩
    case round =>
      obtain ⟨j, zs, hj, rfl, hs, hz, hok⟩ := hrel
      have HS := Lib.hid hs
      have HZ := Lib.hid hz
      have HOk := Lib.hid hok
      have cn := row1 hs.nc
      have hjb : (j : Int) + 1 ≤ 65 := by have := HN.out; omega
      obtain ⟨c0, c1, c2, cf, d0, d1, df⟩ := hs.cells
      have cf0 := cf 0
      have cf1 := cf 1
      have cf2 := cf 2
      have df0 := df 0
      have df1 := df 1
      obtain ⟨m0, m1, m2, -⟩ := box3 hs.box
      rw [← HM.out] at m2
      clear hs hz hok cf df
      by_cases hlt : j < n
      · have hlti : (j : Int) < (n : Int) := Int.ofNat_lt.2 hlt
        have HC := Lib.hid (HCol.out _ b (W1.heap.size + 1 + 1) W1.heap.size j wr HS.out.has9 hlt cn (row1 HS.out.l) (row_lt HS.out.l))
        cases hc : colOk n S j
        · rw [hc] at HC
          simp only [Bool.false_eq_true, if_false] at HC
          have HF6 := Lib.hid (show ff = (6, (j : Int)) from by
            have h1 : invJ n S = j := invJ_of hlt HOk.out hc
            rw [HFF.out, h1, if_pos hlt])
          clear c0 c1 c2 cf0 cf1 cf2 d0 d1 df0 df1 m0 m1 m2
          go_wp2_with fail
          refine HC.out.mono ?_
          rintro e V ⟨s, rfl, -, hb⟩
          have HSV := Lib.hid (HS.out.below hb)
          obtain ⟨c0, c1, c2, cf, d0, d1, df⟩ := (HS.out.below hb).cells
          have cf0 := cf 0
          have cf1 := cf 1
          have cf2 := cf 2
          have df0 := df 0
          have df1 := df 1
          clear hb cf df cn
          go_wp2
          obtain ⟨q0, q1, q2, q3, q4⟩ := put32n (u := .int .i64 0) (v := .int .i64 0) (s := .slice none 0 0) (p := .int .i64 6) (q := .int .i64 (j : Nat)) HSV.out.r HSV.out.f (by omega)
          refine bodyPost_ret (v := .tuple #[mval 0 0 (.slice none 0 0), .agg #[.int .i64 6, .int .i64 (j : Nat)]]) (by simp [results, Try.results18, go_sem, q0, q1, q2, q3, q4]) rfl ?_
          rw [HF6.out]
          exact ⟨HSV.out.end_ _ _ _ _ _, fun h => absurd (show (6 : Int) = 0 from h) (by decide), fun _ => rfl⟩
        · rw [hc] at HC
          simp only [if_true] at HC
          clear c0 c1 c2 cf0 cf1 cf2 d0 d1 df0 df1 m0 m1 m2
          go_wp2_with fail
          refine HC.out.mono ?_
          rintro e V hr
          obtain ⟨A2, c2, rfl, hown, hb⟩ := hr.ok (colI_len n S j)
          have HSV := Lib.hid (HS.out.below hb)
          have HO := Lib.hid hown
          have HSz2 := Lib.hid (show g < wr.heap.size from row_lt HS.out.row)
          clear hr hown hb cn
          go_wp2
          go_loopw [52] (fun i wx => ∃ (i0 : Nat) (zx : Nat → C), i0 ≤ n ∧ i = .int .i64 (i0 : Nat) ∧ InvS w W1 wx (W1.heap.size + 1 + 1) mb g Wf.heap.size b n S zx ∧ wx.ownsRow wr.heap.size 53 1 (.slice A2 n c2) n (nums (colI n S j)) ∧ (∀ i q, i < n → q < j → zx (i * n + q) = invE n S i q) ∧ (∀ i, i < i0 → zx (i * n + j) = invE n S i j)) (fun i _ => n - (intOf i).toNat)
          case atStart => exact ⟨0, _, Nat.zero_le _, rfl, HSV.out, HO.out, HZ.out, fun i hi => by omega⟩
          case round =>
            obtain ⟨i0, zx, hi0, rfl, hs, hown, hz, hzj⟩ := hrel
            have HSx := Lib.hid hs
            have HOx := Lib.hid hown
            have HZx := Lib.hid hz
            have HZj := Lib.hid hzj
            have hib : (i0 : Int) + 1 ≤ 65 := by have := HN.out; omega
            have cn := row1 hs.nc
            obtain ⟨m0, m1, m2, -⟩ := box3 hs.box
            rw [← HM.out] at m2
            clear hs hown hz hzj
            by_cases hi : i0 < n
            · have hii : (i0 : Int) < (n : Int) := Int.ofNat_lt.2 hi
              obtain ⟨ad, rfl, -, hce⟩ := (Reads.of_own HOx.out).at_ (colI_get hi)
              obtain ⟨zv, hzv⟩ : ∃ zv, zv = invE n S i0 j := ⟨_, rfl⟩
              rw [← hzv] at hce
              obtain ⟨r, hr⟩ : ∃ r, r = i0 * n := ⟨_, rfl⟩
              obtain ⟨p, hp⟩ : ∃ p, p = i0 * n + j := ⟨_, rfl⟩
              have hpM : p < M := by
                have h1 : (i0 + 1) * n ≤ n * n := Nat.mul_le_mul_right _ hi
                rw [Nat.add_mul, Nat.one_mul] at h1
                rw [hp, HM.out]; omega
              have hrp : p = r + j := by rw [hp, hr]
              have hm4 := HM4.out
              have hm1 : IntKind.i64.wrap ((i0 : Int) * (n : Int)) = (r : Int) := wrapI (by rw [hr, Int.natCast_mul]) (by omega)
              have hm2 : IntKind.i64.wrap ((r : Int) + (j : Int)) = (p : Int) := wrapI (by rw [hrp, Int.natCast_add]) (by omega)
              have hm1' : wrap64 ((i0 : Int) * (n : Int)) = (r : Int) := wrap64I (by rw [hr, Int.natCast_mul]) (by omega)
              have hm2' : wrap64 ((r : Int) + (j : Int)) = (p : Int) := wrap64I (by rw [hrp, Int.natCast_add]) (by omega)
              have hpi : (p : Int) < (M : Int) := Int.ofNat_lt.2 hpM
              have hcx := HSx.out.cellX (i := p) (by rw [← HM.out]; exact hpM)
              have hfx := HSx.out.frozenX p
              have HP := Lib.hid hp
              have HZv := Lib.hid hzv
              clear hzv hr hp hrp hm4
              go_wp2
              go_roundw
              case rel =>
                refine ⟨i0 + 1, _, hi, by go_num, HSx.out.put p zv, ownsRow_setCell_below HOx.out (by have := HSz2.out; exact this) _, fun i q hi' hq => ?_, fun i hi' => ?_⟩
                · rw [putX_other]
                  · exact HZx.out i q hi' hq
                  · rw [HP.out]
                    intro e
                    have h1 := congrArg (· % n) e
                    simp only [Nat.mul_comm _ n, Nat.mul_add_mod] at h1
                    rw [Nat.mod_eq_of_lt (by omega), Nat.mod_eq_of_lt (by omega)] at h1
                    omega
                · by_cases e : i = i0
                  · subst e
                    rw [← HP.out, putX_same]; exact HZv.out
                  · rw [putX_other]
                    · exact HZj.out i (by omega)
                    · rw [HP.out]
                      intro e2
                      exact e (Nat.eq_of_mul_eq_mul_right (by omega) (Nat.add_right_cancel e2))
              case measure => simp [intOf]; omega
            · have e : i0 = n := by omega
              subst e
              go_wp2
              go_roundw
              case rel =>
                refine ⟨j + 1, _, hlt, by go_num, HSx.out, fun i q hi' hq => ?_, fun q hq => ?_⟩
                · by_cases e : q = j
                  · subst e; exact HZj.out i hi'
                  · exact HZx.out i q hi' (by omega)
                · by_cases e : q = j
                  · subst e; exact hc
                  · exact HOk.out q (by omega)
              case measure => simp [intOf]; omega
      · have e : j = n := by omega
        subst e
        have HF0 := Lib.hid (show ff = (0, 0) from by rw [HFF.out, if_neg (invJ_all HOk.out)])
        go_wp2
        obtain ⟨q0, q1, q2, q3, q4⟩ := put32n (u := .int .i64 (j : Nat)) (v := .int .i64 (j : Nat)) (s := .slice (some ⟨g, 0, none⟩) M M) (p := .int .i64 0) (q := .int .i64 0) HS.out.r HS.out.f (by omega)
        refine bodyPost_ret (v := .tuple #[mval j j (.slice (some ⟨g, 0, none⟩) M M), .agg #[.int .i64 0, .int .i64 0]]) (by simp [results, Try.results18, go_sem, q0, q1, q2, q3, q4]) rfl ?_
        rw [HF0.out]
        refine ⟨HS.out.end_ _ _ _ _ _, fun _ => ⟨_, rfl, ?_⟩, fun h => absurd rfl h⟩
        have ho := HS.out.own (E := invE j S) HZ.out HN.out
        rw [← HM.out] at ho ⊢
        obtain ⟨o1, o2⟩ := ho
        refine ⟨o1, o2.imp id ?_⟩
        rintro ⟨g', cap', cur, e1, o3, o4, o5⟩
        have hgl := HS.out.gn
        have h1 := HS.out.size
        have h2 := HS.out.nlt
        have eg : g = g' := by injection e1 with e1; injection e1 with e1; injection e1
        subst eg
        exact ⟨g, cap', cur, e1, o3, by rw [Below.heap_setCell _ _ _ _ (by show g ≠ w.heap.size + 1 + 1; omega), Below.heap_setCell _ _ _ _ (by show g ≠ w.heap.size + 1 + 1; omega), Below.heap_setCell _ _ _ _ (by show g ≠ w.heap.size + 1; omega), Below.heap_setCell _ _ _ _ (by show g ≠ w.heap.size + 1; omega), Below.heap_setCell _ _ _ _ (by show g ≠ w.heap.size + 1; omega)]; exact o4, o5⟩
end Go.Proofs.Ytajdfbjjgjpicaa
namespace Go.Proofs.Ytajdfbjjgjpicaa
open Go.RowKit Fl Ieee
set_option maxRecDepth 20000
attribute [local go_sem] run_store_float run_store_complex Fl.order_self Fl.order_self'
theorem of_shape {r c : Int} {l : List C} (hF : (ofF r c l).1 = 0) : ∃ n : Nat, r = n ∧ c = n ∧ n ≤ 64 ∧ l.length = n * n := by
  have ho : okM r c l.length = true := by
    cases h : okM r c l.length
    · unfold ofF at hF; rw [h] at hF; simp at hF
    · rfl
  have e : r = c := by
    cases h : r == c
    · unfold ofF at hF; rw [ho, h] at hF; simp at hF
    · simpa using h
  subst e
  obtain ⟨h0, h1, -, -, h2⟩ := okM_iff.1 ho
  obtain ⟨n, rfl⟩ : ∃ n : Nat, r = n := ⟨r.toNat, by omega⟩
  exact ⟨n, rfl, rfl, by omega, by
    have h3 : ((l.length : Nat) : Int) = ((n * n : Nat) : Int) := by rw [h2, Int.natCast_mul]
    exact Int.ofNat_inj.1 h3⟩
theorem Inv_c (r c : Int) (A : Option Addr) (l : List C) (cap : Nat) (w : World) (hcap : l.length ≤ cap) (hrd : Reads w w.heap.size A (nums l)) (hlt : ltCs l) :
    Calls Try.prog 18 #[mval r c (.slice A l.length cap)] w (RetI (ofI r c l) r.toNat (invE r.toNat (ofS r l)) w) := by
  by_cases hF : (ofF r c l).1 = 0
  · obtain ⟨n, rfl, rfl, hn, hl⟩ := of_shape hF
    have e2 : ofI n n l = if invJ n (ofS n l) < n then (6, (invJ n (ofS n l) : Int)) else (0, 0) := by
      unfold ofI; rw [if_pos hF]; rfl
    rw [e2]
    exact inv_good n A l cap w hn hl hcap hrd hlt hF
  · have e2 : ofI r c l = ofF r c l := by unfold ofI; rw [if_neg hF]
    rw [e2]
    exact inv_bad r c A l cap w hcap hrd hlt hF _ _
def RetCar (v : Nat) (f : Int × Int) (w : World) (e : Ending) (w' : World) : Prop := e = .returned (.tuple #[.float .f64 v, .agg #[.int .i64 f.1, .int .i64 f.2]]) ∧ Below w.heap.size w w'
/-- What stands ahead of the call of inverse.Of. -/
theorem frameCar (w : World) (r c : Int) (s : Value) : ∃ W, W = (w.alloc (.cells #[.int .i64 r, .int .i64 c, s] 28)).alloc (.cells #[.int .i64 0, .int .i64 0] 43) ∧
    W.heap[w.heap.size]? = some (.cells #[.int .i64 r, .int .i64 c, s] 28) ∧ W.heap[w.heap.size + 1]? = some (.cells #[.int .i64 0, .int .i64 0] 43) ∧ Below w.heap.size w W ∧ W.heap.size = w.heap.size + 2 :=
  ⟨_, rfl, row_alloc (heap_alloc_new w _), row_new2 w _ _, (below_new w _).new (Nat.le_refl _) _, by simp⟩
set_option maxHeartbeats 4000000 in
theorem Car_bad (r c : Int) (A : Option Addr) (l : List C) (cap : Nat) (w : World) (hcap : l.length ≤ cap) (hrd : Reads w w.heap.size A (nums l)) (hlt : ltCs l) (hI : (ofI r c l).1 ≠ 0) :
    Calls Try.prog 20 #[mval r c (.slice A l.length cap)] w (RetCar 0 (ofI r c l) w) := by
  obtain ⟨Wf, hWf, hm, hff, hbw, hsz⟩ := frameCar w r c (.slice A l.length cap)
  obtain ⟨f1, f2, hf⟩ : ∃ f1 f2, ofI r c l = (f1, f2) := ⟨_, _, rfl⟩
  have HOf := Lib.hid (show Calls Try.prog 18 #[mval r c (.slice A l.length cap)] Wf fun e w' => e = .returned (.tuple #[mval 0 0 (.slice none 0 0), .agg #[.int .i64 f1, .int .i64 f2]]) ∧ Below Wf.heap.size Wf w' from
    (Inv_c r c A l cap Wf hcap ((hrd.below hbw).more hbw.size) hlt).mono fun e w' h => by
      obtain ⟨h1, -, h2⟩ := h
      have h2 := h2 hI
      rw [hf] at h2; exact ⟨h2, h1⟩)
  rw [hf] at hI ⊢
  have hne : (f1 == 0) = false := by simpa using hI
  have HFf := Lib.hid hff
  have HBw := Lib.hid hbw
  have HSz := Lib.hid hsz
  rw [hWf] at HOf
  have HWf := Lib.hid hWf
  clear hcap hrd hlt hI hm hff hbw hsz hf hWf
  go_enter Try.func20, Try.ntmps20
  go_wp2_with fail
  refine HOf.out.mono ?_
  rintro e W1 ⟨rfl, hb⟩
  rw [← HWf.out] at hb
  have hb2 := (hb.trans ((below_new W1 zrow).mono hb.size)).trans ((below_new (W1.alloc zrow) (.cells #[.int .i64 f1, .int .i64 f2] 43)).mono (Nat.le_trans hb.size (below_new W1 _).size))
  have hf1 := row_keep hb2 HFf.out
  have HF1 := Lib.hid hf1
  have HB1 := Lib.hid (HBw.out.trans (hb2.mono HBw.out.size))
  obtain ⟨d0, d1, fd⟩ := row2 hf1
  have g0 := fd 0
  have g1 := fd 1
  obtain ⟨e0, e1, fe⟩ := row2 (row_new2 W1 zrow (.cells #[.int .i64 f1, .int .i64 f2] 43))
  have hlt := hb.size
  rw [HSz.out] at hlt
  have n2 : W1.heap.size ≠ w.heap.size := by omega
  have n3 : w.heap.size ≠ W1.heap.size := by omega
  clear hb hb2 hf1 fd hlt fe
  go_wp2
  go_region
  all_goals go_wp2
  all_goals
    obtain ⟨q3, q4⟩ := set2 (u := .int .i64 f1) (v := .int .i64 f2) d0 d1
    refine bodyPost_ret (v := .tuple #[.float .f64 0, .agg #[.int .i64 f1, .int .i64 f2]]) (by simp [results, Try.results20, go_sem, q3, q4]) rfl ?_
    exact ⟨rfl, ((HB1.out.setCell (Nat.le_succ _) _).setCell (Nat.le_succ _) _).drew⟩
set_option maxHeartbeats 4000000 in
theorem Car_good (n : Nat) (A : Option Addr) (l : List C) (cap : Nat) (w : World) (hn : n ≤ 64) (hl : l.length = n * n) (hcap : l.length ≤ cap) (hrd : Reads w w.heap.size A (nums l)) (hlt : ltCs l) (hI : (ofI n n l).1 = 0) :
    Calls Try.prog 20 #[mval n n (.slice A l.length cap)] w (RetCar (carV n n l) (carF n n l) w) := by
  obtain ⟨Wf, hWf, hm, hff, hbw, hsz⟩ := frameCar w n n (.slice A l.length cap)
  obtain ⟨M, hM⟩ : ∃ M, M = n * n := ⟨_, rfl⟩
  obtain ⟨L, hL⟩ : ∃ L, L = entries n (invE n (ofS n l)) (n * n) := ⟨_, rfl⟩
  have hLl : L.length = n * n := by rw [hL]; simp [entries]
  have hLM : L.length = M := hLl.trans hM.symm
  have hLt : ltCs L := by rw [hL]; exact inv_lt hn hl hlt (ofI_ok hI).1
  have hlM : l.length = M := hl.trans hM.symm
  have HOf := Lib.hid (show Calls Try.prog 18 #[mval n n (.slice A M cap)] Wf fun e w' => ∃ A2 c2, e = .returned (.tuple #[mval n n (.slice A2 M c2), .agg #[.int .i64 0, .int .i64 0]]) ∧ Reads w' w'.heap.size A2 (nums L) ∧ Below Wf.heap.size Wf w' from by
    rw [← hlM]
    exact (Inv_c n n A l cap Wf hcap ((hrd.below hbw).more hbw.size) hlt).mono fun e w' h => by
      obtain ⟨h1, h2, -⟩ := h
      obtain ⟨s, rfl, ho⟩ := h2 hI
      have ho' : w'.ownsRow Wf.heap.size 53 1 s M (nums L) := by rw [hL, hM]; exact ho
      obtain ⟨A2, m, c2, rfl, rfl⟩ := slice_of_own ho'
      exact ⟨A2, c2, by rw [hlM]; rfl, Reads.of_own ho', h1⟩)
  obtain ⟨x1, hx1⟩ : ∃ x, x = norm1 l n n := ⟨_, rfl⟩
  obtain ⟨x2, hx2⟩ : ∃ x, x = norm1 L n n := ⟨_, rfl⟩
  have HN1 := Lib.hid (fun (V : World) (h : Reads V V.heap.size A (nums l)) => (show Calls Try.prog 34 #[mval n n (.slice A M cap)] V (RetFE x1 0 V) from by
    rw [← hlM, hx1]; exact Norm1_c n n A l cap V hn hn hl h hlt))
  have HN2 := Lib.hid (fun (A2 : Option Addr) (c2 : Nat) (V : World) (h : Reads V V.heap.size A2 (nums L)) => (show Calls Try.prog 34 #[mval n n (.slice A2 M c2)] V (RetFE x2 0 V) from by
    rw [← hLM, hx2]; exact Norm1_c n n A2 L c2 V hn hn hLl h hLt))
  obtain ⟨cf, hcf⟩ : ∃ cf, cf = carF n n l := ⟨_, rfl⟩
  obtain ⟨cv, hcv⟩ : ∃ cv, cv = carV n n l := ⟨_, rfl⟩
  rw [← hcf, ← hcv]
  have hcP : carP n l = fmul (cn .f64 x1) (cn .f64 x2) := by unfold carP; rw [← hL, hx1, hx2]
  have HCar := Lib.hid (show (cf = if isInf double (carP n l) || isNaN double (carP n l) then (6, -1) else (0, 0)) ∧ (cv = if isInf double (carP n l) || isNaN double (carP n l) then 0 else carP n l) from by
    rw [hcf, hcv]; unfold carF carV; rw [if_pos hI, if_pos hI]; exact ⟨rfl, rfl⟩)
  rw [hcP] at HCar
  rw [hlM] at hWf hm ⊢
  have HFf := Lib.hid hff
  have HBw := Lib.hid hbw
  have HSz := Lib.hid hsz
  have HM := Lib.hid hm
  have HRd := Lib.hid ((hrd.below hbw).more hbw.size)
  rw [hWf] at HOf
  have HWf := Lib.hid hWf
  clear hcap hrd hlt hI hm hff hbw hsz hWf hM hL hLl hLM hLt hlM hx1 hx2 hcf hcv hcP hl hn
  go_enter Try.func20, Try.ntmps20
  go_wp2_with fail
  refine HOf.out.mono ?_
  rintro e W1 ⟨A2, c2, rfl, hr, hb⟩
  rw [← HWf.out] at hb
  have hbn := (below_new W1 (.cells #[.int .i64 (n : Nat), .int .i64 (n : Nat), .slice A2 M c2] 28)).new (Nat.le_refl _) (.cells #[.int .i64 0, .int .i64 0] 43)
  have hb2 := hb.trans (hbn.mono hb.size)
  have HF1 := Lib.hid (row_keep hb2 HFf.out)
  have HM1 := Lib.hid (row_keep hb2 HM.out)
  have HX1 := Lib.hid (row_alloc (o' := (.cells #[.int .i64 0, .int .i64 0] 43)) (heap_alloc_new W1 (.cells #[.int .i64 (n : Nat), .int .i64 (n : Nat), .slice A2 M c2] 28)))
  have HB1 := Lib.hid (HBw.out.trans (hb2.mono HBw.out.size))
  have HRd1 := Lib.hid ((HRd.out.below hb2).more hb2.size)
  have HRx1 := Lib.hid ((hr.below hbn).more hbn.size)
  obtain ⟨b0, b1, b2, -⟩ := box3 HM1.out
  clear hb hb2 hbn hr
  go_wp2_with fail
  refine (HN1.out _ HRd1.out).mono ?_
  rintro e W2 ⟨rfl, hb⟩
  have HF2 := Lib.hid (row_keep hb HF1.out)
  have HB2 := Lib.hid (HB1.out.trans (hb.mono HB1.out.size))
  have HRx2 := Lib.hid ((HRx1.out.below hb).more hb.size)
  obtain ⟨y0, y1, y2, -⟩ := box3 (row_keep hb HX1.out)
  clear hb b0 b1 b2
  go_wp2_with fail
  refine (HN2.out _ _ _ HRx2.out).mono ?_
  rintro e W3 ⟨rfl, hb⟩
  have HF3 := Lib.hid (row_keep hb HF2.out)
  have HB3 := Lib.hid (HB2.out.trans (hb.mono HB2.out.size))
  clear hb y0 y1 y2
  go_wp2_with fail
  refine upon_mul _ _ _ _ ?_
  intro r1 n1 h1
  have hr1 := h1.2
  have HInf := Lib.hid (fun V : World => mIsInf_c r1 hr1 V)
  have e1 : cn .f64 r1 = fmul (cn .f64 x1) (cn .f64 x2) := h1.1
  have HC2 := HCar.out
  rw [← e1, show isInf double (cn .f64 r1) = isInf double r1 from isInf_cn .f64 r1, show isNaN double (cn .f64 r1) = isNaN double r1 from isNaN_cn .f64 r1] at HC2
  obtain ⟨hc1, hc2⟩ := HC2
  obtain ⟨d0, d1, fd⟩ := row2 (show (W3.drewN n1).heap[w.heap.size + 1]? = _ from HF3.out)
  have g0 := fd 0
  have g1 := fd 1
  clear h1 e1 fd
  cases hi : isInf double r1
  · rw [hi] at hc1 hc2 HInf
    cases hn : isNaN double r1
    · rw [hn] at hc1 hc2
      have hn' : isNaN FloatKind.f64.format r1 = false := hn
      have HCF := Lib.hid (show cf = (0, 0) from hc1)
      have HCV := Lib.hid (show cv = cn .f64 r1 from hc2)
      have hcr := Lib.hid (cn_of_not (k := .f64) (x := r1) hn)
      clear hc1 hc2
      go_wp2_with fail
      refine (HInf.out _).mono ?_
      rintro e V ⟨rfl, rfl⟩
      go_wp2
      obtain ⟨q3, q4⟩ := set2 (u := .int .i64 0) (v := .int .i64 0) d0 d1
      refine bodyPost_ret (v := .tuple #[.float .f64 r1, .agg #[.int .i64 0, .int .i64 0]]) (by simp [results, Try.results20, go_sem, q3, q4]) rfl ?_
      rw [HCF.out, HCV.out, hcr.out]
      exact ⟨rfl, ((below_drewN HB3.out n1).setCell (Nat.le_succ _) _).setCell (Nat.le_succ _) _⟩
    · rw [hn] at hc1 hc2
      have hn' : isNaN FloatKind.f64.format r1 = true := hn
      have HCF := Lib.hid (show cf = (6, -1) from hc1)
      have HCV := Lib.hid (show cv = 0 from hc2)
      clear hc1 hc2
      go_wp2_with fail
      refine (HInf.out _).mono ?_
      rintro e V ⟨rfl, rfl⟩
      go_wp2
      obtain ⟨q3, q4⟩ := set2 (u := .int .i64 6) (v := .int .i64 (-1)) d0 d1
      refine bodyPost_ret (v := .tuple #[.float .f64 0, .agg #[.int .i64 6, .int .i64 (-1)]]) (by simp [results, Try.results20, go_sem, q3, q4]) rfl ?_
      rw [HCF.out, HCV.out]
      exact ⟨rfl, ((below_drewN HB3.out n1).setCell (Nat.le_succ _) _).setCell (Nat.le_succ _) _⟩
  · rw [hi] at hc1 hc2 HInf
    have HCF := Lib.hid (show cf = (6, -1) from hc1)
    have HCV := Lib.hid (show cv = 0 from hc2)
    clear hc1 hc2
    go_wp2_with fail
    refine (HInf.out _).mono ?_
    rintro e V ⟨rfl, rfl⟩
    go_wp2
    obtain ⟨q3, q4⟩ := set2 (u := .int .i64 6) (v := .int .i64 (-1)) d0 d1
    refine bodyPost_ret (v := .tuple #[.float .f64 0, .agg #[.int .i64 6, .int .i64 (-1)]]) (by simp [results, Try.results20, go_sem, q3, q4]) rfl ?_
    rw [HCF.out, HCV.out]
    exact ⟨rfl, ((below_drewN HB3.out n1).setCell (Nat.le_succ _) _).setCell (Nat.le_succ _) _⟩
theorem ofI_shape {r c : Int} {l : List C} (h : (ofI r c l).1 = 0) : ∃ n : Nat, r = n ∧ c = n ∧ n ≤ 64 ∧ l.length = n * n := of_shape (ofI_ok h).1
theorem Car_c (r c : Int) (A : Option Addr) (l : List C) (cap : Nat) (w : World) (hcap : l.length ≤ cap) (hrd : Reads w w.heap.size A (nums l)) (hlt : ltCs l) :
    Calls Try.prog 20 #[mval r c (.slice A l.length cap)] w (RetCar (carV r c l) (carF r c l) w) := by
  by_cases hI : (ofI r c l).1 = 0
  · obtain ⟨n, rfl, rfl, hn, hl⟩ := ofI_shape hI
    exact Car_good n A l cap w hn hl hcap hrd hlt hI
  · have e1 : carF r c l = ofI r c l := by unfold carF; rw [if_neg hI]
    have e2 : carV r c l = 0 := by unfold carV; rw [if_neg hI]
    rw [e1, e2]
    exact Car_bad r c A l cap w hcap hrd hlt hI
end Go.Proofs.Ytajdfbjjgjpicaa
namespace Go.Proofs.Ytajdfbjjgjpicaa
open Go.RowKit Fl Ieee
set_option maxRecDepth 20000
attribute [local go_sem] run_store_float run_store_complex
theorem RetI.ok {f : Int × Int} {n M : Nat} {E : Nat → Nat → C} {w w' : World} {e : Ending} (h : RetI f n E w e w') (hf : f.1 = 0) (hM : M = n * n) :
    ∃ A c, e = .returned (.tuple #[mval n n (.slice A M c), .agg #[.int .i64 0, .int .i64 0]]) ∧ Reads w' w'.heap.size A (nums (entries n E M)) ∧ M ≤ c ∧ Below w.heap.size w w' := by
  obtain ⟨h1, h2, -⟩ := h
  obtain ⟨s, rfl, ho⟩ := h2 hf
  rw [← hM] at ho
  obtain ⟨A, cap, rfl, h4, h5, h6⟩ := own_reads ho
  exact ⟨A, cap, rfl, h4, h5, h1⟩
theorem RetI.bad {f : Int × Int} {n : Nat} {E : Nat → Nat → C} {w w' : World} {e : Ending} (h : RetI f n E w e w') (hf : f.1 ≠ 0) :
    e = .returned (.tuple #[mval 0 0 (.slice none 0 0), .agg #[.int .i64 f.1, .int .i64 f.2]]) ∧ Below w.heap.size w w' := ⟨h.2.2 hf, h.1⟩
theorem square12_c (x y z u : C) (w : World) :
    Calls Try.prog 26 #[.complex .f64 x.1 x.2, .complex .f64 y.1 y.2, .complex .f64 z.1 z.2, .complex .f64 u.1 u.2] w (RetMs 2 2 [x, y, z, u] w) := by
  obtain ⟨x1, x2⟩ := x
  obtain ⟨y1, y2⟩ := y
  obtain ⟨z1, z2⟩ := z
  obtain ⟨u1, u2⟩ := u
  go_enter Try.func26, Try.ntmps26
  go_wp2
  refine bodyPost_ret (v := mval 2 2 (.slice (some ⟨w.heap.size + 1, 0, none⟩) 4 4)) (by simp [results, Try.results26, go_sem]) rfl ?_
  exact ⟨_, rfl, own_new (o := .cells #[.int .i64 2, .int .i64 2, .slice (some ⟨w.heap.size + 1, 0, none⟩) 4 4] 28) (l := [(x1, x2), (y1, y2), (z1, z2), (u1, u2)]) (by show 4 ≤ maxLen; decide), ((below_new _ _).new (Nat.le_refl _) _)⟩
theorem one12_c (x : C) (w : World) :
    Calls Try.prog 27 #[.complex .f64 x.1 x.2] w (RetMs 1 1 [x] w) := by
  obtain ⟨x1, x2⟩ := x
  go_enter Try.func27, Try.ntmps27
  go_wp2
  refine bodyPost_ret (v := mval 1 1 (.slice (some ⟨w.heap.size + 1, 0, none⟩) 1 1)) (by simp [results, Try.results27, go_sem]) rfl ?_
  exact ⟨_, rfl, own_new (o := .cells #[.int .i64 1, .int .i64 1, .slice (some ⟨w.heap.size + 1, 0, none⟩) 1 1] 28) (l := [(x1, x2)]) (by show 1 ≤ maxLen; decide), ((below_new _ _).new (Nat.le_refl _) _)⟩
def exI : List C := [(0, fone), (0, 0), (0, 0), (4611686018427387904, 0)]
def exJ : List C := [(0, 13830554455654793216), (0, 0), (0, 0), (4602678819172646912, 0)]
theorem exI_lt : ltCs exI := by intro z hz; simp [exI] at hz; rcases hz with rfl | rfl | rfl | rfl <;> exact ⟨by decide, by decide⟩
theorem exI_f : ofI 2 2 exI = (0, 0) := by decide +kernel
theorem equal_of {l m : List C} {n : Nat} (h : (List.range n).all (fun k => pEqual (cnC (l.getD k (0, 0))) (cnC (m.getD k (0, 0)))) = true) (hl : l.length = n) :
    ∀ (k : Nat) (x y : C), l[k]? = some x → m[k]? = some y → pEqual (cnC x) (cnC y) = true := fun k x y hx hy => by
  have hk : k < n := by rw [← hl]; exact lt_of_some hx
  have h1 := List.all_eq_true.1 h k (List.mem_range.2 hk)
  rw [List.getD_eq_getElem?_getD, hx, List.getD_eq_getElem?_getD, hy] at h1
  exact h1
theorem exI_e : (List.range 4).all (fun k => pEqual (cnC ((entries 2 (invE 2 (ofS 2 exI)) 4).getD k (0, 0))) (cnC (exJ.getD k (0, 0)))) = true := by decide +kernel
set_option maxHeartbeats 4000000 in
theorem awake12_c (w : World) : Calls Try.prog 22 #[] w (RetBB true w) := by
  have H1 := Lib.hid (fun V => square12_c (0, fone) (0, 0) (0, 0) (4611686018427387904, 0) V)
  have H2 := Lib.hid (fun V => square12_c (0, 13830554455654793216) (0, 0) (0, 0) (4602678819172646912, 0) V)
  have HI := Lib.hid (fun (A : Option Addr) (cap : Nat) (V : World) (h1 : 4 ≤ cap) (h2 : Reads V V.heap.size A (nums exI)) =>
    (show Calls Try.prog 18 #[mval 2 2 (.slice A 4 cap)] V fun e w' => ∃ A c, e = .returned (.tuple #[mval 2 2 (.slice A 4 c), .agg #[.int .i64 0, .int .i64 0]]) ∧ Reads w' w'.heap.size A (nums (entries 2 (invE 2 (ofS 2 exI)) 4)) ∧ 4 ≤ c ∧ Below V.heap.size V w' from
      (Inv_c 2 2 A exI cap V h1 h2 exI_lt).mono fun e w' h => h.ok (by rw [exI_f]) rfl))
  have HE := Lib.hid (fun (A B : Option Addr) (ca cb : Nat) (V : World) (hA : Reads V V.heap.size A (nums (entries 2 (invE 2 (ofS 2 exI)) 4))) (hB : Reads V V.heap.size B (nums exJ)) =>
    EqualMatrix_t 2 2 A B (entries 2 (invE 2 (ofS 2 exI)) 4) exJ 4 ca cb V (by simp [entries]) rfl (equal_of exI_e (by simp [entries])) (by decide) hA hB)
  go_enter Try.func22, Try.ntmps22
  go_wp2_with fail
  refine (H1.out _).mono ?_
  rintro e W1 hr
  obtain ⟨A, cap, rfl, hrd, hle, -, -, hb⟩ := hr.lies
  have B1 := Lib.hid hb
  have HOf := Lib.hid (HI.out A cap W1 hle hrd)
  clear hr hb hrd hle
  go_wp2_with fail
  refine HOf.out.mono ?_
  rintro e W2 ⟨A2, c2, rfl, hr, -, hb⟩
  have hbn := (below_new W2 (.cells #[.int .i64 2, .int .i64 2, .slice A2 4 c2] 28)).new (Nat.le_refl _) (.cells #[.int .i64 0, .int .i64 0] 43)
  have HX := Lib.hid (row_alloc (o' := (.cells #[.int .i64 0, .int .i64 0] 43)) (heap_alloc_new W2 (.cells #[.int .i64 2, .int .i64 2, .slice A2 4 c2] 28)))
  have B2 := Lib.hid ((B1.out.trans (hb.mono B1.out.size)).trans (hbn.mono (B1.out.trans (hb.mono B1.out.size)).size))
  have HR2 := Lib.hid ((hr.below hbn).more hbn.size)
  have HFq := Lib.hid (row_new2 W2 (.cells #[.int .i64 2, .int .i64 2, .slice A2 4 c2] 28) (.cells #[.int .i64 0, .int .i64 0] 43))
  clear hb hbn hr HOf HI
  go_wp2_with fail
  generalize (W2.alloc (.cells #[.int .i64 2, .int .i64 2, .slice A2 4 c2] 28)).alloc (.cells #[.int .i64 0, .int .i64 0] 43) = WX at HX B2 HR2 HFq ⊢
  have HK := Lib.hid (fun (V : World) (hV : Below WX.heap.size WX V) => (show V.cell? ⟨W2.heap.size, 0, none⟩ = some (.int .i64 2) ∧ V.cell? ⟨W2.heap.size, 1, none⟩ = some (.int .i64 2) ∧ V.cell? ⟨W2.heap.size, 2, none⟩ = some (.slice A2 4 c2) ∧ V.cell? ⟨W2.heap.size + 1, 0, none⟩ = some (.int .i64 0) ∧ V.cell? ⟨W2.heap.size + 1, 1, none⟩ = some (.int .i64 0) from by
    obtain ⟨a, b, c, -⟩ := box3 (row_keep hV HX.out)
    obtain ⟨d, e, -⟩ := row2 (row_keep hV HFq.out)
    exact ⟨a, b, c, d, e⟩))
  go_region_held3 (fun V => V.cell? ⟨W2.heap.size, 0, none⟩ = some (.int .i64 2) ∧ V.cell? ⟨W2.heap.size, 1, none⟩ = some (.int .i64 2) ∧ V.cell? ⟨W2.heap.size, 2, none⟩ = some (.slice A2 4 c2) ∧ V.cell? ⟨W2.heap.size + 1, 0, none⟩ = some (.int .i64 0) ∧ V.cell? ⟨W2.heap.size + 1, 1, none⟩ = some (.int .i64 0))
    (with_reducible refine HK.out _ ?_; (repeat (first | with_reducible assumption | with_reducible refine Below.drew ?_ | with_reducible exact Below.refl _ _)); done)
    (first
    | (go_at_call 26; (with_reducible refine (H2.out _).mono ?_); (rintro e V hr); (obtain ⟨A3, c3, rfl, hrd2, hle3, -, -, hb⟩ := hr.lies); (have hrd3 : Reads V V.heap.size A3 (nums exJ) := hrd2); (have hV : Below WX.heap.size WX V := Below.trans (by repeat (first | with_reducible assumption | with_reducible refine Below.drew ?_ | with_reducible exact Below.refl _ _)) (Below.mono hb (by exact Nat.le_refl _))))
    | (go_at_call 21; (with_reducible refine (HE.out A2 A3 c2 c3 V ((HR2.out.below hV).more hV.size) hrd3).mono ?_); (rintro e V2 ⟨rfl, hb2⟩); (have hV2 : Below WX.heap.size WX V2 := hV.trans (hb2.mono hV.size))))
  all_goals
    go_wp2
    go_ret
    exact ⟨rfl, B2.out.trans (hV2.mono B2.out.size)⟩
end Go.Proofs.Ytajdfbjjgjpicaa
