/- Layer 12: a column of the inverse. -/
import Derived.Test.YtajdfbjjgjpicaaSV3
import Derived.Test.YtajdfbjjgjpicaaLMr
import Derived.Test.YtajdfbjjgjpicaaMX16
import Derived.Deep.DeepCutAuto
import Derived.BigRegion
namespace Go.Proofs.Ytajdfbjjgjpicaa
open Go.RowKit Fl Ieee
set_option maxRecDepth 20000
attribute [local go_sem] run_store_float run_store_complex
/-- The right side of column j. -/
def eCol (n j : Nat) : List C := (List.range n).map fun i => if i = j then (fone, 0) else (0, 0)
theorem eCol_len (n j : Nat) : (eCol n j).length = n := by simp [eCol]
theorem eCol_mem {n j : Nat} {z : C} (h : z ∈ eCol n j) : z = (fone, 0) ∨ z = (0, 0) := by
  unfold eCol at h
  obtain ⟨i, _, rfl⟩ := List.mem_map.1 h
  split
  · exact .inl rfl
  · exact .inr rfl
theorem eCol_fin (n j : Nat) : ∀ z ∈ eCol n j, pFinite z = true := fun z hz => by
  rcases eCol_mem hz with rfl | rfl <;> decide +kernel
theorem eCol_lt (n j : Nat) : ltCs (eCol n j) := fun z hz => by
  rcases eCol_mem hz with rfl | rfl <;> exact ⟨by decide, by decide⟩
def colOk (n : Nat) (S : El) (j : Nat) : Bool := solOk n S (eCol n j)
def colL (n : Nat) (S : El) (j : Nat) : List C := solL n S (eCol n j)
theorem eCol_row {W : World} {n : Nat} : (W.alloc (.cells (madeCells #[.complex .f64 0 0] n) 53)).heap[W.heap.size]? = some (.cells (nums (List.replicate n (0, 0))).toArray 53) := by
  rw [mk_nums]; exact heap_alloc_new _ _
theorem eCol_set {n j : Nat} : (madeCells #[.complex .f64 0 0] n).setIfInBounds j (.complex .f64 4607182418800017408 0) = (nums (eCol n j)).toArray := by
  rw [mk_nums]
  have h1 : (nums (List.replicate n (0, 0))).toArray.setIfInBounds j (.complex .f64 4607182418800017408 0) = ((nums (List.replicate n (0, 0))).set j (.complex .f64 fone 0)).toArray := by rw [List.setIfInBounds_toArray]; rfl
  rw [h1, nums_setl _ j (fone, 0)]
  congr 2
  apply List.ext_getElem
  · simp [eCol]
  · intro q p1 p2
    rw [List.getElem_set]
    simp only [eCol, List.getElem_map, List.getElem_range, List.getElem_replicate]
    by_cases e : j = q
    · rw [if_pos e, if_pos e.symm]
    · rw [if_neg e, if_neg (fun h => e h.symm)]
set_option maxHeartbeats 2000000 in
theorem column_c {B b n nb lb : Nat} {S : El} (j : Nat) (w : World) (h : Has9 w B b n S) (hf : finTo S.E n) (hp : Perm n S.o) (hn : n ≤ 64) (hj : j < n) (h1 : w.cell? ⟨nb, 0, none⟩ = some (.int .i64 (n : Nat))) (h2 : w.cell? ⟨lb, 0, none⟩ = some (.pointer (some ⟨b, 0, none⟩))) (hlb : lb < w.heap.size) :
    Calls Try.prog 49 #[.int .i64 (j : Nat), .pointer (some ⟨nb, 0, none⟩), .pointer (some ⟨lb, 0, none⟩)] w (RetSol (if colOk n S j then 0 else 6) (if colOk n S j then colL n S j else []) w) := by
  have hmk := run_make_row' (P := Try.prog) 25 53 (.complex .f64 0 0) 16 Try.underlying25 infoNum rfl .i64 .i64 n (by omega) (by omega)
  have hji : (j : Int) < (n : Int) := Int.ofNat_lt.2 hj
  obtain ⟨u, hu⟩ : ∃ u, (w.alloc (.cells (madeCells #[.complex .f64 0 0] n) 53)).cell? ⟨w.heap.size, j, none⟩ = some u := by
    rw [cell_of_row _ w.heap.size j _ _ _ eCol_row]
    exact ⟨_, Array.getElem?_eq_getElem (by simp [nums]; exact hj)⟩
  have hfr : (w.alloc (.cells (madeCells #[.complex .f64 0 0] n) 53)).frozen? ⟨w.heap.size, j, none⟩ = false := frozen_of_row _ w.heap.size j _ _ eCol_row
  have hbw := below_new w (.cells ((madeCells #[.complex .f64 0 0] n).setIfInBounds j (.complex .f64 4607182418800017408 0)) 53)
  have hl2 : ∀ o, (w.alloc o).cell? ⟨lb, 0, none⟩ = some (.pointer (some ⟨b, 0, none⟩)) := fun o => ((below_new w o).cell (p := ⟨lb, 0, none⟩) hlb).trans h2
  have hrow := heap_alloc_new w (.cells ((madeCells #[.complex .f64 0 0] n).setIfInBounds j (.complex .f64 4607182418800017408 0)) 53)
  rw [eCol_set] at hrow hbw
  have hrd : Reads (w.alloc (.cells (nums (eCol n j)).toArray 53)) (w.alloc (.cells (nums (eCol n j)).toArray 53)).heap.size (some ⟨w.heap.size, 0, none⟩) (nums (eCol n j)) :=
    (Reads.new w 53 (nums (eCol n j))).more (by simp)
  have HSl := Lib.hid (Solve_run (some ⟨w.heap.size, 0, none⟩) (eCol n j) n _ (h.below hbw) hf hp hn (eCol_len n j) (eCol_fin n j) (eCol_lt n j) hrd)
  rw [← eCol_set] at HSl hbw
  clear hrow
  rw [eCol_len] at HSl
  have HBw := Lib.hid hbw
  clear h hf hp hn hbw hrd h2
  obtain ⟨er, her⟩ : ∃ er : Int, er = if colOk n S j then 0 else 6 := ⟨_, rfl⟩
  obtain ⟨rs, hrs⟩ : ∃ rs : List C, rs = if colOk n S j then colL n S j else [] := ⟨_, rfl⟩
  rw [show (if solOk n S (eCol n j) = true then (0 : Int) else 6) = er from her.symm, show (if solOk n S (eCol n j) = true then solL n S (eCol n j) else []) = rs from hrs.symm] at HSl
  rw [← her, ← hrs]
  clear her hrs
  go_enter Try.func49, Try.ntmps49
  go_wp2_with fail
  refine HSl.out.mono ?_
  rintro e W1 ⟨s, rfl, hown, hb⟩
  have HO := Lib.hid (own_base hown HBw.out.size)
  have HB := Lib.hid (HBw.out.trans (hb.mono HBw.out.size))
  clear hown hb
  go_wp2
  go_ret2
  exact ⟨_, rfl, HO.out, HB.out⟩
end Go.Proofs.Ytajdfbjjgjpicaa
namespace Go.Proofs.Ytajdfbjjgjpicaa
open Go.RowKit Fl Ieee
set_option maxRecDepth 20000
attribute [local go_sem] run_store_float run_store_complex
/-- The first column that is not told. -/
def invJ (n : Nat) (S : El) : Nat := (List.range n).findIdx fun j => !colOk n S j
def ofI (r c : Int) (l : List C) : Int × Int :=
  if (ofF r c l).1 = 0 then (if invJ r.toNat (ofS r l) < r.toNat then (6, (invJ r.toNat (ofS r l) : Int)) else (0, 0)) else ofF r c l
/-- The inverse's numbers. -/
def invE (n : Nat) (S : El) (i j : Nat) : C := solX (lowE S) (uppE S) S.o (bOf (eCol n j)) n i
theorem invJ_le {n : Nat} {S : El} : invJ n S ≤ n := by have := List.findIdx_le_length (xs := List.range n) (p := fun j => !colOk n S j); simpa [invJ] using this
theorem invJ_of {n k : Nat} {S : El} (hk : k < n) (ha : ∀ j, j < k → colOk n S j = true) (hb : colOk n S k = false) : invJ n S = k := by
  refine (List.findIdx_eq (by simpa using hk)).2 ⟨by simp [hb], fun j hj => ?_⟩
  simp [ha j hj]
theorem invJ_all {n : Nat} {S : El} (ha : ∀ j, j < n → colOk n S j = true) : ¬ invJ n S < n := fun h => by
  have h1 := List.findIdx_getElem (xs := List.range n) (p := fun j => !colOk n S j) (w := by simpa [invJ] using h)
  simp only [List.getElem_range, Bool.not_eq_true'] at h1
  have h2 := ha (invJ n S) h
  unfold invJ at h2
  rw [h2] at h1; cases h1
theorem colOk_of {n j : Nat} {S : El} (hj : j < n) (h : ¬ invJ n S < n) : colOk n S j = true := by
  cases hf : colOk n S j with
  | true => rfl
  | false =>
    have := List.findIdx_lt_length_of_exists (xs := List.range n) (p := fun j => !colOk n S j) ⟨j, List.mem_range.2 hj, by simp [hf]⟩
    exact absurd (by simpa [invJ] using this) h
/-- What is told of an inverse. -/
def RetI (f : Int × Int) (n : Nat) (E : Nat → Nat → C) (w : World) (e : Ending) (w' : World) : Prop :=
  Below w.heap.size w w' ∧ (f.1 = 0 → ∃ s, e = .returned (.tuple #[mval n n s, .agg #[.int .i64 0, .int .i64 0]]) ∧ w'.ownsRow w.heap.size 53 1 s (n * n) (nums (entries n E (n * n)))) ∧
    (f.1 ≠ 0 → e = .returned (.tuple #[mval 0 0 (.slice none 0 0), .agg #[.int .i64 f.1, .int .i64 f.2]]))
theorem set32 {w : World} {r f : Nat} {x0 x1 x2 y0 y1 u v s p q : Value} {T T' : TypeId} (hr : w.heap[r]? = some (.cells #[x0, x1, x2] T)) (hf : w.heap[f]? = some (.cells #[y0, y1] T')) (hne : r ≠ f) :
    ((put3 w r u v s).setCell ⟨f, 0, none⟩ p |>.setCell ⟨f, 1, none⟩ q).heap[r]? = some (.cells #[u, v, s] T) ∧ ((put3 w r u v s).setCell ⟨f, 0, none⟩ p |>.setCell ⟨f, 1, none⟩ q).heap[f]? = some (.cells #[p, q] T') := by
  obtain ⟨h1, h2, -⟩ := put3_row (u := u) (v := v) (s := s) hr
  have h3 := (h2 f (Ne.symm hne)).trans hf
  have h4 := heap_setCell_same _ f 0 _ _ p h3
  have h5 := heap_setCell_same _ f 1 _ _ q h4
  refine ⟨?_, by rw [h5]; rfl⟩
  rw [Below.heap_setCell _ _ _ _ hne, Below.heap_setCell _ _ _ _ hne]; exact h1
theorem set23 {w : World} {r f : Nat} {x0 x1 x2 y0 y1 u v s p q : Value} {T T' : TypeId} (hr : w.heap[r]? = some (.cells #[x0, x1, x2] T)) (hf : w.heap[f]? = some (.cells #[y0, y1] T')) (hne : r ≠ f) :
    (put3 ((w.setCell ⟨f, 0, none⟩ p).setCell ⟨f, 1, none⟩ q) r u v s).heap[r]? = some (.cells #[u, v, s] T) ∧ (put3 ((w.setCell ⟨f, 0, none⟩ p).setCell ⟨f, 1, none⟩ q) r u v s).heap[f]? = some (.cells #[p, q] T') := by
  have h4 := heap_setCell_same w f 0 _ _ p hf
  have h5 := heap_setCell_same _ f 1 _ _ q h4
  have hr' : ((w.setCell ⟨f, 0, none⟩ p).setCell ⟨f, 1, none⟩ q).heap[r]? = some (.cells #[x0, x1, x2] T) := by
    rw [Below.heap_setCell _ _ _ _ hne, Below.heap_setCell _ _ _ _ hne]; exact hr
  obtain ⟨h1, h2, -⟩ := put3_row (u := u) (v := v) (s := s) hr'
  exact ⟨h1, by rw [h2 f (Ne.symm hne), h5]; rfl⟩
/-- The result's five cells, in either order's world. -/
theorem put32 {w : World} {r f : Nat} {x0 x1 x2 y0 y1 u v s p q : Value} {T T' : TypeId} (hr : w.heap[r]? = some (.cells #[x0, x1, x2] T)) (hf : w.heap[f]? = some (.cells #[y0, y1] T')) (hne : r ≠ f) :
    ((put3 w r u v s).setCell ⟨f, 0, none⟩ p |>.setCell ⟨f, 1, none⟩ q).drew.cell? ⟨r, 0, none⟩ = some u ∧ ((put3 w r u v s).setCell ⟨f, 0, none⟩ p |>.setCell ⟨f, 1, none⟩ q).drew.cell? ⟨r, 1, none⟩ = some v ∧ ((put3 w r u v s).setCell ⟨f, 0, none⟩ p |>.setCell ⟨f, 1, none⟩ q).drew.cell? ⟨r, 2, none⟩ = some s ∧
      ((put3 w r u v s).setCell ⟨f, 0, none⟩ p |>.setCell ⟨f, 1, none⟩ q).drew.cell? ⟨f, 0, none⟩ = some p ∧ ((put3 w r u v s).setCell ⟨f, 0, none⟩ p |>.setCell ⟨f, 1, none⟩ q).drew.cell? ⟨f, 1, none⟩ = some q := by
  obtain ⟨h1, h2⟩ := set32 (u := u) (v := v) (s := s) (p := p) (q := q) hr hf hne
  generalize (((put3 w r u v s).setCell ⟨f, 0, none⟩ p).setCell ⟨f, 1, none⟩ q) = X at h1 h2 ⊢
  obtain ⟨a, b, c, -⟩ := box3 (show X.drew.heap[r]? = _ from h1)
  obtain ⟨d, e, -⟩ := row2 (show X.drew.heap[f]? = _ from h2)
  exact ⟨a, b, c, d, e⟩
theorem inv_enters (args : Array Value) (W : World) : (callFunc 49 args).run Try.prog W = .ok (.enter 49 args) W :=
  enters_of Try.func49 (by kernel_rfl) rfl args W
/-- What stands ahead of the call of lower.Of. -/
theorem frameI (w : World) (r c : Int) (s : Value) : ∃ W, W = ((w.alloc (.cells #[.int .i64 r, .int .i64 c, s] 28)).alloc zrow).alloc (.cells #[.int .i64 0, .int .i64 0] 43) ∧
    W.heap[w.heap.size]? = some (.cells #[.int .i64 r, .int .i64 c, s] 28) ∧ W.heap[w.heap.size + 1]? = some zrow ∧ W.heap[w.heap.size + 2]? = some (.cells #[.int .i64 0, .int .i64 0] 43) ∧ Below w.heap.size w W ∧ W.heap.size = w.heap.size + 3 := by
  refine ⟨_, rfl, row_alloc (row_alloc (heap_alloc_new w _)), row_alloc (row_new2 w _ _), ?_, ((below_new w _).new (Nat.le_refl _) _).new (Nat.le_refl _) _, by simp⟩
  have e : w.heap.size + 2 = ((w.alloc (.cells #[.int .i64 r, .int .i64 c, s] 28)).alloc zrow).heap.size := by simp
  rw [e]; exact heap_alloc_new _ _
set_option maxHeartbeats 4000000 in
theorem inv_bad (r c : Int) (A : Option Addr) (l : List C) (cap : Nat) (w : World) (hcap : l.length ≤ cap) (hrd : Reads w w.heap.size A (nums l)) (hlt : ltCs l) (hF : (ofF r c l).1 ≠ 0) (n : Nat) (E : Nat → Nat → C) :
    Calls Try.prog 18 #[mval r c (.slice A l.length cap)] w (RetI (ofF r c l) n E w) := by
  obtain ⟨Wf, hWf, hm, hr, hff, hbw, hsz⟩ := frameI w r c (.slice A l.length cap)
  obtain ⟨f1, f2, hf⟩ : ∃ f1 f2, ofF r c l = (f1, f2) := ⟨_, _, rfl⟩
  have HOf := Lib.hid (show Calls Try.prog 47 #[mval r c (.slice A l.length cap)] Wf fun e w' => e = .returned (.tuple #[.pointer none, .agg #[.int .i64 f1, .int .i64 f2]]) ∧ Below Wf.heap.size Wf w' from
    (Of_c r c A l cap Wf hcap ((hrd.below hbw).more hbw.size) hlt).mono fun e w' h => by
      have h' := h.bad hF
      rw [hf] at h'; exact h')
  rw [hf] at hF ⊢
  have hne : (f1 == 0) = false := by simpa using hF
  have HR := Lib.hid hr
  have HFf := Lib.hid hff
  have HBw := Lib.hid hbw
  have HSz := Lib.hid hsz
  have HF0 := Lib.hid (show f1 ≠ 0 from hF)
  rw [hWf] at HOf
  have HWf := Lib.hid hWf
  clear hcap hrd hlt hF hm hr hff hbw hsz hf hWf
  go_enter Try.func18, Try.ntmps18
  go_wp2_with fail
  refine HOf.out.mono ?_
  rintro e W1 ⟨rfl, hb⟩
  rw [← HWf.out] at hb
  have hb2 := (hb.trans ((below_new W1 (.cells #[.pointer none] 75)).mono hb.size)).trans ((below_new (W1.alloc (.cells #[.pointer none] 75)) (.cells #[.int .i64 f1, .int .i64 f2] 43)).mono (Nat.le_trans hb.size (below_new W1 _).size))
  have hr1 := row_keep hb2 HR.out
  have hf1 := row_keep hb2 HFf.out
  have HR1 := Lib.hid hr1
  have HF1 := Lib.hid hf1
  have HB1 := Lib.hid (HBw.out.trans (hb2.mono HBw.out.size))
  obtain ⟨c0, c1, c2, fr⟩ := box3 hr1
  obtain ⟨d0, d1, fd⟩ := row2 hf1
  have f0 := fr 0
  have f1' := fr 1
  have f2' := fr 2
  have g0 := fd 0
  have g1 := fd 1
  obtain ⟨e0, e1, fe⟩ := row2 (heap_alloc_new (W1.alloc (.cells #[.pointer none] 75)) (.cells #[.int .i64 f1, .int .i64 f2] 43))
  have hz : (W1.alloc (.cells #[.pointer none] 75)).heap.size = W1.heap.size + 1 := by simp
  rw [hz] at e0 e1 fe
  have hlt := hb.size
  rw [HSz.out] at hlt
  have n0 : W1.heap.size ≠ w.heap.size := by omega
  have n1 : w.heap.size ≠ W1.heap.size := by omega
  have n2 : W1.heap.size + 1 ≠ w.heap.size + 2 := by omega
  have n3 : w.heap.size + 2 ≠ W1.heap.size + 1 := by omega
  clear hb hb2 hr1 hf1 fr fd hlt
  go_wp2
  go_region
  all_goals go_wp2
  all_goals
    obtain ⟨q0, q1, q2, q3, q4⟩ := put32 (u := .int .i64 0) (v := .int .i64 0) (s := .slice none 0 0) (p := .int .i64 f1) (q := .int .i64 f2) HR1.out HF1.out (by omega)
    refine bodyPost_ret (v := .tuple #[mval 0 0 (.slice none 0 0), .agg #[.int .i64 f1, .int .i64 f2]]) (by simp [results, Try.results18, go_sem, q0, q1, q2, q3, q4]) rfl ?_
    exact ⟨(((((HB1.out.setCell (Nat.le_succ _) _).setCell (Nat.le_succ _) _).setCell (Nat.le_succ _) _).setCell (by show w.heap.size ≤ w.heap.size + 1 + 1; omega) _).setCell (by show w.heap.size ≤ w.heap.size + 1 + 1; omega) _).drew, fun h => absurd h HF0.out, fun _ => rfl⟩
end Go.Proofs.Ytajdfbjjgjpicaa
namespace Go.Proofs.Ytajdfbjjgjpicaa
open Go.RowKit Fl Ieee
set_option maxRecDepth 20000
theorem mr_real {x : Nat} (hx : x < 18446744073709551616) : Mr (x, 0) (x, 0) := ⟨⟨.inl rfl,   .inr ⟨show rung double 0 = 0 by decide, show rung double (fneg 0) = 0 by decide +kernel⟩⟩, ⟨hx, by show (0 : Nat) < _; decide⟩, ⟨hx, by show (0 : Nat) < _; decide⟩⟩
theorem eCol_mr (n j k : Nat) : Mr (bOf (eCol n j) k) (bOf (eCol n j) k) := by
  unfold bOf
  rw [List.getD_eq_getElem?_getD]
  cases h : (eCol n j)[k]? with
  | none => exact mr_real (by decide)
  | some z =>
    rcases eCol_mem (List.mem_of_getElem? h) with e | e
    · subst e; exact mr_real (by decide)
    · subst e; exact mr_real (by decide)
theorem lowMr {n : Nat} {S S' : El} (h : Mirr n S S') (i j : Nat) (hi : i < n) (hj : j < n) : Mr (lowE S i j) (lowE S' i j) := by
  unfold lowE
  by_cases e : i = j
  · rw [if_pos e, if_pos e]; exact mr_real (by decide)
  · rw [if_neg e, if_neg e]
    by_cases e2 : j < i
    · rw [if_pos e2, if_pos e2]; exact h.mir i j hi hj
    · rw [if_neg e2, if_neg e2]; exact mr_real (by decide)
theorem uppMr {n : Nat} {S S' : El} (h : Mirr n S S') (i j : Nat) (hi : i < n) (hj : j < n) : Mr (uppE S i j) (uppE S' i j) := by
  unfold uppE
  by_cases e2 : j < i
  · rw [if_pos e2, if_pos e2]; exact mr_real (by decide)
  · rw [if_neg e2, if_neg e2]; exact h.mir i j hi hj
/-- The inverse of the conjugate. -/
theorem inv_mir {l : List C} {n : Nat} (hn : n ≤ 64) (hl : l.length = n * n) (h : ltCs l) (hF : (ofF n n l).1 = 0) :
    (∀ i j, i < n → j < n → Mr (invE n (ofS n l) i j) (invE n (ofS n (conjB l)) i j)) ∧ ∀ j, colOk n (ofS n (conjB l)) j = colOk n (ofS n l) j := by
  have ht : Mirr n (ofS n l) (ofS n (conjB l)) := (of_mirror hn hl h).2 hF
  obtain ⟨hfin, -, h0⟩ := of_fin hn hl hF
  have hd : ∀ i, i < n → pFinite (uppE (ofS n l) i i) = true ∧ pZero (uppE (ofS n l) i i) = false := fun i hi => by
    have e : uppE (ofS n l) i i = (ofS n l).E i i := by unfold uppE; rw [if_neg (Nat.lt_irrefl _)]
    rw [e]
    exact ⟨ht.fin i i hi hi, run_diag (S := S0 l n) (matE_fin hl hfin) n (Nat.le_refl _) h0 i hi⟩
  have hs := fun j => sol_mir (o := (ofS n l).o) (b := bOf (eCol n j)) (b' := bOf (eCol n j)) (lowMr ht) (uppMr ht) hd (fun i _ => eCol_mr n j _)
  constructor
  · intro i j hi hj
    have h1 := (hs j).1 i hi
    unfold invE
    rw [ht.o]; exact h1
  · intro j
    have h1 := (hs j).2
    unfold colOk solOk
    rw [ht.o]; exact h1
theorem invJ_mir {l : List C} {n : Nat} (hn : n ≤ 64) (hl : l.length = n * n) (h : ltCs l) (hF : (ofF n n l).1 = 0) : invJ n (ofS n (conjB l)) = invJ n (ofS n l) := by
  unfold invJ
  congr 1
  funext j
  rw [(inv_mir hn hl h hF).2 j]
theorem ofI_mir {l : List C} {n : Nat} (hn : n ≤ 64) (hl : l.length = n * n) (h : ltCs l) : ofI n n (conjB l) = ofI n n l := by
  have h1 : ofF n n (conjB l) = ofF n n l := (of_mirror hn hl h).1
  unfold ofI
  rw [h1]
  by_cases hF : (ofF n n l).1 = 0
  · rw [if_pos hF, if_pos hF]
    have h2 : invJ (n : Int).toNat (ofS n (conjB l)) = invJ (n : Int).toNat (ofS n l) := invJ_mir hn hl h hF
    rw [h2]
  · rw [if_neg hF, if_neg hF]
/-- The inverse is finite. -/
theorem inv_fin {n : Nat} {S : El} (hI : ¬ invJ n S < n) {i j : Nat} (hi : i < n) (hj : j < n) : pFinite (invE n S i j) = true :=
  sol_fin (show solFine (lowE S) (uppE S) S.o (bOf (eCol n j)) n = true from colOk_of hj hI) i hi
theorem ofI_ok {r c : Int} {l : List C} (h : (ofI r c l).1 = 0) : (ofF r c l).1 = 0 ∧ ¬ invJ r.toNat (ofS r l) < r.toNat ∧ ofI r c l = (0, 0) := by
  unfold ofI at h ⊢
  by_cases hF : (ofF r c l).1 = 0
  · rw [if_pos hF] at h ⊢
    by_cases h1 : invJ r.toNat (ofS r l) < r.toNat
    · rw [if_pos h1] at h; simp at h
    · rw [if_neg h1]; exact ⟨hF, h1, rfl⟩
  · rw [if_neg hF] at h; exact absurd h hF
/-- The sizes' sums are the same. -/
theorem norm1_same {l l' : List C} {n : Nat} (h : ∀ i j, i < n → j < n → pSize1 (ent l' n i j) = pSize1 (ent l n i j)) : norm1 l' n n = norm1 l n n := by
  have h1 : ∀ j, j < n → ∀ k, k ≤ n → colSum l' n j k = colSum l n j k := fun j hj k => by
    induction k with
    | zero => intro _; rfl
    | succ k ih => intro hk; rw [colSum, colSum, ih (by omega), h k j (by omega) hj]
  have h2 : colSums l' n n n = colSums l n n n := List.map_congr_left fun j hj => h1 j (List.mem_range.1 hj) n (Nat.le_refl _)
  unfold norm1; rw [h2]
theorem norm1_conj {l : List C} {n : Nat} (hl : l.length = n * n) (h : ltCs l) (hf : ∀ z ∈ l, pFinite z = true) : norm1 (conjB l) n n = norm1 l n n :=
  norm1_same fun i j hi hj => by
    have hm := (mat_conj hl h hf).mir i j hi hj
    have f1 : pFinite (l.getD (i * n + j) (0, 0)) = true := matE_fin hl hf i j hi hj
    have f2 : pFinite ((conjB l).getD (i * n + j) (0, 0)) = true := hm.finite.trans f1
    unfold ent
    rw [fin_cn f1, fin_cn f2]
    exact hm.size1
theorem ent_entries {n i j : Nat} {E : Nat → Nat → C} (hi : i < n) (hj : j < n) (hf : pFinite (E i j) = true) : ent (entries n E (n * n)) n i j = E i j := by
  have h : i * n + j < n * n := by
    have h1 : (i + 1) * n ≤ n * n := Nat.mul_le_mul_right _ hi
    rw [Nat.add_mul, Nat.one_mul] at h1; omega
  unfold ent entries
  rw [List.getD_eq_getElem?_getD, List.getElem?_map, List.getElem?_range h]
  show cnC (entry n E (i * n + j)) = _
  rw [entry_at E hj]; exact fin_cn hf
/-- What errors are carried by: the two norms' product. -/
def carP (n : Nat) (l : List C) : Nat := fmul (cn .f64 (norm1 l n n)) (cn .f64 (norm1 (entries n (invE n (ofS n l)) (n * n)) n n))
def carBad (n : Nat) (l : List C) : Bool := isInf double (carP n l) || isNaN double (carP n l)
def carF (r c : Int) (l : List C) : Int × Int := if (ofI r c l).1 = 0 then (if carBad r.toNat l then (6, -1) else (0, 0)) else ofI r c l
def carV (r c : Int) (l : List C) : Nat := if (ofI r c l).1 = 0 then (if carBad r.toNat l then 0 else carP r.toNat l) else 0
theorem carP_mir {l : List C} {n : Nat} (hn : n ≤ 64) (hl : l.length = n * n) (h : ltCs l) (hI : (ofI n n l).1 = 0) : carP n (conjB l) = carP n l := by
  obtain ⟨hF, hJ0, -⟩ := ofI_ok hI
  have hJ : ¬ invJ n (ofS n l) < n := hJ0
  have hJ' : ¬ invJ n (ofS n (conjB l)) < n := by rw [invJ_mir hn hl h hF]; exact hJ
  obtain ⟨hm, -⟩ := inv_mir hn hl h hF
  have e2 : norm1 (entries n (invE n (ofS n (conjB l))) (n * n)) n n = norm1 (entries n (invE n (ofS n l)) (n * n)) n n := norm1_same fun i j hi hj => by
    rw [ent_entries hi hj (inv_fin hJ' hi hj), ent_entries hi hj (inv_fin hJ hi hj)]
    exact (hm i j hi hj).size1
  unfold carP
  rw [norm1_conj hl h (of_fin hn hl hF).1, e2]
theorem car_mir {l : List C} {n : Nat} (hn : n ≤ 64) (hl : l.length = n * n) (h : ltCs l) : carF n n (conjB l) = carF n n l ∧ carV n n (conjB l) = carV n n l := by
  have hI := ofI_mir hn hl h
  unfold carF carV
  rw [hI]
  by_cases h0 : (ofI n n l).1 = 0
  · have hP : carP (n : Int).toNat (conjB l) = carP (n : Int).toNat l := carP_mir hn hl h h0
    rw [if_pos h0, if_pos h0, if_pos h0, if_pos h0]
    unfold carBad
    rw [hP]
    exact ⟨rfl, rfl⟩
  · rw [if_neg h0, if_neg h0, if_neg h0, if_neg h0]; exact ⟨rfl, rfl⟩
theorem inv_lt {l : List C} {n : Nat} (hn : n ≤ 64) (hl : l.length = n * n) (h : ltCs l) (hF : (ofF n n l).1 = 0) : ltCs (entries n (invE n (ofS n l)) (n * n)) := fun z hz => by
  obtain ⟨p, hp, rfl⟩ := List.mem_map.1 hz
  have hp := List.mem_range.1 hp
  have hn0 : 0 < n := Nat.pos_of_ne_zero fun h0 => by subst h0; simp at hp
  exact ((inv_mir hn hl h hF).1 (p / n) (p % n) (Nat.div_lt_of_lt_mul hp) (Nat.mod_lt _ hn0)).2.1
end Go.Proofs.Ytajdfbjjgjpicaa
