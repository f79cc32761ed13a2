/- LowerMirror's walk. -/
import Derived.Test.YtibjkmjccelcaaaLMr
namespace Go.Proofs.Ytibjkmjccelcaaa
open Go.RowKit Fl Ieee
set_option maxRecDepth 20000
attribute [local go_sem] run_store_float run_store_complex Fl.order_self Fl.order_self' Fl.order_eq Fl.order_ne Fl.order_lt Fl.order_gt
set_option maxHeartbeats 4000000 in
theorem Mirror_bad (n : Int) (A : Option Addr) (l : List C) (cap : Nat) (w : World) (hr : Reads w w.heap.size A (zcells l)) (hlt : ltCs l) (hF : (ofF (sqN n : Nat) (sqN n : Nat) (sqL l (sqN n * sqN n))).1 ≠ 0) :
    Calls Try.prog 4 #[.int .i64 n, .slice A l.length cap] w fun e w' => e = .returned (.bool true) ∧ Below w.heap.size w w' := by
  have HSq := Lib.hid (Square_c n A l cap w hr)
  obtain ⟨N, hN⟩ : ∃ N, N = sqN n := ⟨_, rfl⟩
  have hN64 : N ≤ 64 := by rw [hN]; exact sqN_le n
  obtain ⟨L, hL⟩ : ∃ L, L = sqL l (N * N) := ⟨_, rfl⟩
  have hLl : L.length = N * N := by rw [hL]; exact sqL_len _ _
  have hLt : ltCs L := by rw [hL]; exact sqL_lt hlt _
  rw [← hN, ← hL] at HSq hF
  obtain ⟨hm, -⟩ := of_mirror hN64 hLl hLt
  obtain ⟨f1, f2, hf⟩ : ∃ f1 f2, ofF N N L = (f1, f2) := ⟨_, _, rfl⟩
  rw [hf] at hF hm
  have hF1 : f1 ≠ 0 := hF
  have hl4 : L.length ≤ 4096 := by rw [hLl]; exact prod_small hN64 hN64
  have HOf := Lib.hid (fun (B : Option Addr) (c : Nat) (V : World) (h1 : L.length ≤ c) (h2 : Reads V V.heap.size B (nums L)) =>
    (show Calls Try.prog 13 #[mval N N (.slice B L.length c)] V fun e w' => e = .returned (.tuple #[.pointer none, .agg #[.int .i64 f1, .int .i64 f2]]) ∧ Below V.heap.size V w' from
      (Of_c N N B L c V h1 h2 hLt).mono fun e w' h => by rw [hf] at h; exact h.bad hF1))
  have HOg := Lib.hid (fun (B : Option Addr) (c : Nat) (V : World) (h1 : (conjB L).length ≤ c) (h2 : Reads V V.heap.size B (nums (conjB L))) =>
    (show Calls Try.prog 13 #[mval N N (.slice B (conjB L).length c)] V fun e w' => e = .returned (.tuple #[.pointer none, .agg #[.int .i64 f1, .int .i64 f2]]) ∧ Below V.heap.size V w' from
      (Of_c N N B (conjB L) c V h1 h2 (conjB_lt hLt)).mono fun e w' h => by rw [hm] at h; exact h.bad hF1))
  have HCj := Lib.hid (fun (B : Option Addr) (c : Nat) (V : World) (h2 : Reads V V.heap.size B (nums L)) => ConjMatrix_c N N B L c V (by omega) h2)
  have hne : (f1 == 0) = false := by simpa using hF1
  clear hr hlt hN hL hm hf hF hF1 hLt hLl hl4 hN64
  go_enter Try.func4, Try.ntmps4
  go_wp2_with fail
  refine HSq.out.mono ?_
  rintro e W1 hr
  obtain ⟨A1, c1, rfl, hrd, hle, -, -, hb⟩ := hr.lies
  have hb1 := below_new W1 (.cells #[.int .i64 (N : Nat), .int .i64 (N : Nat), .slice A1 L.length c1] 26)
  have B1 := Lib.hid (hb.trans (hb1.mono hb.size))
  have HRd := Lib.hid ((hrd.below hb1).more hb1.size)
  have HLe := Lib.hid hle
  have HRow := Lib.hid (heap_alloc_new W1 (.cells #[.int .i64 (N : Nat), .int .i64 (N : Nat), .slice A1 L.length c1] 26))
  clear hr hrd hle hb hb1
  go_wp2_with fail
  refine (HOf.out _ _ _ HLe.out HRd.out).mono ?_
  rintro e W2 ⟨rfl, hb⟩
  have hb2 := hb.trans ((below_new W2 (.cells #[.int .i64 f1, .int .i64 f2] 31)).mono hb.size)
  have HRow2 := Lib.hid (row_keep hb2 HRow.out)
  have HRd2 := Lib.hid ((HRd.out.below hb2).more hb2.size)
  have B2 := Lib.hid (B1.out.trans (hb2.mono B1.out.size))
  have HFr := Lib.hid (heap_alloc_new W2 (.cells #[.int .i64 f1, .int .i64 f2] 31))
  obtain ⟨x0, x1, x2, -⟩ := box3 HRow2.out
  clear hb hb2
  go_wp2_with fail
  refine (HCj.out _ _ _ HRd2.out).mono ?_
  rintro e W3 hr
  obtain ⟨A3, c3, rfl, hrd, hle, -, -, hb⟩ := hr.lies
  have B3 := Lib.hid (B2.out.trans (hb.mono B2.out.size))
  have HFr3 := Lib.hid (row_keep hb HFr.out)
  have HRd3 := Lib.hid hrd
  have HLe3 := Lib.hid hle
  clear hr hrd hle hb x0 x1 x2
  go_wp2_with fail
  refine (HOg.out _ _ _ HLe3.out HRd3.out).mono ?_
  rintro e W4 ⟨rfl, hb⟩
  have hb4 := hb.trans ((below_new W4 (.cells #[.int .i64 f1, .int .i64 f2] 31)).mono hb.size)
  have HFr4 := Lib.hid (row_keep hb4 HFr3.out)
  have B4 := Lib.hid (B3.out.trans (hb4.mono B3.out.size))
  obtain ⟨y0, y1, -⟩ := row2 HFr4.out
  clear hb hb4
  go_wp2_with fail
  refine (awake9_c _).mono ?_
  rintro e W5 ⟨rfl, hb⟩
  have HFr5 := Lib.hid (row_keep hb HFr4.out)
  have B5 := Lib.hid (B4.out.trans (hb.mono B4.out.size))
  obtain ⟨z0, z1, -⟩ := row2 HFr5.out
  clear hb y0 y1
  go_wp2
  go_ret
  exact ⟨rfl, B5.out⟩
theorem RetMx.liesN {w w' : World} {r c M : Nat} {l : List C} {e : Ending} (h : RetMx r c l w e w') (hM : l.length = M) : ∃ A zs cap, e = .returned (mval r c (.slice A M cap)) ∧ zs.length = M ∧ zs.map cnC = l ∧ ltCs zs ∧ Reads w' w'.heap.size A (nums zs) ∧ Below w.heap.size w w' := by
  obtain ⟨A, zs, cap, rfl, hz, hlz, h1, -, -, -, hb⟩ := h.lies
  have e : zs.length = M := by rw [← hM, ← hz, List.length_map]
  exact ⟨A, zs, cap, by rw [e], e, hz, hlz, h1, hb⟩
theorem RetMs.liesN {w w' : World} {r c : Int} {M : Nat} {l : List C} {e : Ending} (h : RetMs r c l w e w') (hM : l.length = M) : ∃ A cap, e = .returned (mval r c (.slice A M cap)) ∧ Reads w' w'.heap.size A (nums l) ∧ M ≤ cap ∧ Below w.heap.size w w' := by
  obtain ⟨A, cap, rfl, h1, h2, -, -, hb⟩ := h.lies
  exact ⟨A, cap, by rw [hM], h1, by omega, hb⟩
/-- What stands while both are asked. -/
structure MirW (w : World) (N M bx b' mb B1 B2 : Nat) (A1 : Option Addr) (c1 : Nat) (L : List C) (S S' : El) (W : World) : Prop where
  x : Has9 W B1 bx N S
  y : Has9 W B2 b' N S'
  row : W.heap[mb]? = some (.cells #[.int .i64 (N : Nat), .int .i64 (N : Nat), .slice A1 M c1] 26)
  rd : Reads W W.heap.size A1 (nums L)
  bel : Below w.heap.size w W
theorem MirW.below {w : World} {N M bx b' mb B1 B2 : Nat} {A1 : Option Addr} {c1 : Nat} {L : List C} {S S' : El} {W V : World} (h : MirW w N M bx b' mb B1 B2 A1 c1 L S S' W) (hb : Below W.heap.size W V) : MirW w N M bx b' mb B1 B2 A1 c1 L S S' V where
  x := h.x.below hb
  y := h.y.below hb
  row := row_keep hb h.row
  rd := (h.rd.below hb).more hb.size
  bel := h.bel.trans (hb.mono h.bel.size)
theorem cn_rung {x : Nat} (h : rung double x < double.infRung) : cn .f64 (rung double x) = rung double x :=
  cn_of_not (k := .f64) (by show isNaN double (rung double x) = false; unfold isNaN; rw [(sgn_rung' (Nat.le_of_lt h)).2]; exact decide_eq_false (by omega))
theorem infoBool9 : (Try.prog.info? 4).map (fun i => (i.zero, i.size, i.bytes)) = some (some (.bool false), 1, 1) := by kernel_rfl
theorem entries_conj {zs : List C} {E : Nat → Nat → C} {n : Nat} (hz : zs.map cnC = entries n E (n * n)) (hl : ltCs zs) : (conjB zs).map cnC = (entries n E (n * n)).map fun z => pConj (cnC z) := by
  rw [conjB_cn hl, ← hz, List.map_map]
  exact List.map_congr_left fun z _ => by show pConj (cnC z) = pConj (cnC (cnC z)); rw [cnC_cnC]
set_option maxHeartbeats 8000000 in
theorem Mirror_good (n : Int) (A : Option Addr) (l : List C) (cap : Nat) (w : World) (hr : Reads w w.heap.size A (zcells l)) (hlt : ltCs l) (hF : (ofF (sqN n : Nat) (sqN n : Nat) (sqL l (sqN n * sqN n))).1 = 0) :
    Calls Try.prog 4 #[.int .i64 n, .slice A l.length cap] w fun e w' => e = .returned (.bool true) ∧ Below w.heap.size w w' := by
  have HSq := Lib.hid (Square_c n A l cap w hr)
  obtain ⟨N, hN⟩ : ∃ N, N = sqN n := ⟨_, rfl⟩
  have hN64 : N ≤ 64 := by rw [hN]; exact sqN_le n
  obtain ⟨L, hL⟩ : ∃ L, L = sqL l (N * N) := ⟨_, rfl⟩
  have hLl : L.length = N * N := by rw [hL]; exact sqL_len _ _
  have hLt : ltCs L := by rw [hL]; exact sqL_lt hlt _
  rw [← hN, ← hL] at HSq hF
  obtain ⟨hm, ht0⟩ := of_mirror hN64 hLl hLt
  have ht := ht0 hF
  obtain ⟨hfin, hf, h0⟩ := of_fin hN64 hLl hF
  rw [hf] at hm
  obtain ⟨S, hS⟩ : ∃ S, S = ofS N L := ⟨_, rfl⟩
  obtain ⟨S', hS'⟩ : ∃ S', S' = ofS N (conjB L) := ⟨_, rfl⟩
  rw [← hS, ← hS'] at ht
  have hperm : Perm N S.o := by rw [hS]; exact of_perm
  obtain ⟨M, hM⟩ : ∃ M, M = N * N := ⟨_, rfl⟩
  have hM4 : M ≤ 4096 := by rw [hM]; exact prod_small hN64 hN64
  have hLM : L.length = M := hLl.trans hM.symm
  have hfirst : ∀ i, i < N → pSize1 (L.getD (i * N) (0, 0)) ≤ pSize1 (L.getD (S.o 0 * N) (0, 0)) := fun i hi => by
    have h1 := run_first (n := N) (S := S0 L N) (by omega) N (by omega) (Nat.le_refl _) h0
    have h2 : S.o 0 = elPiv N 0 (S0 L N) := by rw [hS]; exact h1
    rw [h2]
    have h3 := pivUp_max (c := fun i => (S0 L N).E i 0) (k := 0) (m := N - 0) (fun i _ hi => matE_fin hLl hfin i 0 (by omega) (by omega)) i (by omega) (by omega)
    exact h3
  have HOf := Lib.hid (fun (B : Option Addr) (c : Nat) (V : World) (h1 : M ≤ c) (h2 : Reads V V.heap.size B (nums L)) =>
    (show Calls Try.prog 13 #[mval N N (.slice B M c)] V fun e w' => ∃ b, e = .returned (.tuple #[.pointer (some ⟨b, 0, none⟩), .agg #[.int .i64 0, .int .i64 0]]) ∧ Has9 w' V.heap.size b N S ∧ Below V.heap.size V w' from by
      rw [← hLM] at h1 ⊢
      exact (Of_c N N B L c V h1 h2 hLt).mono fun e w' h => by rw [hS]; exact h.ok hf))
  have HOg := Lib.hid (fun (B : Option Addr) (c : Nat) (V : World) (h1 : M ≤ c) (h2 : Reads V V.heap.size B (nums (conjB L))) =>
    (show Calls Try.prog 13 #[mval N N (.slice B M c)] V fun e w' => ∃ b, e = .returned (.tuple #[.pointer (some ⟨b, 0, none⟩), .agg #[.int .i64 0, .int .i64 0]]) ∧ Has9 w' V.heap.size b N S' ∧ Below V.heap.size V w' from by
      rw [← hLM, ← conjB_len L] at h1 ⊢
      exact (Of_c N N B (conjB L) c V h1 h2 (conjB_lt hLt)).mono fun e w' h => by rw [hS']; exact h.ok hm))
  have HCj := Lib.hid (fun (B : Option Addr) (c : Nat) (zl : List C) (V : World) (hz : zl.length = M) (h2 : Reads V V.heap.size B (nums zl)) =>
    (show Calls Try.prog 20 #[mval N N (.slice B M c)] V (RetMs N N (conjB zl) V) from by rw [← hz]; exact ConjMatrix_c N N B zl c V (by omega) h2))
  have HEq := Lib.hid (fun (E E' : Nat → Nat → C) (B B' : Option Addr) (c c' : Nat) (zl zy : List C) (V : World) (h1 : zl.length = M) (h2 : zy.length = M) (hz : zl.map cnC = entries N E (N * N)) (hl : ltCs zl) (hy : zy.map cnC = entries N E' (N * N)) (hE : ∀ i j, i < N → j < N → zqC (E' i j) (pConj (E i j)) ∧ pFinite (E i j) = true ∧ ltC (E i j)) (r1 : Reads V V.heap.size B (nums (conjB zl))) (r2 : Reads V V.heap.size B' (nums zy)) =>
    EqualMatrix_t N N B B' (conjB zl) zy M c c' V ((conjB_len zl).trans h1) h2 (mir_equal (entries_conj hz hl) hy hE) (by omega) r1 r2)
  have HMir := Lib.hid ht
  have HPerm := Lib.hid hperm
  have HFirst := Lib.hid hfirst
  have HFinL := Lib.hid hfin
  have HLtL := Lib.hid hLt
  have HLM := Lib.hid hLM
  have HMN := Lib.hid hM
  have HN64 := Lib.hid hN64
  have hmk := run_make_row' (P := Try.prog) 50 4 (.bool false) 1 Try.underlying50 infoBool9 rfl .i64 .i64 N (by omega) (by omega)
  have hEl : (entries N (lowE S) (N * N)).length = M := by rw [hM]; simp [entries]
  have hEu : (entries N (uppE S) (N * N)).length = M := by rw [hM]; simp [entries]
  have hEl' : (entries N (lowE S') (N * N)).length = M := by rw [hM]; simp [entries]
  have hEu' : (entries N (uppE S') (N * N)).length = M := by rw [hM]; simp [entries]
  have HLen := Lib.hid (And.intro hEl (And.intro hEu (And.intro hEl' hEu')))
  clear hr hlt hN hL hm ht0 hf hF hLt hLl hN64 ht hfin h0 hS hS' hperm hM hM4 hfirst hLM hEl hEu hEl' hEu'
  go_enter Try.func4, Try.ntmps4
  go_wp2_with fail
  refine HSq.out.mono ?_
  rintro e W1 hr
  obtain ⟨A1, c1, rfl, hrd, hle, hb⟩ := hr.liesN HLM.out
  have hb1 := below_new W1 (.cells #[.int .i64 (N : Nat), .int .i64 (N : Nat), .slice A1 M c1] 26)
  have B1 := Lib.hid (hb.trans (hb1.mono hb.size))
  have HRd := Lib.hid ((hrd.below hb1).more hb1.size)
  have HLe := Lib.hid hle
  have HRow := Lib.hid (heap_alloc_new W1 (.cells #[.int .i64 (N : Nat), .int .i64 (N : Nat), .slice A1 M c1] 26))
  clear hr hrd hle hb hb1
  go_wp2_with fail
  refine (HOf.out _ _ _ HLe.out HRd.out).mono ?_
  rintro e W2 ⟨bx, rfl, h9, hb⟩
  have hbn := below_new W2 (.cells #[.int .i64 0, .int .i64 0] 31)
  have hb2 := hb.trans (hbn.mono hb.size)
  have HX2 := Lib.hid (h9.below hbn)
  have HRow2 := Lib.hid (row_keep hb2 HRow.out)
  have HRd2 := Lib.hid ((HRd.out.below hb2).more hb2.size)
  have B2 := Lib.hid (B1.out.trans (hb2.mono B1.out.size))
  have HFr := Lib.hid (heap_alloc_new W2 (.cells #[.int .i64 0, .int .i64 0] 31))
  obtain ⟨x0, x1, x2, -⟩ := box3 HRow2.out
  clear hb hb2 h9 hbn
  go_wp2_with fail
  refine (HCj.out _ _ L _ HLM.out HRd2.out).mono ?_
  rintro e W3 hr
  obtain ⟨A3, c3, rfl, hrd, hle, hb⟩ := hr.liesN ((conjB_len L).trans HLM.out)
  have B3 := Lib.hid (B2.out.trans (hb.mono B2.out.size))
  have HFr3 := Lib.hid (row_keep hb HFr.out)
  have HRow3 := Lib.hid (row_keep hb HRow2.out)
  have HX3 := Lib.hid (HX2.out.below hb)
  have HRd3 := Lib.hid hrd
  have HRm3 := Lib.hid ((HRd2.out.below hb).more hb.size)
  have HLe3 := Lib.hid hle
  clear hr hrd hle hb x0 x1 x2
  go_wp2_with fail
  refine (HOg.out _ _ _ HLe3.out HRd3.out).mono ?_
  rintro e W4 ⟨b', rfl, h9, hb⟩
  have hbn := below_new W4 (.cells #[.int .i64 0, .int .i64 0] 31)
  have hb4 := hb.trans (hbn.mono hb.size)
  have HFr4 := Lib.hid (row_keep hb4 HFr3.out)
  have HM4 := Lib.hid (show MirW w N M bx b' W1.heap.size _ _ A1 c1 L S S' _ from ⟨HX3.out.below hb4, h9.below hbn, row_keep hb4 HRow3.out, (HRm3.out.below hb4).more hb4.size, B3.out.trans (hb4.mono B3.out.size)⟩)
  obtain ⟨y0, y1, -⟩ := row2 HFr4.out
  clear hb hb4 h9 hbn
  go_wp2_with fail
  refine (awake9_c _).mono ?_
  rintro e W5 ⟨rfl, hb⟩
  have HM5 := Lib.hid (HM4.out.below hb)
  clear hb y0 y1
  go_wp2_with fail
  refine (L_c W5 HM5.out.x HMir.out.fin HN64.out).mono ?_
  rintro e W6 hr
  obtain ⟨A6, z6, c6, rfl, hl6, hz6, ht6, hr6, hb⟩ := hr.liesN HLen.out.1
  have HM6 := Lib.hid (HM5.out.below hb)
  have HZ6 := Lib.hid (And.intro hl6 (And.intro hz6 ht6))
  have HR6 := Lib.hid hr6
  clear hr hl6 hz6 ht6 hr6 hb
  go_wp2_with fail
  refine (HCj.out _ _ z6 _ HZ6.out.1 HR6.out).mono ?_
  rintro e W7 hr
  obtain ⟨A7, c7, rfl, hr7, -, hb⟩ := hr.liesN ((conjB_len z6).trans HZ6.out.1)
  have HM7 := Lib.hid (HM6.out.below hb)
  have HR7 := Lib.hid hr7
  clear hr hr7 hb
  go_wp2_with fail
  refine (L_c W7 HM7.out.y HMir.out.fin' HN64.out).mono ?_
  rintro e W8 hr
  obtain ⟨A8, z8, c8, rfl, hl8, hz8, ht8, hr8, hb⟩ := hr.liesN HLen.out.2.2.1
  have HM8 := Lib.hid (HM7.out.below hb)
  have HE8 := Lib.hid (HEq.out (lowE S) (lowE S') A7 A8 c7 c8 z6 z8 W8 HZ6.out.1 hl8 HZ6.out.2.1 HZ6.out.2.2 hz8 (low_mir HMir.out) ((HR7.out.below hb).more hb.size) hr8)
  clear hr hl8 hz8 ht8 hr8 hb
  go_wp2_with fail
  refine HE8.out.mono ?_
  rintro e W9 ⟨rfl, hb⟩
  have HM9 := Lib.hid (HM8.out.below hb)
  clear hb HE8 HR7 HZ6 HR6
  go_wp2_with fail
  refine (U_c W9 HM9.out.x HMir.out.fin HN64.out).mono ?_
  rintro e W10 hr
  obtain ⟨A6, z6, c6, rfl, hl6, hz6, ht6, hr6, hb⟩ := hr.liesN HLen.out.2.1
  have HM10 := Lib.hid (HM9.out.below hb)
  have HZ6 := Lib.hid (And.intro hl6 (And.intro hz6 ht6))
  have HR6 := Lib.hid hr6
  clear hr hl6 hz6 ht6 hr6 hb
  go_wp2_with fail
  refine (HCj.out _ _ z6 _ HZ6.out.1 HR6.out).mono ?_
  rintro e W11 hr
  obtain ⟨A7, c7, rfl, hr7, -, hb⟩ := hr.liesN ((conjB_len z6).trans HZ6.out.1)
  have HM11 := Lib.hid (HM10.out.below hb)
  have HR7 := Lib.hid hr7
  clear hr hr7 hb
  go_wp2_with fail
  refine (U_c W11 HM11.out.y HMir.out.fin' HN64.out).mono ?_
  rintro e W12 hr
  obtain ⟨A8, z8, c8, rfl, hl8, hz8, ht8, hr8, hb⟩ := hr.liesN HLen.out.2.2.2
  have HM12 := Lib.hid (HM11.out.below hb)
  have HE8 := Lib.hid (HEq.out (uppE S) (uppE S') A7 A8 c7 c8 z6 z8 W12 HZ6.out.1 hl8 HZ6.out.2.1 HZ6.out.2.2 hz8 (upp_mir HMir.out) ((HR7.out.below hb).more hb.size) hr8)
  clear hr hl8 hz8 ht8 hr8 hb
  go_wp2_with fail
  refine HE8.out.mono ?_
  rintro e W13 ⟨rfl, hb⟩
  have HM13 := Lib.hid (HM12.out.below hb)
  clear hb HE8 HR7 HZ6 HR6
  go_wp2_with fail
  refine (Order_c W13 HM13.out.x HN64.out).mono ?_
  rintro e W14 hr
  obtain ⟨Ao, co, rfl, hro, -, hb⟩ := hr.lies
  have HM14 := Lib.hid (HM13.out.below hb)
  have HRo := Lib.hid hro
  clear hr hro hb
  go_wp2_with fail
  refine (Order_c W14 HM14.out.y HN64.out).mono ?_
  rintro e W15 hr
  rw [HMir.out.o] at hr
  obtain ⟨Ap, cp, rfl, hrp, -, hb⟩ := hr.lies
  have HM15 := Lib.hid (HM14.out.below hb)
  have HSi := Lib.hid (SameInts_t Ao Ap _ N co cp W15 (by simp) (by have := HN64.out; omega) ((HRo.out.below hb).more hb.size) hrp)
  clear hr hrp hb
  go_wp2_with fail
  refine HSi.out.mono ?_
  rintro e W16 ⟨d16, rfl, h16⟩
  have HM16 := Lib.hid (HM15.out.below (show Below _ _ W16 by rw [h16]; exact below_drewN (Below.refl _ _) d16))
  clear h16 HSi
  go_wp2_with fail
  refine (Sign_c W16 HM16.out.x).mono ?_
  rintro e w' ⟨rfl, rfl⟩
  go_wp2_with fail
  refine (Sign_c W16 HM16.out.y).mono ?_
  rw [HMir.out.s]
  rintro e w' ⟨rfl, rfl⟩
  go_wp2_with fail
  refine (Order_c W16 HM16.out.x HN64.out).mono ?_
  rintro e W17 hr
  obtain ⟨Aq, cq, rfl, hrq, -, hb⟩ := hr.lies
  have HM17 := Lib.hid (HM16.out.below hb)
  have HRq := Lib.hid hrq
  clear hr hrq hb
  obtain ⟨x0, x1, x2, -⟩ := box3 HM17.out.row
  go_wp2
  have HMet0 := Lib.hid (show rowGe (W17.alloc (.cells (madeCells #[.bool false] N) 4)) W17.heap.size 4 N (fun _ => .bool false) by
    obtain ⟨c, h1, h2, h3⟩ := World.rowIs_made W17 (.bool false) N 4
    exact ⟨c, h1, by omega, h3⟩)
  clear x0 x1 x2 hmk
  go_loopw [12] (fun i wr => ∃ (k : Nat) (f : Nat → Bool), k ≤ N ∧ i = .int .i64 (k : Nat) ∧ (∀ j, j < N → (f j = true ↔ ∃ a, a < k ∧ S.o a = j)) ∧ rowGe wr W17.heap.size 4 N (fun j => .bool (f j)) ∧ Below W17.heap.size W17 wr) (fun i _ => N - (intOf i).toNat)
  case atStart => exact ⟨0, fun _ => false, Nat.zero_le _, rfl, fun j _ => ⟨(fun h => by cases h), (fun ⟨a, h, _⟩ => by omega)⟩, HMet0.out, below_new _ _⟩
  case round =>
    obtain ⟨k, f, hk, rfl, hf, hrow, hb⟩ := hrel
    have HF := Lib.hid hf
    have HRow' := Lib.hid hrow
    have HBw := Lib.hid hb
    have HMw := Lib.hid (HM17.out.below hb)
    obtain ⟨x0, x1, x2, -⟩ := box3 HMw.out.row
    have hkb : (k : Int) + 1 ≤ 65 := by have := HN64.out; omega
    clear hf hrow hb
    by_cases hlt : k < N
    · have hlti : (k : Int) < (N : Int) := Int.ofNat_lt.2 hlt
      obtain ⟨p, hp⟩ : ∃ p, p = S.o k := ⟨_, rfl⟩
      have hv : (intsV ((List.range N).map fun i => ((S.o i : Nat) : Int)))[k]? = some (.int .i64 (p : Nat)) := by simp [hlt, hp]
      obtain ⟨ad, rfl, had, hc⟩ := ((HRq.out.below HBw.out).more HBw.out.size).at_ hv
      have hpN : p < N := by rw [hp]; exact HPerm.out.1 k hlt
      have hpi : (p : Int) < (N : Int) := Int.ofNat_lt.2 hpN
      have hfp : f p = false := Bool.eq_false_iff.2 fun e => by
        obtain ⟨a, ha, hao⟩ := (HF.out p hpN).1 e
        have := HPerm.out.2 a k (by omega) hlt (hao.trans hp)
        omega
      have hcm := HRow'.out.cell hpN
      rw [hfp] at hcm
      have hcf := HRow'.out.frozen p
      have HP := Lib.hid hp
      have hd0 : decide ((p : Int) < 0) = false := by simp
      have hd1 : decide ((p : Int) ≥ (N : Int)) = false := by simp; omega
      clear hv hp hfp had
      go_wp2
      go_quiet (fail)
      all_goals
        go_wp2
        go_roundw
        case rel =>
          refine ⟨k + 1, fun j => if j = p then true else f j, hlt, by go_num, fun j hj => ?_, ?_, ?_⟩
          · show ((if j = p then true else f j) = true) ↔ _
            by_cases e : j = p
            · subst e
              rw [if_pos rfl]
              exact ⟨fun _ => ⟨k, Nat.lt_succ_self _, HP.out.symm⟩, fun _ => rfl⟩
            · rw [if_neg e, HF.out j hj]
              refine ⟨fun ⟨a, h1, h2⟩ => ⟨a, by omega, h2⟩, fun ⟨a, h1, h2⟩ => ?_⟩
              by_cases ea : a = k
              · subst ea; exact absurd (h2.symm.trans HP.out.symm) e
              · exact ⟨a, by omega, h2⟩
          · refine (rowGe.set (W := wr.drewN _) HRow'.out p (.bool true)).congr fun j _ => ?_
            show (if j = p then Value.bool true else .bool (f j)) = .bool (if j = p then true else f j)
            by_cases e : j = p
            · rw [if_pos e, if_pos e]
            · rw [if_neg e, if_neg e]
          · exact (below_drewN HBw.out _).setCell (Nat.le_refl _) _
        case measure => simp [intOf]; omega
    · have hkN : k = N := by omega
      subst hkN
      rename World => V1
      have HMl := HMw
      have HBl := HBw
      clear HF HRow'
      go_wp2
      go_loopw [13] (fun i wx => ∃ (a d : Nat), a ≤ k ∧ i = .int .i64 (a : Nat) ∧ wx = V1.drewN d) (fun i _ => k - (intOf i).toNat)
      case atStart => exact ⟨0, 0, Nat.zero_le _, rfl, rfl⟩
      case round =>
        obtain ⟨a, d, ha, rfl, hwr⟩ := hrel
        have HMx := Lib.hid (HMl.out.below (show Below _ _ wr by rw [hwr]; exact below_drewN (Below.refl _ _) d))
        have HBx := Lib.hid (HBl.out.trans ((show Below _ _ wr by rw [hwr]; exact below_drewN (Below.refl _ _) d).mono HBl.out.size))
        have HWx := Lib.hid hwr
        clear hwr
        obtain ⟨y0, y1, y2, -⟩ := box3 HMx.out.row
        by_cases hlt : a < k
        · have hlti : (a : Int) < (k : Int) := Int.ofNat_lt.2 hlt
          obtain ⟨p, hp⟩ : ∃ p, p = S.o 0 := ⟨_, rfl⟩
          have hv : (intsV ((List.range k).map fun i => ((S.o i : Nat) : Int)))[0]? = some (.int .i64 (p : Nat)) := by simp [show 0 < k by omega, hp]
          obtain ⟨ad, rfl, had, hc⟩ := ((HRq.out.below HBx.out).more HBx.out.size).at_ hv
          have hc' : wr.cell? ad = some (.int .i64 (p : Nat)) := by simpa [Addr.add] using hc
          have hpk : p < k := by rw [hp]; exact HPerm.out.1 0 (by omega)
          have hpkM : p * k < M := by
            rw [HMN.out]
            have h1 : (p + 1) * k ≤ k * k := Nat.mul_le_mul_right _ hpk
            rw [Nat.add_mul, Nat.one_mul] at h1; omega
          have hakM : a * k < M := by
            rw [HMN.out]
            have h1 : (a + 1) * k ≤ k * k := Nat.mul_le_mul_right _ hlt
            rw [Nat.add_mul, Nat.one_mul] at h1; omega
          have hM4 : M ≤ 4096 := by rw [HMN.out]; exact prod_small HN64.out HN64.out
          obtain ⟨P, hP⟩ : ∃ P, P = p * k := ⟨_, rfl⟩
          obtain ⟨Q, hQ⟩ : ∃ Q, Q = a * k := ⟨_, rfl⟩
          have hm1 : wrap64 ((p : Int) * (k : Int)) = (P : Int) := by rw [hP, ← Int.natCast_mul]; unfold wrap64; omega
          have hm2 : wrap64 ((a : Int) * (k : Int)) = (Q : Int) := by rw [hQ, ← Int.natCast_mul]; unfold wrap64; omega
          rw [← hP] at hpkM
          rw [← hQ] at hakM
          obtain ⟨z, hz⟩ := some_of_lt (l := L) (k := P) (by rw [HLM.out]; exact hpkM)
          obtain ⟨u, hu⟩ := some_of_lt (l := L) (k := Q) (by rw [HLM.out]; exact hakM)
          have hzv : (nums L)[P]? = some (.complex .f64 z.1 z.2) := by simp [nums, hz]
          have huv : (nums L)[Q]? = some (.complex .f64 u.1 u.2) := by simp [nums, hu]
          obtain ⟨a1, rfl, ha1, hcz⟩ := HMx.out.rd.at_ hzv
          obtain ⟨a2, e2, ha2, hcu⟩ := HMx.out.rd.at_ huv
          have e3 : a1 = a2 := by simpa using e2
          subst e3
          have hle := HFirst.out a hlt
          rw [← hp, ← hP, ← hQ, List.getD_eq_getElem?_getD, List.getD_eq_getElem?_getD, hz, hu] at hle
          have hle : pSize1 u ≤ pSize1 z := hle
          have fz := HFinL.out z (List.mem_of_getElem? hz)
          have fu := HFinL.out u (List.mem_of_getElem? hu)
          have lz := HLtL.out z (List.mem_of_getElem? hz)
          have lu := HLtL.out u (List.mem_of_getElem? hu)
          have hflt : flt .f64 (pSize1 z) (pSize1 u) = false := by
            rw [flt_rungs (size1_fin fz).1 (size1_fin fu).1]; exact decide_eq_false (by omega)
          have hsz : fadd (cn .f64 (rung double z.1)) (cn .f64 (rung double z.2)) = pSize1 z := by
            obtain ⟨g1, g2, n1, n2, i1, i2⟩ := fin_parts fz
            unfold pSize1; rw [(fabs_fin i1 n1).1, (fabs_fin i2 n2).1, cn_rung g1, cn_rung g2]
          have hsu : fadd (cn .f64 (rung double u.1)) (cn .f64 (rung double u.2)) = pSize1 u := by
            obtain ⟨g1, g2, n1, n2, i1, i2⟩ := fin_parts fu
            unfold pSize1; rw [(fabs_fin i1 n1).1, (fabs_fin i2 n2).1, cn_rung g1, cn_rung g2]
          have HSz := Lib.hid hsz
          have HSu := Lib.hid hsu
          have HFlt := Lib.hid hflt
          have HNz := Lib.hid (size1_num fz)
          have HNu := Lib.hid (size1_num fu)
          obtain ⟨lz1, lz2⟩ := lz
          obtain ⟨lu1, lu2⟩ := lu
          clear hp hv had hP hQ hz hu hzv huv e2 ha1 ha2 hle fz fu hflt hsz hsu x0 x1 x2 hpk hc
          go_wp2
          go_quiet (fail)
          all_goals
            go_wp2_with (first | (go_at_call 23; refine (mAbs_c _ (by assumption) _).mono ?_; rintro e w' ⟨rfl, rfl⟩))
            refine upon_add _ _ _ _ ?_
            intro r1 n1 h1
            have e1 : r1 = pSize1 u := cn_only' (h1.1.trans HSu.out) HNu.out
            subst e1
            clear h1
            go_wp2_with (first | (go_at_call 23; refine (mAbs_c _ (by assumption) _).mono ?_; rintro e w' ⟨rfl, rfl⟩))
            refine upon_add _ _ _ _ ?_
            intro r2 n2 h2
            have e2 : r2 = pSize1 z := cn_only' (h2.1.trans HSz.out) HNz.out
            subst e2
            have hflt := HFlt.out
            clear h2
            go_wp2
            go_roundw
            case rel => exact ⟨a + 1, _, hlt, by go_num, by rw [HWx.out, World.drewN_drewN]⟩
            case measure => simp [intOf]; omega
        · have e : a = k := by omega
          subst e
          go_wp2
          go_ret
          exact ⟨rfl, HMx.out.bel⟩
end Go.Proofs.Ytibjkmjccelcaaa
