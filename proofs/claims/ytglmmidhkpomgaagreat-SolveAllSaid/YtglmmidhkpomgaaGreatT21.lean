/- Layer 10: many right sides at once, whatever they are (solve.Many). -/
import Derived.Test.YtglmmidhkpomgaaGreatT20
import Derived.Test.YtglmmidhkpomgaaGreatT19
import Derived.Test.YtglmmidhkpomgaaGreatApL
import Derived.StillTailTactics
namespace Go.Proofs.YtglmmidhkpomgaaGreat
open Go.RowKit Fl Ieee
set_option maxRecDepth 20000
attribute [local go_sem] run_store_float run_store_complex Fl.order_self Fl.order_self' Fl.order_eq Fl.order_ne Fl.order_lt Fl.order_gt
/-- Column j. -/
def colM (n cols : Nat) (l : List C) (j : Nat) : List C := (List.range n).map fun i => ent l cols i j
theorem colM_len (n cols : Nat) (l : List C) (j : Nat) : (colM n cols l j).length = n := by simp [colM]
def manJ (n cols : Nat) (S : El) (l : List C) : Nat := (List.range cols).findIdx fun j => !solOk n S (colM n cols l j)
def manE (n : Nat) (S : El) (r c : Int) (l : List C) : Int :=
  if okM r c l.length && (r == (n : Int)) then (if badAt l < l.length then 5 else if manJ n c.toNat S l < c.toNat then 6 else 0) else 4
def manX (n cols : Nat) (S : El) (l : List C) (j i : Nat) : C := solX (lowE S) (uppE S) S.o (bOf (colM n cols l j)) n i
def manL (n : Nat) (S : El) (r c : Int) (l : List C) : List C := if manE n S r c l = 0 then (List.range (n * c.toNat)).map (fun q => manX n c.toNat S l (q % c.toNat) (q / c.toNat)) else []
def manR (n : Nat) (S : El) (r c : Int) (l : List C) (x : Int) : Int := if manE n S r c l = 0 then x else 0
theorem manJ_of {n cols k : Nat} {S : El} {l : List C} (hk : k < cols) (ha : ∀ j, j < k → solOk n S (colM n cols l j) = true) (hb : solOk n S (colM n cols l k) = false) : manJ n cols S l = k := by
  unfold manJ
  refine (List.findIdx_eq (by simpa using hk)).2 ⟨?_, fun j hj => ?_⟩
  · simp [hb]
  · simp [ha j hj]
theorem manJ_all {n cols : Nat} {S : El} {l : List C} (ha : ∀ j, j < cols → solOk n S (colM n cols l j) = true) : ¬ manJ n cols S l < cols := fun h => by
  have h1 := List.findIdx_getElem (xs := List.range cols) (p := fun j => !solOk n S (colM n cols l j)) (w := by simpa [manJ] using h)
  simp only [List.getElem_range] at h1
  have h2 := ha _ h
  unfold manJ at h2
  rw [h2] at h1
  cases h1
/-- What Many tells. -/
def RetMy (er : Int) (R C' : Int) (L : List C) (w : World) (e : Ending) (w' : World) : Prop :=
  ∃ A k, e = .returned (.tuple #[mval R C' (.slice A L.length k), .int .i64 er]) ∧ Lst w' w.heap.size w'.heap.size A L k ∧ Below w.heap.size w w'
theorem lst_nil (w : World) (lo hi : Nat) : Lst w lo hi none [] 0 := ⟨World.ownsRow_nil _ _ _ _, fun b hb => by cases hb⟩
theorem rowF_lst {W : World} {g k lo : Nat} {F : Nat → C} {L : List C} (h : RowF W g k F) (hl : L.length = k) (hg : lo ≤ g) (hk : k ≤ 4096) (hL : (List.range k).map F = L) : Lst W lo W.heap.size (some ⟨g, 0, none⟩) L k := by
  refine ⟨⟨by simp [nums], .inr ⟨g, k, _, by rw [hl], hg, h.x, by omega, by unfold maxLen; omega, by simp [nums], ?_⟩⟩, fun b hb => ?_⟩
  · rw [hL, hl]
    exact List.take_of_length_le (by simp [nums, hl])
  · injection hb with hb
    rw [← hb]
    exact row_lt h.x
set_option linter.unusedSimpArgs false in
set_option maxHeartbeats 4000000 in
theorem Many_shape {B b n : Nat} {S : El} (r c : Int) (Ab : Option Addr) (l : List C) (cap : Nat) (w : World) (h : Has9 w B b n S) (hf : finTo S.E n) (hn : n ≤ 64) (hs : (okM r c l.length && (r == (n : Int))) = false) :
    Calls Tryz.prog 8 #[.pointer (some ⟨b, 0, none⟩), mval r c (.slice Ab l.length cap)] w (RetMy 4 0 0 [] w) := by
  have K0 := Lib.hid (show Km w w [(B, b, n, S)] [] [] from ⟨Below.refl _ _, fun t ht => by rw [List.mem_singleton.1 ht]; exact h, fun _ h => (List.not_mem_nil h).elim, fun _ h => (List.not_mem_nil h).elim⟩)
  have K1 := Lib.hid ((((K0.out.new (.cells #[.int .i64 r, .int .i64 c, .slice Ab l.length cap] 33)).addR (heap_alloc_new w _)).new zrow).addR (row_new2 w (.cells #[.int .i64 r, .int .i64 c, .slice Ab l.length cap] 33) zrow))
  have HF := Lib.hid hf
  have HN := Lib.hid hn
  have HCh := Lib.hid (fun V => Check_c r c Ab l.length cap V)
  have HS := Lib.hid hs
  clear h hf hn K0 hs
  go_enter Tryz.func8, Tryz.ntmps8
  go_wp2_with fail
  refine (open_c _ (K1.out.get 0 rfl) HF.out HN.out).mono ?_
  rintro e W1 ⟨Al, kl, Au, ku, Ao, ko, rfl, -, -, -, hb⟩
  obtain ⟨M9, hM9⟩ : ∃ M9, M9 = n * n := ⟨_, rfl⟩
  rw [← hM9]
  have K2 := Lib.hid (((K1.out.below hb).new (.cells #[.int .i64 (n : Nat), .slice Al M9 kl, .slice Au M9 ku, .slice Ao n ko] 69)).addR (heap_alloc_new W1 (.cells #[.int .i64 (n : Nat), .slice Al M9 kl, .slice Au M9 ku, .slice Ao n ko] 69)))
  obtain ⟨x0, x1, x2, -⟩ := box3 (K2.out.row 2 rfl)
  clear hb hM9 K1
  cases hk : okM r c l.length
  · rw [hk] at HCh
    go_wp2_with fail
    refine (HCh.out _).mono ?_
    rintro e W2 ⟨rfl, hb⟩
    have K3 := Lib.hid (K2.out.below hb)
    have hrow := K3.out.row 1 rfl
    obtain ⟨z0, z1, z2, zf⟩ := box3 hrow
    have zf0 := zf 0
    have zf1 := zf 1
    have zf2 := zf 2
    clear hb K2 x0 x1 x2 zf hrow hk
    go_wp2
    obtain ⟨q0, q1, q2, -⟩ := box3 (set3c (u := .int .i64 0) (v := .int .i64 0) (s := .slice none 0 0) (K3.out.row 1 rfl))
    refine bodyPost_ret (v := .tuple #[mval 0 0 (.slice none 0 0), .int .i64 4]) (by simp [results, Tryz.results8, go_sem, q0, q1, q2]) rfl ?_
    exact ⟨none, 0, rfl, lst_nil _ _ _, ((K3.out.bel.setCell (Nat.le_succ _) _).setCell (Nat.le_succ _) _).setCell (Nat.le_succ _) _⟩
  · rw [hk] at HCh
    have hrn : (r == (n : Int)) = false := by have := HS.out; rw [hk, Bool.true_and] at this; exact this
    have hrne : ¬ r = (n : Int) := by simpa using hrn
    go_wp2_with fail
    refine (HCh.out _).mono ?_
    rintro e W2 ⟨rfl, hb⟩
    have K3 := Lib.hid (K2.out.below hb)
    have hrow := K3.out.row 1 rfl
    obtain ⟨z0, z1, z2, zf⟩ := box3 hrow
    have zf0 := zf 0
    have zf1 := zf 1
    have zf2 := zf 2
    clear hb K2 x0 x1 x2 zf hrow hk
    obtain ⟨x0, x1, x2, -⟩ := box3 (K3.out.row 2 rfl)
    obtain ⟨y0, -, -, -, -⟩ := box4 (K3.out.row 0 rfl)
    go_wp2
    obtain ⟨q0, q1, q2, -⟩ := box3 (set3c (u := .int .i64 0) (v := .int .i64 0) (s := .slice none 0 0) (K3.out.row 1 rfl))
    refine bodyPost_ret (v := .tuple #[mval 0 0 (.slice none 0 0), .int .i64 4]) (by simp [results, Tryz.results8, go_sem, q0, q1, q2]) rfl ?_
    exact ⟨none, 0, rfl, lst_nil _ _ _, ((K3.out.bel.setCell (Nat.le_succ _) _).setCell (Nat.le_succ _) _).setCell (Nat.le_succ _) _⟩
set_option linter.unusedSimpArgs false in
set_option maxHeartbeats 16000000 in
theorem Many_run {B b n cols M : Nat} {S : El} (Ab : Option Addr) (l : List C) (cap : Nat) (w : World) (h : Has9 w B b n S) (hf : finTo S.E n) (hp : Perm n S.o) (hn : n ≤ 64) (hc : cols ≤ 64) (hM : M = n * cols) (hl : l.length = M) (hlt : ltCs l) (hrd : Reads w w.heap.size Ab (nums l)) :
    Calls Tryz.prog 8 #[.pointer (some ⟨b, 0, none⟩), mval n cols (.slice Ab M cap)] w (RetMy (manE n S n cols l) (manR n S n cols l n) (manR n S n cols l cols) (manL n S n cols l) w) := by
  obtain ⟨X, hX⟩ : ∃ X : Nat → Nat → C, X = manX n cols S l := ⟨_, rfl⟩
  have HX := Lib.hid hX
  obtain ⟨er, her⟩ : ∃ er, er = manE n S n cols l := ⟨_, rfl⟩
  obtain ⟨eR, heR⟩ : ∃ eR, eR = manR n S n cols l n := ⟨_, rfl⟩
  obtain ⟨eC, heC⟩ : ∃ eC, eC = manR n S n cols l cols := ⟨_, rfl⟩
  obtain ⟨eL, heL⟩ : ∃ eL, eL = manL n S n cols l := ⟨_, rfl⟩
  rw [← her, ← heR, ← heC, ← heL]
  have hokm : (okM (n : Int) (cols : Int) l.length && ((n : Int) == (n : Int))) = true := by
    rw [Bool.and_eq_true]
    exact ⟨okM_iff.2 ⟨by omega, by omega, by omega, by omega, by rw [hl, hM, Int.natCast_mul]⟩, by simp⟩
  have HE5 := Lib.hid (fun (h5 : badAt l < l.length) => (show er = 5 ∧ eR = 0 ∧ eC = 0 ∧ eL = [] from by
    have e : manE n S n cols l = 5 := by unfold manE; rw [if_pos hokm, if_pos h5]
    rw [her, heR, heC, heL]; unfold manR manL; rw [e]; exact ⟨rfl, rfl, rfl, rfl⟩))
  have HE6 := Lib.hid (fun (h5 : ¬ badAt l < l.length) (h6 : manJ n cols S l < cols) => (show er = 6 ∧ eR = 0 ∧ eC = 0 ∧ eL = [] from by
    have e : manE n S n cols l = 6 := by unfold manE; rw [if_pos hokm, if_neg h5, if_pos (by simpa using h6)]
    rw [her, heR, heC, heL]; unfold manR manL; rw [e]; exact ⟨rfl, rfl, rfl, rfl⟩))
  have HE0 := Lib.hid (fun (h5 : ¬ badAt l < l.length) (h6 : ¬ manJ n cols S l < cols) => (show er = 0 ∧ eR = n ∧ eC = cols ∧ eL = (List.range (n * cols)).map (fun q => X (q % cols) (q / cols)) from by
    have e : manE n S n cols l = 0 := by unfold manE; rw [if_pos hokm, if_neg h5, if_neg (by simpa using h6)]
    rw [her, heR, heC, heL, hX]; unfold manR manL; rw [e]; exact ⟨rfl, rfl, rfl, rfl⟩))
  clear hX her heR heC heL hokm
  have hM4 : M ≤ 4096 := by rw [hM]; exact prod_small hn hc
  have hok2 : okM n cols M = true := okM_iff.2 ⟨by omega, by omega, by omega, by omega, by rw [hM, Int.natCast_mul]⟩
  have K0 := Lib.hid (show Km w w [(B, b, n, S)] [] [(Ab, nums l)] from ⟨Below.refl _ _, fun t ht => by rw [List.mem_singleton.1 ht]; exact h, fun _ h => (List.not_mem_nil h).elim, fun t ht => by rw [List.mem_singleton.1 ht]; exact hrd⟩)
  have K1 := Lib.hid ((((K0.out.new (.cells #[.int .i64 (n : Nat), .int .i64 (cols : Nat), .slice Ab M cap] 33)).addR (heap_alloc_new w _)).new zrow).addR (row_new2 w (.cells #[.int .i64 (n : Nat), .int .i64 (cols : Nat), .slice Ab M cap] 33) zrow))
  have HF := Lib.hid hf
  have HP := Lib.hid hp
  have HN := Lib.hid hn
  have HC := Lib.hid hc
  have HM := Lib.hid hM
  have HL := Lib.hid hl
  have HLt := Lib.hid hlt
  have HM4 := Lib.hid hM4
  have HCh := Lib.hid (fun V => Check_c n cols Ab M cap V)
  rw [hok2] at HCh
  have HFi := Lib.hid (fun (z : C) (hz : z ∈ l) V => (show Calls Tryz.prog 31 #[.complex .f64 z.1 z.2] V (RetB (pFinite z) V) from by
    have h := Finite_c z.1 z.2 (hlt z hz).1 (hlt z hz).2 V
    rw [pFin_cn] at h; exact h))
  clear h hf hp hn hc hM hl hlt hrd hok2 K0 hM4
  go_enter Tryz.func8, Tryz.ntmps8
  go_wp2_with fail
  refine (open_c _ (K1.out.get 0 rfl) HF.out HN.out).mono ?_
  rintro e W1 ⟨Al, kl, Au, ku, Ao, ko, rfl, -, -, -, hb⟩
  obtain ⟨M9, hM9⟩ : ∃ M9, M9 = n * n := ⟨_, rfl⟩
  rw [← hM9]
  have K2 := Lib.hid (((K1.out.below hb).new (.cells #[.int .i64 (n : Nat), .slice Al M9 kl, .slice Au M9 ku, .slice Ao n ko] 69)).addR (heap_alloc_new W1 (.cells #[.int .i64 (n : Nat), .slice Al M9 kl, .slice Au M9 ku, .slice Ao n ko] 69)))
  obtain ⟨x0, x1, x2, -⟩ := box3 (K2.out.row 2 rfl)
  clear hb hM9 K1
  go_wp2_with fail
  refine (HCh.out _).mono ?_
  rintro e W2 ⟨rfl, hb⟩
  have K3 := Lib.hid (K2.out.below hb)
  clear hb K2 x0 x1 x2
  obtain ⟨x0, x1, x2, -⟩ := box3 (K3.out.row 2 rfl)
  obtain ⟨y0, -, -, -, -⟩ := box4 (K3.out.row 0 rfl)
  have hmb : (M : Int) ≤ 4096 := by have := HM4.out; omega
  go_wp2
  go_loopw [40] (fun iv wr => ∃ k d : Nat, k ≤ M ∧ iv = .int .i64 (k : Nat) ∧ Hid (∀ i u, i < k → l[i]? = some u → pFinite u = true) ∧ wr = W2.drewN d) (fun iv _ => M - (intOf iv).toNat)
  case atStart => exact ⟨0, 0, Nat.zero_le _, rfl, Lib.hid (fun i u h => by omega), rfl⟩
  case round =>
    obtain ⟨k, d, hk, rfl, hfk, rfl⟩ := hrel
    have hkb : (k : Int) + 1 ≤ 4097 := by have := HM4.out; omega
    by_cases hlt : k < M
    · have hlti : (k : Int) < (M : Int) := Int.ofNat_lt.2 hlt
      obtain ⟨z, hz⟩ := some_of_lt (l := l) (k := k) (by rw [HL.out]; exact hlt)
      have hv : (nums l)[k]? = some (.complex .f64 z.1 z.2) := by simp [nums, hz]
      obtain ⟨ad, rfl, -, hcell⟩ := (K3.out.rd 0 rfl).at_ hv
      have HFz := Lib.hid (HFi.out z (List.mem_of_getElem? hz))
      have HZa := Lib.hid hz
      obtain ⟨gf, hgf⟩ : ∃ gf, gf = pFinite z := ⟨_, rfl⟩
      rw [← hgf] at HFz
      have HGf := Lib.hid hgf
      clear hz hv hgf
      go_wp2_with fail
      refine (HFz.out _).mono ?_
      rintro e w' ⟨d2, rfl, rfl⟩
      cases gf
      · have HB5 := Lib.hid (HE5.out (by
          have h1 := badAt_of hfk.out HZa.out HGf.out.symm
          rw [h1, HL.out]; exact hlt))
        have KE := Lib.hid (K3.out.below (below_drewN (Below.refl _ _) (d + d2)))
        clear x0 x1 x2 y0 hcell
        obtain ⟨z0, z1, z2, zf⟩ := box3 (KE.out.row 1 rfl)
        have zf0 := zf 0
        have zf1 := zf 1
        have zf2 := zf 2
        clear zf
        go_wp2
        obtain ⟨q0, q1, q2, -⟩ := box3 (set3c (u := .int .i64 0) (v := .int .i64 0) (s := .slice none 0 0) (KE.out.row 1 rfl))
        refine bodyPost_ret (v := .tuple #[mval 0 0 (.slice none 0 0), .int .i64 5]) (by simp [results, Tryz.results8, go_sem, q0, q1, q2]) rfl ?_
        rw [HB5.out.1, HB5.out.2.1, HB5.out.2.2.1, HB5.out.2.2.2]
        exact ⟨none, 0, rfl, lst_nil _ _ _, ((KE.out.bel.setCell (Nat.le_succ _) _).setCell (Nat.le_succ _) _).setCell (Nat.le_succ _) _⟩
      go_wp2
      go_roundw
      case rel => exact ⟨k + 1, d + d2, hlt, by go_num, Lib.hid (fun i u hi hu => by
        by_cases e : i = k
        · subst e
          have : z = u := Option.some.inj (HZa.out.symm.trans hu)
          rw [← this]; exact HGf.out.symm
        · exact hfk.out i u (by omega) hu), rfl⟩
      case measure => simp [intOf]; omega
    · have e : k = M := by omega
      subst e
      clear hkb
      have HFl := Lib.hid (show ∀ z ∈ l, pFinite z = true from fun z hz => by
        obtain ⟨i, hi, rfl⟩ := List.mem_iff_getElem.1 hz
        exact hfk.out i _ (by rw [← HL.out]; exact hi) (List.getElem?_eq_getElem hi))
      have HNb := Lib.hid (show ¬ badAt l < l.length from fun hb => by
        have h1 : (!pFinite l[badAt l]) = true := List.findIdx_getElem (w := hb)
        rw [HFl.out _ (List.getElem_mem _)] at h1
        cases h1)
      clear hfk
      obtain ⟨W3, hW3⟩ : ∃ W3, W3 = W2.drewN d := ⟨_, rfl⟩
      rw [← hW3]
      have K4 := Lib.hid (show Km w W3 [(B, b, n, S)] [(W1.heap.size, .cells #[.int .i64 (n : Nat), .slice Al M9 kl, .slice Au M9 ku, .slice Ao n ko] 69), (w.heap.size + 1, zrow), (w.heap.size, .cells #[.int .i64 (n : Nat), .int .i64 (cols : Nat), .slice Ab k cap] 33)] [(Ab, nums l)] from by rw [hW3]; exact K3.out.below (below_drewN (Below.refl _ _) d))
      clear hW3 x0 x1 x2 y0
      obtain ⟨x0, x1, x2, -⟩ := box3 (K4.out.row 2 rfl)
      obtain ⟨y0, -, -, -, -⟩ := box4 (K4.out.row 0 rfl)
      have hmk := run_make_row' (P := Tryz.prog) 27 42 (.complex .f64 0 0) 16 Tryz.underlying27 infoNum rfl .i64 .i64 k (by have := HM4.out; omega) (by have := HM4.out; omega)
      have al : ∀ {p : Addr} {v : Value}, W3.cell? p = some v → (∀ o, (W3.alloc o).cell? p = some v) ∧ ∀ o o', ((W3.alloc o).alloc o').cell? p = some v := fun h => ⟨fun o => ((below_new W3 o).cell (block_lt_of_cell h)).trans h, fun o o' => (((below_new W3 o).new (Nat.le_refl _) o').cell (block_lt_of_cell h)).trans h⟩
      obtain ⟨x0a, x0b⟩ := al x0
      obtain ⟨x1a, x1b⟩ := al x1
      obtain ⟨x2a, x2b⟩ := al x2
      obtain ⟨y0a, y0b⟩ := al y0
      clear al
      go_upto_region 12 with fail
      go_cut [10] (fun s10 wx => ∃ g bo : Nat, s10 = .pointer (some ⟨bo, 0, none⟩) ∧ MoS W3 wx bo g k n cols (manyF cols X 0 0))
      case first =>
        go_region
        all_goals
          go_wp2_with fail
          go_meet
        · refine ⟨W3.heap.size, W3.heap.size + 1, rfl, ?_⟩
          exact { bel := ((below_new W3 _).new (Nat.le_refl _) _).drew
                  box := row_new2 _ _ _
                  row := (noughts_row (row_alloc (heap_alloc_new W3 _)) (manyF cols X 0 0) (fun q => by unfold manyF; rw [if_neg (fun h => by rcases h with h | ⟨_, h⟩ <;> exact absurd h (Nat.not_lt_zero _))])).drew
                  lo := Nat.le_refl _
                  lob := Nat.le_succ _
                  ne := by omega }
        · refine ⟨W3.heap.size + 1, W3.heap.size, rfl, ?_⟩
          exact { bel := ((below_new W3 _).new (Nat.le_refl _) _).drew
                  box := row_alloc (heap_alloc_new W3 _)
                  row := (noughts_row (row_new2 _ _ _) (manyF cols X 0 0) (fun q => by unfold manyF; rw [if_neg (fun h => by rcases h with h | ⟨_, h⟩ <;> exact absurd h (Nat.not_lt_zero _))])).drew
                  lo := Nat.le_succ _
                  lob := Nat.le_refl _
                  ne := by omega }
      case rest =>
        obtain ⟨g, bo, rfl, hmo⟩ := hcut
        rename World => W4
        have HMo := Lib.hid hmo
        obtain ⟨t0, t1, t2, -⟩ := box3 (row_keep hmo.bel (K4.out.row 2 rfl))
        clear hmo x0a x0b x1a x1b x2a x2b y0a y0b x0 x1 x2 y0 hmk
        have hcb : (cols : Int) ≤ 64 := by have := HC.out; omega
        go_wp2
        go_loopw [60] (fun jv wr => ∃ j : Nat, j ≤ cols ∧ jv = .int .i64 (j : Nat) ∧ MoS W3 wr bo g k n cols (manyF cols X j 0) ∧ Hid (∀ q, q < j → solOk n S (colM n cols l q) = true)) (fun jv _ => cols - (intOf jv).toNat)
        case atStart => exact ⟨0, Nat.zero_le _, rfl, HMo.out, Lib.hid (fun q h => by omega)⟩
        case round =>
          clear HMo t0 t1 t2
          obtain ⟨j, hj, rfl, hmo, hokj⟩ := hrel
          rename World => wj
          have HOk := hokj
          have HMo := Lib.hid hmo
          have Kj := Lib.hid (K4.out.below hmo.bel)
          have hjb : (j : Int) + 1 ≤ 65 := by omega
          obtain ⟨t0, t1, t2, -⟩ := box3 (Kj.out.row 2 rfl)
          clear hmo
          by_cases hlt : j < cols
          · have hlti : (j : Int) < (cols : Int) := Int.ofNat_lt.2 hlt
            have hcol := Col_c n cols Ab l cap j wj HN.out HC.out (by rw [HL.out, HM.out]) hlt (Kj.out.rd 0 rfl) HLt.out
            rw [HL.out] at hcol
            obtain ⟨cl, hcl⟩ : ∃ cl, cl = colM n cols l j := ⟨_, rfl⟩
            rw [show ((List.range n).map fun i => ent l cols i j) = cl from hcl.symm] at hcol
            have hclf : ∀ z ∈ cl, pFinite z = true := fun z hz => by
              rw [hcl] at hz
              unfold colM at hz
              obtain ⟨i, hi, rfl⟩ := List.mem_map.1 hz
              have hm := List.mem_of_getElem? (at_ok (l := l) (rows := n) (cols := cols) (by rw [HL.out, HM.out]) (List.mem_range.1 hi) hlt)
              unfold ent
              rw [fin_cn (HFl.out _ hm)]
              exact HFl.out _ hm
            have hcll : cl.length = n := by rw [hcl]; exact colM_len _ _ _ _
            have HXj := Lib.hid (show ∀ i, X j i = solX (lowE S) (uppE S) S.o (bOf cl) n i from fun i => by rw [HX.out, hcl]; rfl)
            have HCol := Lib.hid hcol
            have HClf := Lib.hid hclf
            have HCll := Lib.hid hcll
            have HCl := Lib.hid hcl
            clear hcol hclf hcll hcl
            go_wp2_with fail
            refine HCol.out.mono ?_
            rintro e W5 ⟨s, zs, rfl, hz, hlz, hown, hb⟩
            have ez : zs = cl := exact_of hz HClf.out
            subst ez
            obtain ⟨Ac, kc, rfl, hrc, -, -⟩ := own_reads hown
            have K5 := Lib.hid ((Kj.out.below hb).addL hrc)
            have HMo5 := Lib.hid (HMo.out.below hb)
            have HSv := Solve_run Ac zs kc W5 (K5.out.get 0 rfl) HF.out HP.out HN.out HCll.out HClf.out hlz hrc
            cases hso : solOk n S zs
            · rw [hso] at HSv
              simp only [Bool.false_eq_true, if_false] at HSv
              have HS := Lib.hid HSv
              have HB6 := Lib.hid (HE6.out HNb.out (by
                rw [manJ_of hlt HOk.out (by rw [← HCl.out]; exact hso)]; exact hlt))
              clear hz hlz hown hrc hb HSv t0 t1 t2 HCol hso
              go_wp2_with fail
              refine HS.out.mono ?_
              rintro e W6 ⟨s6, rfl, -, hb⟩
              have KE := Lib.hid (K5.out.below hb)
              clear hb
              obtain ⟨z0, z1, z2, zf⟩ := box3 (KE.out.row 1 rfl)
              have zf0 := zf 0
              have zf1 := zf 1
              have zf2 := zf 2
              clear zf
              go_wp2
              obtain ⟨q0, q1, q2, -⟩ := box3 (set3c (u := .int .i64 0) (v := .int .i64 0) (s := .slice none 0 0) (KE.out.row 1 rfl))
              refine bodyPost_ret (v := .tuple #[mval 0 0 (.slice none 0 0), .int .i64 6]) (by simp [results, Tryz.results8, go_sem, q0, q1, q2]) rfl ?_
              rw [HB6.out.1, HB6.out.2.1, HB6.out.2.2.1, HB6.out.2.2.2]
              exact ⟨none, 0, rfl, lst_nil _ _ _, ((KE.out.bel.setCell (Nat.le_succ _) _).setCell (Nat.le_succ _) _).setCell (Nat.le_succ _) _⟩
            rw [hso] at HSv
            simp only [if_true] at HSv
            have HS := Lib.hid HSv
            have HOkj := Lib.hid (show solOk n S (colM n cols l j) = true by rw [← HCl.out]; exact hso)
            clear hz hlz hown hrc hb HSv t0 t1 t2 HCol hso
            go_wp2_with fail
            refine HS.out.mono ?_
            rintro e W6 hr
            obtain ⟨s6, rfl, hown6, hb⟩ := hr
            have hsl : (solL n S zs).length = n := by simp [solL]
            rw [hsl] at hown6
            obtain ⟨As, ks, rfl, -, -, -⟩ := own_reads hown6
            have HOw6 := Lib.hid hown6
            have HMo6 := Lib.hid (HMo5.out.below hb)
            have hg5 := row_lt HMo5.out.row.x
            have HG5 := Lib.hid hg5
            clear hown6 hb hsl K5 HMo5 HS Kj hg5
            have hnb : (n : Int) ≤ 64 := by have := HN.out; omega
            go_wp2
            go_loopw [81] (fun iv wr => ∃ i : Nat, i ≤ n ∧ iv = .int .i64 (i : Nat) ∧ MoS W3 wr bo g k n cols (manyF cols X j i) ∧ wr.ownsRow W5.heap.size 42 1 (.slice As n ks) n (nums (solL n S zs))) (fun iv _ => n - (intOf iv).toNat)
            case atStart => exact ⟨0, Nat.zero_le _, rfl, HMo6.out, HOw6.out⟩
            case round =>
              obtain ⟨i, hi, rfl, hmo, hrs⟩ := hrel
              rename World => wi
              have HMi := Lib.hid hmo
              have HRs := Lib.hid hrs
              have hib : (i : Int) + 1 ≤ 65 := by omega
              obtain ⟨-, t1, -, -⟩ := box3 (row_keep hmo.bel (K4.out.row 2 rfl))
              obtain ⟨-, -, u2, -⟩ := box3 hmo.box
              clear hmo hrs
              by_cases hlt2 : i < n
              · have hlti2 : (i : Int) < (n : Int) := Int.ofNat_lt.2 hlt2
                obtain ⟨z, hz⟩ := some_of_lt (l := solL n S zs) (k := i) (by simp [solL]; exact hlt2)
                have hv : (nums (solL n S zs))[i]? = some (.complex .f64 z.1 z.2) := by simp [nums, hz]
                have hrd := Reads.of_own HRs.out
                have HOn := Lib.hid (ownsRow_setCell_below HRs.out (a := ⟨g, i * cols + j, none⟩) HG5.out (.complex .f64 z.1 z.2))
                obtain ⟨ad, rfl, -, hcell⟩ := hrd.at_ hv
                clear hrd
                have hzx : z = X j i := by
                  unfold solL at hz
                  rw [List.getElem?_map, List.getElem?_range hlt2] at hz
                  rw [HXj.out i]; exact (Option.some.inj hz).symm
                obtain ⟨P1, hP1⟩ : ∃ P, P = i * cols := ⟨_, rfl⟩
                have hi1 : (i + 1) * cols ≤ n * cols := Nat.mul_le_mul_right _ hlt2
                rw [Nat.add_mul, Nat.one_mul, ← hP1, ← HM.out] at hi1
                obtain ⟨q, hq⟩ : ∃ q, q = P1 + j := ⟨_, rfl⟩
                have hqk : q < k := by omega
                have hqi : (q : Int) < (k : Int) := Int.ofNat_lt.2 hqk
                have hk4 := HM4.out
                have m1 : (i : Int) * (cols : Int) = (P1 : Int) := by rw [hP1, Int.natCast_mul]
                have m2 : (P1 : Int) + (j : Int) = (q : Int) := by omega
                have b1 : (P1 : Int) ≤ 4096 := by omega
                have b2 : (q : Int) ≤ 4096 := by omega
                have cq := HMi.out.row.cell hqk
                have fq := HMi.out.row.frozen q
                have n1 : decide ((q : Int) < 0) = false := by simp
                have hzl : ltC z := by rw [hzx, HXj.out i]; exact sol_lt hlt2
                have HNx := Lib.hid ((HMi.out.put hqk hzl).congr (F' := manyF cols X j (i + 1)) (fun p _ => by rw [manyF_next X hlt, ← hP1, ← hq, hzx]))
                rw [← hP1, ← hq] at HOn
                clear hz hv hzx hP1 hi1 hq hqk hk4 hzl
                go_wp2
                go_roundw
                case rel => exact ⟨i + 1, hlt2, by go_num, HNx.out, HOn.out⟩
                case measure => simp [intOf]; omega
              · have e : i = n := by omega
                subst e
                clear t1 u2
                go_wp2
                go_roundw
                case rel => exact ⟨j + 1, hlt, by go_num, HMi.out.congr (fun q hq => manyF_col X (by rw [← HM.out]; exact hq)), Lib.hid (fun q hq => by
                  by_cases e : q = j
                  · subst e; exact HOkj.out
                  · exact HOk.out q (by omega))⟩
                case measure => simp [intOf]; omega
          · have e : j = cols := by omega
            subst e
            clear t0 t1 t2
            obtain ⟨u0, u1, u2, -⟩ := box3 HMo.out.box
            have hrow := Kj.out.row 1 rfl
            obtain ⟨z0, z1, z2, zf⟩ := box3 hrow
            have zf0 := zf 0
            have zf1 := zf 1
            have zf2 := zf 2
            have hgw : g ≠ w.heap.size + 1 := fun e => by
              have h1 := HMo.out.lo
              have h2 := row_lt (K4.out.row 1 rfl)
              omega
            have HGw := Lib.hid hgw
            clear zf hrow hgw
            go_wp2
            obtain ⟨q0, q1, q2, -⟩ := box3 (set3c (u := .int .i64 (n : Nat)) (v := .int .i64 (j : Nat)) (s := .slice (some ⟨g, 0, none⟩) k k) (Kj.out.row 1 rfl))
            refine bodyPost_ret (v := .tuple #[mval n j (.slice (some ⟨g, 0, none⟩) k k), .int .i64 0]) (by simp [results, Tryz.results8, go_sem, q0, q1, q2]) rfl ?_
            have hE := HE0.out HNb.out (manJ_all HOk.out)
            rw [hE.1, hE.2.1, hE.2.2.1, hE.2.2.2]
            have hll : ((List.range (n * j)).map fun q => X (q % j) (q / j)).length = k := by rw [HM.out]; simp
            refine ⟨some ⟨g, 0, none⟩, k, by rw [hll], ?_, ?_⟩
            · have h := (HMo.out.congr (F' := fun q => X (q % j) (q / j)) (fun q hq => (manyF_all X (by rw [← HM.out]; exact hq)).symm)).row
              have h2 := ((h.other (p := ⟨w.heap.size + 1, 0, none⟩) (fun e => HGw.out e.symm) (.int .i64 (n : Nat))).other (p := ⟨w.heap.size + 1, 1, none⟩) (fun e => HGw.out e.symm) (.int .i64 (j : Nat))).other (p := ⟨w.heap.size + 1, 2, none⟩) (fun e => HGw.out e.symm) (.slice (some ⟨g, 0, none⟩) k k)
              refine rowF_lst h2 hll (by have := HMo.out.lo; have := (K4.out.bel).size; omega) (by have := HM4.out; omega) ?_
              rw [HM.out]
            · exact ((Kj.out.bel.setCell (Nat.le_succ _) _).setCell (Nat.le_succ _) _).setCell (Nat.le_succ _) _
theorem Many_all {B b n : Nat} {S : El} (r c : Int) (Ab : Option Addr) (l : List C) (cap : Nat) (w : World) (h : Has9 w B b n S) (hf : finTo S.E n) (hp : Perm n S.o) (hn : n ≤ 64) (hlt : ltCs l) (hrd : Reads w w.heap.size Ab (nums l)) :
    Calls Tryz.prog 8 #[.pointer (some ⟨b, 0, none⟩), mval r c (.slice Ab l.length cap)] w (RetMy (manE n S r c l) (manR n S r c l r) (manR n S r c l c) (manL n S r c l) w) := by
  by_cases hs : (okM r c l.length && (r == (n : Int))) = true
  · have hs' := hs
    rw [Bool.and_eq_true] at hs
    have hr : r = (n : Int) := by simpa using hs.2
    subst hr
    obtain ⟨-, -, h3, h4, h5⟩ := okM_iff.1 hs.1
    obtain ⟨cols, rfl⟩ : ∃ k : Nat, c = (k : Int) := ⟨c.toNat, by omega⟩
    rw [← Int.natCast_mul] at h5
    exact Many_run (M := l.length) Ab l cap w h hf hp hn (by omega) (by omega) rfl hlt hrd
  · have hs2 : (okM r c l.length && (r == (n : Int))) = false := by simpa using hs
    have e : manE n S r c l = 4 := by unfold manE; rw [if_neg hs]
    unfold manR manL
    rw [e]
    exact Many_shape r c Ab l cap w h hf hn hs2
end Go.Proofs.YtglmmidhkpomgaaGreat
