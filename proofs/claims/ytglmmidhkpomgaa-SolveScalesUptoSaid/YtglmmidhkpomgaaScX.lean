/- Layer 10: SolveScales: the walk. -/
import Derived.Test.YtglmmidhkpomgaaT20
namespace Go.Proofs.Ytglmmidhkpomgaa
open Go.RowKit Fl Ieee
set_option maxRecDepth 20000
attribute [local go_sem] run_store_float run_store_complex Fl.order_self Fl.order_self' Fl.order_eq Fl.order_ne Fl.order_lt Fl.order_gt
/-- The matrix's numbers while they are laid: the first k are whole numbers, noughts else. -/
def dlS (wl : List C) (M k : Nat) : List C := (List.range M).map fun q => if q < k then wl.getD q (0, 0) else (0, 0)
theorem dlS_len (wl : List C) (M k : Nat) : (dlS wl M k).length = M := by simp [dlS]
theorem dlS_zero (wl : List C) (M : Nat) : dlS wl M 0 = sqL [] M := by
  unfold dlS sqL
  exact List.map_congr_left fun q _ => by rw [if_neg (Nat.not_lt_zero _)]; rfl
theorem dlS_set {wl : List C} {M k : Nat} {z : C} (hz : wl[k]? = some z) : (dlS wl M k).set k z = dlS wl M (k + 1) := by
  apply List.ext_getElem
  · simp [dlS]
  · intro q p1 p2
    have hq : q < M := by simpa [dlS] using p2
    rw [List.getElem_set]
    by_cases e : k = q
    · subst e
      rw [if_pos rfl]
      simp [dlS, List.getD_eq_getElem?_getD, hz]
    · rw [if_neg e]
      have : (q < k) = (q < k + 1) := propext (by omega)
      simp [dlS, this]
theorem dlS_over {wl : List C} {M k : Nat} (h : M ≤ k) : dlS wl M k = dlS wl M (k + 1) := by
  unfold dlS
  exact List.map_congr_left fun q hq => by
    have := List.mem_range.1 hq
    rw [if_pos (by omega), if_pos (by omega)]
theorem dlS_cp {wl : List C} (h : ∀ z ∈ wl, CP 0 1074 1083 z z) (M k : Nat) : ∀ z ∈ dlS wl M k, CP 0 1074 1083 z z := fun z hz => by
  unfold dlS at hz
  obtain ⟨q, _, rfl⟩ := List.mem_map.1 hz
  split
  · rw [List.getD_eq_getElem?_getD]
    cases e : wl[q]? with
    | none => exact noughtC_cp
    | some u => exact h u (List.mem_of_getElem? e)
  · exact noughtC_cp
theorem wl_cp (l : List C) : ∀ z ∈ l.map wC, CP 0 1074 1083 z z := fun z hz => by
  obtain ⟨u, _, rfl⟩ := List.mem_map.1 hz
  exact wC_cp u
theorem lt_of_cp {l : List C} (h : ∀ z ∈ l, CP 0 1074 1083 z z) : ltCs l := fun z hz => (h z hz).ltx
/-- What stands while the matrix is laid. -/
structure LayM (w W1 W2 W : World) (N M ll : Nat) (A1 A2 : Option Addr) (c1 c2 : Nat) (xs wl : List C) : Prop where
  bel : Below w.heap.size w W
  own : W.ownsRow W1.heap.size 43 1 (.slice A1 M c1) M (nums xs)
  blk : ∀ g, (Value.slice A1 M c1).ownBlock = some g → g < W2.heap.size
  box : W.heap[W2.heap.size]? = some (.cells #[.int .i64 (N : Nat), .int .i64 (N : Nat), .slice A1 M c1] 32)
  wls : W.ownsRow (W2.heap.size + 1) 43 1 (.slice A2 ll c2) ll (nums wl)
theorem zcells_take (x : List C) (n : Nat) (hn : n ≤ x.length) : ∀ (j : Nat) (u : Value), (zcells (x.take n))[j]? = some u → (zcells x)[j]? = some u := by
  induction x generalizing n with
  | nil => intro j u h; simp at hn; subst hn; simpa using h
  | cons a t ih =>
    cases n with
    | zero => intro j u h; simp [zcells] at h
    | succ n =>
      intro j u h
      have e : zcells (a :: t) = [.int .u64 (a.1 : Nat), .int .u64 (a.2 : Nat)] ++ zcells t := rfl
      have e2 : zcells ((a :: t).take (n + 1)) = [.int .u64 (a.1 : Nat), .int .u64 (a.2 : Nat)] ++ zcells (t.take n) := rfl
      rw [e2] at h
      rw [e]
      rcases Nat.lt_or_ge j 2 with hj | hj
      · rw [List.getElem?_append_left (by simpa using hj)] at h ⊢; exact h
      · rw [List.getElem?_append_right (by simpa using hj)] at h ⊢
        exact ih n (by simpa using hn) _ u h
theorem reads_take {W : World} {B : Nat} {A : Option Addr} {x : List C} {n : Nat} (hn : n ≤ x.length) (h : Reads W B A (zcells x)) : Reads W B A (zcells (x.take n)) := fun hp => by
  have hp2 : 0 < (zcells x).length := by
    obtain ⟨u, hu⟩ := some_of_lt hp
    exact Nat.lt_of_le_of_lt (Nat.zero_le _) (lt_of_some (zcells_take x n hn 0 u hu))
  obtain ⟨ad, h1, h2, h3⟩ := h hp2
  exact ⟨ad, h1, h2, fun j u hu => h3 j u (zcells_take x n hn j u hu)⟩
/-- Both right sides side by side, while they are laid: i rows. -/
def sdF (bl : List C) (j : Int) (i q : Nat) : C := if q / 2 < i then (if q % 2 = 0 then bl.getD (q / 2) (0, 0) else ldC (bl.getD (q / 2) (0, 0)) j) else (0, 0)
theorem sdF_next {bl : List C} {j : Int} {i : Nat} {z : C} (hz : bl[i]? = some z) (q : Nat) : sdF bl j (i + 1) q = putX (putX (sdF bl j i) (2 * i) z) (2 * i + 1) (ldC z j) q := by
  have hg : bl.getD i (0, 0) = z := by rw [List.getD_eq_getElem?_getD, hz]; rfl
  by_cases e1 : q = 2 * i + 1
  · subst e1
    rw [putX_same]
    unfold sdF
    rw [show (2 * i + 1) / 2 = i by omega, show (2 * i + 1) % 2 = 1 by omega, if_pos (Nat.lt_succ_self i), if_neg (by omega), hg]
  · rw [putX_other e1]
    by_cases e2 : q = 2 * i
    · subst e2
      rw [putX_same]
      unfold sdF
      rw [show (2 * i) / 2 = i by omega, show (2 * i) % 2 = 0 by omega, if_pos (Nat.lt_succ_self i), if_pos rfl, hg]
    · rw [putX_other e2]
      unfold sdF
      by_cases h : q / 2 < i
      · rw [if_pos h, if_pos (by omega)]
      · rw [if_neg h, if_neg (by omega)]
theorem MoS.grown {W3 W V : World} {bo g k n cols : Nat} {F : Nat → C} {row : Option Nat} (h : MoS W3 W bo g k n cols F) (hg : W.grownBy V row) (hr : ∀ b, row = some b → W3.heap.size ≤ b ∧ b ≠ bo ∧ b ≠ g) : MoS W3 V bo g k n cols F where
  bel := h.bel.grown hg h.bel.size (fun b hb => (hr b hb).1)
  box := by rw [hg.block bo (row_lt h.box) (fun e => (hr bo e.symm).2.1 rfl)]; exact h.box
  row := ⟨by rw [hg.block g (row_lt h.row.x) (fun e => (hr g e.symm).2.2 rfl)]; exact h.row.x, h.row.lt⟩
  lo := h.lo
  lob := h.lob
  ne := h.ne
theorem quiet_drew10 {P : Program} {f : FuncId} {args : Array Value} {w : World} {n : Nat} {v : Value}
    (h : Calls P f args (w.drewN n) fun e w' => e = .returned v ∧ ∃ d, w' = (w.drewN n).drewN d) :
    Calls P f args (w.drewN n) fun e w'' => e = .returned v ∧ ∃ m, w'' = w.drewN m :=
  h.mono fun _ _ ⟨he, d, hm⟩ => ⟨he, n + d, by rw [hm, World.drewN_drewN]⟩
theorem ld_out (x : Nat) (j : Int) (lx : x < 18446744073709551616) (fx : fin double x) (hk : rung double x ≠ 0 → j + expo x ≤ 2046) (hj : -20000 ≤ j) (hf : fin double (ldW x j)) (w : World) :
    Calls Try.prog 38 #[.float .f64 x, .int .i64 j] w fun e w' => e = .returned (.float .f64 (ldW x j)) ∧ ∃ d, w' = w.drewN d :=
  (Ldexp_any x j lx fx hk hj w).mono fun e w' ⟨y, n, he, hv, _, hw⟩ => ⟨by rw [he, cn_only' hv (decide_eq_false (by unfold fin at hf; omega))], n, hw⟩
theorem same_out (z : C) (w : World) : Calls Try.prog 40 #[.complex .f64 z.1 z.2, .complex .f64 z.1 z.2] w fun e w' => e = .returned (.bool true) ∧ ∃ d, w' = w.drewN d := by
  have h := Same_c z.1 z.2 z.1 z.2 w
  rw [show pSame (cn .f64 z.1, cn .f64 z.2) (cn .f64 z.1, cn .f64 z.2) = true by unfold pSame; simp] at h
  exact h.mono fun e w' ⟨he, hw⟩ => ⟨he, 0, hw ▸ rfl⟩
theorem sd_col {bl : List C} {j : Int} {N K2 : Nat} (hK : K2 = N * 2) (hb : bl.length = N) (hf : ∀ z ∈ bl, pFinite z = true) (hf2 : ∀ z ∈ bl, pFinite (ldC z j) = true) :
    (List.range N).map (fun i => ent ((List.range K2).map (sdF bl j N)) 2 i 0) = bl ∧ (List.range N).map (fun i => ent ((List.range K2).map (sdF bl j N)) 2 i 1) = bl.map fun z => ldC z j := by
  have key : ∀ i, i < N → ∃ z, bl[i]? = some z ∧ ent ((List.range K2).map (sdF bl j N)) 2 i 0 = z ∧ ent ((List.range K2).map (sdF bl j N)) 2 i 1 = ldC z j := fun i hi => by
    obtain ⟨z, hz⟩ := some_of_lt (l := bl) (k := i) (by omega)
    have hg : bl.getD i (0, 0) = z := by rw [List.getD_eq_getElem?_getD, hz]; rfl
    have hm := List.mem_of_getElem? hz
    refine ⟨z, hz, ?_, ?_⟩
    · unfold ent
      rw [List.getD_eq_getElem?_getD, List.getElem?_map, List.getElem?_range (by omega)]
      show cnC (sdF bl j N (i * 2 + 0)) = z
      unfold sdF
      rw [show (i * 2 + 0) / 2 = i by omega, show (i * 2 + 0) % 2 = 0 by omega, if_pos hi, if_pos rfl, hg, fin_cn (hf z hm)]
    · unfold ent
      rw [List.getD_eq_getElem?_getD, List.getElem?_map, List.getElem?_range (by omega)]
      show cnC (sdF bl j N (i * 2 + 1)) = ldC z j
      unfold sdF
      rw [show (i * 2 + 1) / 2 = i by omega, show (i * 2 + 1) % 2 = 1 by omega, if_pos hi, if_neg (by omega), hg, fin_cn (hf2 z hm)]
  constructor
  · apply List.ext_getElem?
    intro i
    by_cases hi : i < N
    · obtain ⟨z, h1, h2, -⟩ := key i hi
      rw [List.getElem?_map, List.getElem?_range hi, h1]
      exact congrArg some h2
    · rw [List.getElem?_eq_none (by simp; omega), List.getElem?_eq_none (by omega)]
  · apply List.ext_getElem?
    intro i
    by_cases hi : i < N
    · obtain ⟨z, h1, -, h2⟩ := key i hi
      rw [List.getElem?_map, List.getElem?_range hi, List.getElem?_map, h1]
      exact congrArg some h2
    · rw [List.getElem?_eq_none (by simp; omega), List.getElem?_eq_none (by simp; omega)]
theorem sd_fin {bl : List C} {j : Int} {N K2 : Nat} (hK : K2 = N * 2) (hb : bl.length = N) (hf : ∀ z ∈ bl, pFinite z = true) (hf2 : ∀ z ∈ bl, pFinite (ldC z j) = true) : ∀ z ∈ (List.range K2).map (sdF bl j N), pFinite z = true := fun z hz => by
  obtain ⟨q, hq, rfl⟩ := List.mem_map.1 hz
  have hq := List.mem_range.1 hq
  obtain ⟨z, hz⟩ := some_of_lt (l := bl) (k := q / 2) (by omega)
  have hg : bl.getD (q / 2) (0, 0) = z := by rw [List.getD_eq_getElem?_getD, hz]; rfl
  have hm := List.mem_of_getElem? hz
  unfold sdF
  rw [if_pos (by omega), hg]
  split
  · exact hf z hm
  · exact hf2 z hm
theorem ld_all {bl : List C} (h : ∀ z ∈ bl, CP 0 1074 1083 z z) {j : Int} (h1 : -100 ≤ j) (h2 : j ≤ 100) : ∀ z ∈ bl, pFinite (ldC z j) = true ∧ ltC (ldC z j) := fun z hz => by
  rcases Int.le_total 0 j with hj | hj
  · have := (ld_pair (h z hz) j h1 h2).1 hj
    exact ⟨this.finy, this.lty⟩
  · have := (ld_pair (h z hz) j h1 h2).2 hj
    exact ⟨this.finx, this.ltx⟩
theorem solL_at {N : Nat} {S : El} {bl : List C} {i : Nat} (hi : i < N) {s : C} (hs : s = solX (lowE S) (uppE S) S.o (bOf bl) N i) : (nums (solL N S bl))[i]? = some (.complex .f64 s.1 s.2) := by
  subst hs
  simp [nums, solL, hi]
theorem fin_of_feq {x y : Nat} (hf : fin double x) (h : feq .f64 x y = true) : fin double y := by
  rw [feq_def] at h
  simp only [Bool.and_eq_true, decide_eq_true_eq] at h
  obtain ⟨-, hk⟩ := h
  have hk : key double x = key double y := hk
  unfold key at hk
  unfold fin at *
  split at hk <;> split at hk <;> omega
set_option maxHeartbeats 16000000 in
theorem Scales10 (n : Int) (A : Option Addr) (l : List C) (cap : Nat) (B : Option Addr) (x : List C) (capx : Nat) (by_ : Int) (w : World) (hr : Reads w w.heap.size A (zcells l)) (hlt : ltCs l) (hl : l.length ≤ 1000000) (hrx : Reads w w.heap.size B (zcells x)) (hltx : ltCs x) (hx : x.length ≤ 1000000) (hxc : x.length ≤ capx) :
    Calls Try.prog 7 #[.int .i64 n, .slice A l.length cap, .slice B x.length capx, .int .i64 by_] w fun e w' => e = .returned (.bool true) ∧ Below w.heap.size w w' := by
  obtain ⟨m, hm⟩ : ∃ m : Int, m = n % 3 := ⟨_, rfl⟩
  have hm2 : 0 ≤ m ∧ m ≤ 2 := by omega
  have hP := Lib.hid (fun W => Pick_c n 3 (by omega) (by omega) W)
  rw [← hm] at hP
  obtain ⟨jj, hjj⟩ : ∃ j : Int, j = by_ % 201 := ⟨_, rfl⟩
  have hj2 : 0 ≤ jj ∧ jj ≤ 200 := by omega
  have hPb := Lib.hid (fun W => Pick_c by_ 201 (by omega) (by omega) W)
  rw [← hjj] at hPb
  obtain ⟨N, hN⟩ : ∃ N : Nat, m = (N : Int) := ⟨m.toNat, by omega⟩
  subst hN
  have hN2 : N ≤ 2 := by omega
  have hsq : sqN (N : Int) = N := by unfold sqN; omega
  have HSq := Lib.hid (fun (V : World) => Square_c (N : Int) none [] 0 V (fun h => absurd h (Nat.lt_irrefl _)))
  obtain ⟨M, hM⟩ : ∃ M, M = N * N := ⟨_, rfl⟩
  have hM4 : M ≤ 4 := by rw [hM]; exact Nat.mul_le_mul hN2 hN2
  rw [hsq, ← hM] at HSq
  have HRx := Lib.hid hrx
  have HLx := Lib.hid hltx
  have HXl := Lib.hid hx
  have HXc := Lib.hid hxc
  have HR := Lib.hid hr
  have HLt := Lib.hid hlt
  have HLl := Lib.hid hl
  have HN2 := Lib.hid hN2
  have HM := Lib.hid hM
  have HM4 := Lib.hid hM4
  obtain ⟨wl, hwl⟩ : ∃ wl, wl = l.map wC := ⟨_, rfl⟩
  have HWh := Lib.hid (fun (V : World) (h : Reads V V.heap.size A (zcells l)) => whole_c A l cap V hl h hlt)
  rw [← hwl] at HWh
  have HWl := Lib.hid (show ∀ z ∈ wl, CP 0 1074 1083 z z by rw [hwl]; exact wl_cp l)
  have HWn := Lib.hid (show wl.length = l.length by rw [hwl]; simp)
  obtain ⟨i0, hi0, hz0, hz1, hz2⟩ := info_parts infoNum
  clear hrx hltx hx hxc hr hlt hl hm hm2 hjj hsq hM hwl hN2
  go_enter Try.func7, Try.ntmps7
  go_wp2_with fail
  refine (awake10_c w).mono ?_
  rintro e W1 ⟨rfl, hb⟩
  have B1 := Lib.hid hb
  clear hb
  go_wp2_with fail
  refine (hP.out _).mono ?_
  rintro e w' ⟨rfl, rfl⟩
  go_wp2_with fail
  refine (HSq.out _).mono ?_
  rintro e W2 hr
  obtain ⟨A1, c1, rfl, hrd, hle, -, hown, hb⟩ := hr.lies
  rw [sqL_len] at hle hown ⊢
  have B2 := Lib.hid (B1.out.trans (hb.mono B1.out.size))
  have hbx := below_new W2 (.cells #[.int .i64 (N : Nat), .int .i64 (N : Nat), .slice A1 M c1] 32)
  have HOw := Lib.hid hown
  have HLe := Lib.hid hle
  have HRl := Lib.hid ((HR.out.below (B2.out.trans (hbx.mono B2.out.size))).more (B2.out.trans (hbx.mono B2.out.size)).size)
  have HWw := Lib.hid (HWh.out _ HRl.out)
  clear hr hrd hle hown hb HSq HWh HR HRl hP
  go_wp2_with fail
  refine HWw.out.mono ?_
  rintro e W3 ⟨s, rfl, hown, hb⟩
  rw [HWn.out] at hown
  obtain ⟨A2, c2, rfl, -, -, -⟩ := own_reads hown
  have HL0 := Lib.hid (show LayM w W1 W2 W3 N M l.length A1 A2 c1 c2 (dlS wl M 0) wl from
    { bel := B2.out.trans ((hbx.trans (hb.mono hbx.size)).mono B2.out.size)
      own := by rw [dlS_zero]; exact own_below (own_below HOw.out hbx) hb
      blk := fun g hg => (HOw.out.lt g hg).2
      box := row_keep hb (heap_alloc_new W2 _)
      wls := own_base hown (by simp) })
  have B1s := Lib.hid B1.out.size
  have hlb : (l.length : Int) ≤ 1000000 := by have := HLl.out; omega
  have hmb : (M : Int) ≤ 4 := by omega
  clear hown hb hbx HOw HWw B1 B2
  go_wp2
  go_loopw [35] (fun iv wr => ∃ k : Nat, k ≤ l.length ∧ iv = .int .i64 (k : Nat) ∧ LayM w W1 W2 wr N M l.length A1 A2 c1 c2 (dlS wl M k) wl) (fun iv _ => l.length - (intOf iv).toNat)
  case atStart => exact ⟨0, Nat.zero_le _, rfl, HL0.out⟩
  case round =>
    clear HL0
    obtain ⟨k, hk, rfl, hlm⟩ := hrel
    have HLm := Lib.hid hlm
    have hkb : (k : Int) + 1 ≤ 1000001 := by omega
    obtain ⟨-, -, x2, -⟩ := box3 hlm.box
    clear hlm
    by_cases hlt : k < l.length
    · have hlti : (k : Int) < (l.length : Int) := Int.ofNat_lt.2 hlt
      obtain ⟨z, hz⟩ := some_of_lt (l := wl) (k := k) (by rw [HWn.out]; exact hlt)
      have hv : (nums wl)[k]? = some (.complex .f64 z.1 z.2) := by simp [nums, hz]
      have hrw := Reads.of_own HLm.out.wls
      obtain ⟨ad, rfl, -, hcell⟩ := hrw.at_ hv
      clear hrw hv
      by_cases hkm : k < M
      · have hkmi : (k : Int) < (M : Int) := Int.ofNat_lt.2 hkm
        obtain ⟨g, cg, hA, hbg, -⟩ := HLm.out.own.form (by omega)
        have hAe : A1 = some ⟨g, 0, none⟩ := by injection hA
        have hce : c1 = cg := by injection hA
        subst hAe hce
        have hg2 := HLm.out.blk g rfl
        obtain ⟨u, hu⟩ := some_of_lt (l := nums (dlS wl M k)) (k := k) (by simp [nums, dlS]; exact hkm)
        have cg := (HLm.out.own.cellAt k (by omega)).trans hu
        have fg := HLm.out.own.frozenAt k
        have hst := (HLm.out.own.stored k (.complex .f64 z.1 z.2)).1
        rw [show (nums (dlS wl M k)).set k (.complex .f64 z.1 z.2) = nums ((dlS wl M k).set k z) by simp [nums, List.map_set], dlS_set hz] at hst
        have HNx := Lib.hid (show LayM w W1 W2 _ N M l.length (some ⟨g, 0, none⟩) _ c1 c2 (dlS wl M (k + 1)) wl from
          { bel := HLm.out.bel.setCell (Nat.le_trans B1s.out hbg) _
            own := hst
            blk := HLm.out.blk
            box := by rw [Below.heap_setCell _ _ _ _ (show W2.heap.size ≠ g by omega)]; exact HLm.out.box
            wls := ownsRow_setCell_below HLm.out.wls (show g < W2.heap.size + 1 by omega) _ })
        clear hz hu hA hbg hg2 hst
        go_wp2
        go_roundw
        case rel => exact ⟨k + 1, hlt, by go_num, HNx.out⟩
        case measure => simp [intOf]; omega
      · have hkmi : ¬ ((k : Int) < (M : Int)) := by omega
        have hkd : decide ((k : Int) < (M : Int)) = false := decide_eq_false hkmi
        clear hz
        go_wp2
        go_roundw
        case rel => exact ⟨k + 1, hlt, by go_num, by rw [← dlS_over (by omega)]; exact HLm.out⟩
        case measure => simp [intOf]; omega
    · have e : k = l.length := by omega
      subst e
      obtain ⟨dL, hdL⟩ : ∃ dL, dL = dlS wl M l.length := ⟨_, rfl⟩
      rw [← hdL] at HLm
      have hdlM : dL.length = M := by rw [hdL, dlS_len]
      have hdll : dL.length = N * N := by rw [hdlM, HM.out]
      have hdcp : ∀ z ∈ dL, CP 0 1074 1083 z z := by rw [hdL]; exact dlS_cp HWl.out M _
      have hOf := Of_c N N A1 dL c1 wr (by rw [hdlM]; exact HLe.out) (Reads.of_own HLm.out.own) (lt_of_cp hdcp)
      rw [hdlM, Int.toNat_natCast] at hOf
      obtain ⟨f1, f2, hf⟩ : ∃ f1 f2, ofF N N dL = (f1, f2) := ⟨_, _, rfl⟩
      rw [hf] at hOf
      have HOf := Lib.hid hOf
      have HFf := Lib.hid hf
      have HDl := Lib.hid hdll
      have HDc := Lib.hid hdcp
      have K3 := Lib.hid (show Km w wr [] [(W2.heap.size, .cells #[.int .i64 (N : Nat), .int .i64 (N : Nat), .slice A1 M c1] 32)] [(B, zcells x)] from
        ⟨HLm.out.bel, fun _ h => (List.not_mem_nil h).elim, fun t ht => by rw [List.mem_singleton.1 ht]; exact HLm.out.box, fun t ht => by rw [List.mem_singleton.1 ht]; exact (HRx.out.below HLm.out.bel).more HLm.out.bel.size⟩)
      obtain ⟨x0, x1, x2, -⟩ := box3 (K3.out.row 0 rfl)
      clear hdL hdlM hdll hdcp hOf hf HLm HWl HWn HLe hlb hkb
      by_cases h0 : f1 = 0
      · subst h0
        obtain ⟨-, hf0, -⟩ := of_fin (n := N) (by have := HN2.out; omega) HDl.out (by rw [HFf.out])
        have h2 : f2 = 0 := by have h3 := HFf.out; rw [hf0] at h3; exact (Prod.mk.inj h3).2.symm
        subst h2
        clear hf0
        go_wp2_with fail
        refine HOf.out.mono ?_
        rintro e W4 hr
        obtain ⟨b1, rfl, h9, hb⟩ := hr.ok rfl
        have K4 := Lib.hid ((((K3.out.below hb).add h9).new (.cells #[.int .i64 0, .int .i64 0] 27)).addR (heap_alloc_new W4 (.cells #[.int .i64 0, .int .i64 0] 27)))
        clear hr h9 hb K3 HOf x0 x1 x2
        have hxl6 : (x.length : Int) ≤ 1000000 := by have := HXl.out; omega
        by_cases hsh : x.length < N
        · have hshi : (x.length : Int) < (N : Int) := Int.ofNat_lt.2 hsh
          go_wp2
          go_ret
          exact ⟨rfl, K4.out.bel⟩
        · have hshd : decide ((x.length : Int) < (N : Int)) = false := decide_eq_false (by omega)
          have hshn : ¬ ((x.length : Int) < (N : Int)) := by omega
          have hNx : N ≤ x.length := by omega
          go_wp2_with fail
          refine (hPb.out _).mono ?_
          rintro e w' ⟨rfl, rfl⟩
          have htl : (x.take N).length = N := by rw [List.length_take]; omega
          have hNc : (N : Int) ≤ (capx : Int) := by have := HXc.out; omega
          have hwb := whole_c B (x.take N) capx _ (by have := HN2.out; omega) (reads_take hNx (K4.out.rd 0 rfl)) (fun z hz => HLx.out z (List.mem_of_mem_take hz))
          rw [htl] at hwb
          obtain ⟨bl, hbl⟩ : ∃ bl, bl = (x.take N).map wC := ⟨_, rfl⟩
          rw [← hbl] at hwb
          have HWb := Lib.hid hwb
          have HBl := Lib.hid (show bl.length = N by rw [hbl, List.length_map, htl])
          have HBc := Lib.hid (show ∀ z ∈ bl, CP 0 1074 1083 z z by rw [hbl]; exact wl_cp _)
          clear hwb hbl htl hPb
          go_wp2_with fail
          refine HWb.out.mono ?_
          rintro e W5 ⟨s, rfl, hown, hb⟩
          rw [HBl.out] at hown
          obtain ⟨A3, c3, rfl, hrd3, -, -⟩ := own_reads hown
          have K5 := Lib.hid ((K4.out.below hb).addL hrd3)
          obtain ⟨K2, hK2⟩ : ∃ K2, K2 = 2 * N := ⟨_, rfl⟩
          have hk2i : (2 : Int) * (N : Int) = (K2 : Int) := by omega
          have hk24 : K2 ≤ 4 := by have := HN2.out; omega
          have HK2 := Lib.hid hK2
          have hmk := run_make_row' (P := Try.prog) 30 43 (.complex .f64 0 0) 16 Try.underlying30 infoNum rfl .i64 .i64 K2 (by omega) (by omega)
          clear hown hb hrd3 K4 HWb hK2 hshd hshn
          go_wp2
          obtain ⟨W6, hW6⟩ : ∃ W6 : World, W6 = (W5.alloc (.cells (madeCells #[.complex .f64 0 0] K2) 43)).alloc (.cells #[.int .i64 (N : Nat), .int .i64 2, .slice (some ⟨W5.heap.size, 0, none⟩) K2 K2] 32) := ⟨_, rfl⟩
          rw [← hW6]
          have HMo0 := Lib.hid (show MoS W5 W6 (W5.heap.size + 1) W5.heap.size K2 N 2 (sdF bl (jj - 100) 0) from by
            rw [hW6]
            exact { bel := (below_new W5 _).new (Nat.le_refl _) _
                    box := row_new2 _ _ _
                    row := noughts_row (row_alloc (heap_alloc_new W5 _)) (sdF bl (jj - 100) 0) (fun q => by unfold sdF; rw [if_neg (Nat.not_lt_zero _)])
                    lo := Nat.le_refl _
                    lob := Nat.le_succ _
                    ne := by omega })
          have hs6 : W6.heap.size = W5.heap.size + 1 + 1 := by rw [hW6]; simp
          obtain ⟨fl, hfl⟩ : ∃ fl, fl = bl.map fun z => ldC z (jj - 100) := ⟨_, rfl⟩
          have HFl := Lib.hid hfl
          have HS6 := Lib.hid hs6
          clear hW6 hs6 hfl hmk
          have hnb : (N : Int) ≤ 2 := by have := HN2.out; omega
          go_loopw [16, 18] (fun fv iv wr => ∃ i : Nat, i ≤ N ∧ iv = .int .i64 (i : Nat) ∧ MoS W5 wr (W5.heap.size + 1) W5.heap.size K2 N 2 (sdF bl (jj - 100) i) ∧ wr.ownsRow W6.heap.size 43 1 fv i (nums (fl.take i)) ∧ W6.heap.size ≤ wr.heap.size) (fun _ iv _ => N - (intOf iv).toNat)
          case atStart => exact ⟨0, Nat.zero_le _, rfl, HMo0.out, World.ownsRow_nil _ _ _ _, Nat.le_refl _⟩
          case round =>
            clear HMo0
            obtain ⟨i, hi, rfl, hmo, hown, hsz⟩ := hrel
            rename World => wi
            have HMi := Lib.hid hmo
            have HOi := Lib.hid hown
            have HSz := Lib.hid hsz
            have Ki := Lib.hid (K5.out.below hmo.bel)
            have hib : (i : Int) + 1 ≤ 3 := by omega
            clear hmo hown hsz
            by_cases hlt : i < N
            · have hlti : (i : Int) < (N : Int) := Int.ofNat_lt.2 hlt
              obtain ⟨z, hz⟩ := some_of_lt (l := bl) (k := i) (by rw [HBl.out]; exact hlt)
              have hv : (nums bl)[i]? = some (.complex .f64 z.1 z.2) := by simp [nums, hz]
              obtain ⟨ad, rfl, hadb, hcell⟩ := (Ki.out.rd 0 rfl).at_ hv
              have hcd : ∀ D, (wi.drewN D).cell? (ad.add i) = some (.complex .f64 z.1 z.2) := fun _ => hcell
              have hzc := HBc.out z (List.mem_of_getElem? hz)
              obtain ⟨p1, p2, p3, -, -⟩ := ldW_exact hzc.re.1 hzc.re.2.2.2 (by omega) (by omega) (jj - 100) (by omega) (by omega)
              obtain ⟨q1, q2, q3, -, -⟩ := ldW_exact hzc.im.1 hzc.im.2.2.2 (by omega) (by omega) (jj - 100) (by omega) (by omega)
              have HL1 := Lib.hid (fun V => ld_out z.1 (jj - 100) hzc.re.1 hzc.re.2.2.2.1 p1 (by omega) p3 V)
              have HL2 := Lib.hid (fun V => ld_out z.2 (jj - 100) hzc.im.1 hzc.im.2.2.2.1 q1 (by omega) q3 V)
              have HLc := Lib.hid (show ltC (ldC z (jj - 100)) from ⟨p2, q2⟩)
              have HZl := Lib.hid hzc.ltx
              have HZ := Lib.hid hz
              obtain ⟨a1, ha1⟩ : ∃ a, a = ldW z.1 (jj - 100) := ⟨_, rfl⟩
              obtain ⟨a2, ha2⟩ : ∃ a, a = ldW z.2 (jj - 100) := ⟨_, rfl⟩
              rw [← ha1] at HL1
              rw [← ha2] at HL2
              have hac : ldC z (jj - 100) = (a1, a2) := by unfold ldC; rw [ha1, ha2]
              rw [hac] at HLc
              have HAc := Lib.hid hac
              clear hz hv hadb hzc p1 p2 p3 q1 q2 q3 ha1 ha2 hac
              go_wp2_with fail
              go_quiet (first
                | (go_at_call 38; first | with_reducible exact quiet_drew10 (HL1.out _) | with_reducible exact quiet_drew10 (HL2.out _)))
              obtain ⟨V1, hV1⟩ : ∃ V1, V1 = wi.drewN nq := ⟨_, rfl⟩
              have HMv := Lib.hid (show MoS W5 V1 (W5.heap.size + 1) W5.heap.size K2 N 2 (sdF bl (jj - 100) i) by rw [hV1]; exact HMi.out.below (below_drewN (Below.refl _ _) nq))
              have HOv := Lib.hid (show V1.ownsRow W6.heap.size 43 1 u16 i (nums (fl.take i)) by rw [hV1]; exact own_drewN HOi.out nq)
              have HSv := Lib.hid (show W6.heap.size ≤ V1.heap.size by rw [hV1]; exact HSz.out)
              rw [← hV1]
              clear hV1 hcell hcd Ki
              have hbt := below_new V1 (.cells #[.complex .f64 a1 a2] 43)
              go_wp2_with (at_builtin; refine wpList_append_own _ rfl (.tmp 102) (.tmp 104) 30 rfl W6.heap.size 43 i0 (.complex .f64 0 0) 1 16 Try.underlying30 hi0 hz0 hz1 hz2 rfl (by decide) _ _ _ rfl (HOv.out.alloc _) ⟨V1.heap.size, 0, none⟩ 1 1 [.complex .f64 a1 a2] rfl rfl (cell_one_new _ _ _) (by intro u hu; simp at hu; subst hu; rfl) (by unfold maxLen; omega) (by omega) (Nat.le_trans HSv.out hbt.size) ?_; intro v' w1 hown1 hgrow1 hnil1)
              have hm1 : MoS W5 w1 (W5.heap.size + 1) W5.heap.size K2 N 2 (sdF bl (jj - 100) i) := (HMv.out.below hbt).grown hgrow1 (fun b hb => by
                have h1 := (HOv.out.lt b hb).1
                have h2 := HS6.out
                omega)
              have hfl1 : fl.take (i + 1) = fl.take i ++ [(a1, a2)] := by
                rw [HFl.out, ← HAc.out, ← List.map_take, ← List.map_take]
                have hz' := HZ.out
                have hii : i < bl.length := lt_of_some hz'
                rw [List.take_succ_eq_append_getElem hii, List.map_append]
                rw [List.getElem?_eq_getElem hii] at hz'
                rw [Option.some.inj hz']; rfl
              have hown2 : w1.ownsRow W6.heap.size 43 1 v' (i + 1) (nums (fl.take (i + 1))) := by
                rw [hfl1, show nums (fl.take i ++ [(a1, a2)]) = nums (fl.take i) ++ [.complex .f64 a1 a2] by simp [nums]]; exact hown1
              have hsz1 : W6.heap.size ≤ w1.heap.size := Nat.le_trans HSv.out (Nat.le_trans hbt.size hgrow1.size)
              clear hnil1 hown1 hgrow1 hbt hfl1 HMv HOv HSv HMi HOi HSz
              obtain ⟨q2, hq2⟩ : ∃ q, q = 2 * i := ⟨_, rfl⟩
              obtain ⟨q3, hq3⟩ : ∃ q, q = q2 + 1 := ⟨_, rfl⟩
              have hK2e := HK2.out
              have hq2k : q2 < K2 := by omega
              have hq3k : q3 < K2 := by omega
              have hq2i : (q2 : Int) < (K2 : Int) := Int.ofNat_lt.2 hq2k
              have hq3i : (q3 : Int) < (K2 : Int) := Int.ofNat_lt.2 hq3k
              have w2 : IntKind.i64.wrap (2 * (i : Int)) = (q2 : Int) := wrapI (by omega) (by omega)
              have w2' : (2 : Int) * (i : Int) = (q2 : Int) := by omega
              have w3' : (q2 : Int) + 1 = (q3 : Int) := by omega
              obtain ⟨ad2, hA2, -, hcell⟩ := ((K5.out.below hm1.bel).rd 0 rfl).at_ (show (nums bl)[i]? = some (.complex .f64 z.1 z.2) by simp [nums, HZ.out])
              have hae : ad = ad2 := by injection hA2
              subst hae
              obtain ⟨-, -, u2, -⟩ := box3 hm1.box
              have c2' := hm1.row.cell hq2k
              have f2' := hm1.row.frozen q2
              have HM1 := Lib.hid hm1
              have HO1 := Lib.hid hown2
              have HS1 := Lib.hid hsz1
              have n1 : decide ((q2 : Int) < 0) = false := by simp
              have n2 : decide ((q3 : Int) < 0) = false := by simp
              have HK2e := Lib.hid hK2e
              have Hq2 := Lib.hid hq2
              have Hq3 := Lib.hid hq3
              have Hq2k := Lib.hid hq2k
              have Hq3k := Lib.hid hq3k
              have W2' := Lib.hid w2'
              have W3' := Lib.hid w3'
              clear hA2 hm1 hown2 hsz1 hK2e hq2 hq3 hq2k hq3k w2' w3'
              go_wp2_with fail
              go_still_tail 9, (by kernel_rfl)
              change wpList _ _ _ _ _ w1.drew
              have hq2k := Hq2k.out
              have hq3k := Hq3k.out
              have w2' := W2'.out
              have w3' := W3'.out
              have hmp : MoS W5 (w1.setCell ⟨W5.heap.size, q2, none⟩ (.complex .f64 z.1 z.2)).drew (W5.heap.size + 1) W5.heap.size K2 N 2 (putX (sdF bl (jj - 100) i) (2 * i) z) := by
                have h := HM1.out.put hq2k HZl.out
                rw [Hq2.out] at h ⊢
                exact h.below (Below.refl _ _).drew
              have d1f : w1.drew.frozen? ⟨W5.heap.size, q2, none⟩ = false := f2'
              obtain ⟨v1, d1⟩ : ∃ v, w1.drew.cell? ⟨W5.heap.size, q2, none⟩ = some v := ⟨_, c2'⟩
              obtain ⟨-, -, u2b, -⟩ := box3 hmp.box
              obtain ⟨v3, c3b⟩ : ∃ v, (w1.setCell ⟨W5.heap.size, q2, none⟩ (.complex .f64 z.1 z.2)).drew.cell? ⟨W5.heap.size, q3, none⟩ = some v := ⟨_, hmp.row.cell hq3k⟩
              have f3b := hmp.row.frozen q3
              have HNx := Lib.hid ((hmp.put hq3k HLc.out).congr (F' := sdF bl (jj - 100) (i + 1)) (fun q _ => by rw [sdF_next HZ.out, HAc.out, Hq3.out, Hq2.out]))
              have hlow : W5.heap.size < W6.heap.size := by rw [HS6.out]; omega
              have HOx := Lib.hid (ownsRow_setCell_below (show (w1.setCell ⟨W5.heap.size, q2, none⟩ (.complex .f64 z.1 z.2)).drew.ownsRow W6.heap.size 43 1 v' (i + 1) (nums (fl.take (i + 1))) from ownsRow_setCell_below HO1.out (a := ⟨W5.heap.size, q2, none⟩) hlow (.complex .f64 z.1 z.2)) (a := ⟨W5.heap.size, q3, none⟩) hlow (.complex .f64 a1 a2))
              have HSx := Lib.hid (show W6.heap.size ≤ ((w1.setCell ⟨W5.heap.size, q2, none⟩ (.complex .f64 z.1 z.2)).drew.setCell ⟨W5.heap.size, q3, none⟩ (.complex .f64 a1 a2)).heap.size by
                rw [World.size_setCell]; show W6.heap.size ≤ (w1.setCell _ _).heap.size; rw [World.size_setCell]; exact HS1.out)
              clear hmp hlow c2' f2' u2 hcell hq2k hq3k HM1 w2 HL1 HL2
              go_wp2
              go_roundw
              case rel => exact ⟨i + 1, hlt, by go_num, HNx.out, HOx.out, HSx.out⟩
              case measure => simp [intOf]; omega
            · have e : N = i := by omega
              subst e
              have h1 : -100 ≤ jj - 100 := by omega
              have h2 : jj - 100 ≤ 100 := by omega
              obtain ⟨HLf0, -, -⟩ := of_fin (n := N) (by have := HN2.out; omega) HDl.out (by rw [HFf.out])
              have hSc := scales HN2.out HDl.out HDc.out (by rw [HFf.out]) HBl.out HBc.out (jj - 100) h1 h2 HFl.out
              obtain ⟨S, hS⟩ : ∃ S, S = ofS N dL := ⟨_, rfl⟩
              have hfin : finTo S.E N := by rw [hS]; unfold ofS; simp only [Int.toNat_natCast]; exact elRun_fin (matE_fin HDl.out HLf0) N (Nat.le_refl _)
              have hperm : Perm N S.o := by rw [hS]; exact of_perm
              rw [← hS] at hSc Ki
              obtain ⟨ok1, ok2, hR⟩ := hSc
              have hN64 : N ≤ 64 := by have := HN2.out; omega
              have hla := ld_all HBc.out h1 h2
              have hbf : ∀ z ∈ bl, pFinite z = true := fun z hz => (HBc.out z hz).finx
              have hbl : ltCs bl := lt_of_cp HBc.out
              have hff : ∀ z ∈ fl, pFinite z = true := fun z hz => by
                rw [HFl.out] at hz
                obtain ⟨u, hu, rfl⟩ := List.mem_map.1 hz
                exact (hla u hu).1
              have hfl : ltCs fl := fun z hz => by
                rw [HFl.out] at hz
                obtain ⟨u, hu, rfl⟩ := List.mem_map.1 hz
                exact (hla u hu).2
              have hfn : fl.length = N := by rw [HFl.out, List.length_map, HBl.out]
              have hK : K2 = N * 2 := by have := HK2.out; omega
              have hown := HOi.out
              rw [List.take_of_length_le (Nat.le_of_eq hfn)] at hown
              obtain ⟨A6, c6, rfl, hrd6, -, -⟩ := own_reads hown
              have hsd := sd_col (j := jj - 100) hK HBl.out hbf (fun z hz => (hla z hz).1)
              have hsf := sd_fin (j := jj - 100) hK HBl.out hbf (fun z hz => (hla z hz).1)
              have K6 := Lib.hid (((Ki.out.addL hrd6).addL HMi.out.row.reads).addR HMi.out.box)
              have hS1 := Solve_run A3 bl c3 wi (K6.out.get 0 rfl) hfin hperm hN64 HBl.out hbf hbl (K6.out.rd 2 rfl)
              rw [ok1, if_pos rfl, if_pos rfl, HBl.out] at hS1
              have HS1 := Lib.hid hS1
              have HS2 := Lib.hid (fun (V : World) (h9 : Has9 V wr.heap.size b1 N S) (hr : Reads V V.heap.size A6 (nums fl)) => (show Calls Try.prog 13 #[.pointer (some ⟨b1, 0, none⟩), .slice A6 N c6] V (RetSol 0 (solL N S fl) V) from by
                have h := Solve_run A6 fl c6 V h9 hfin hperm hN64 hfn hff hfl hr
                rw [ok2, if_pos rfl, if_pos rfl, hfn] at h
                exact h))
              have HS3 := Lib.hid (fun (V : World) (h9 : Has9 V wr.heap.size b1 N S) (hr : Reads V V.heap.size (some ⟨W5.heap.size, 0, none⟩) (nums ((List.range K2).map (sdF bl (jj - 100) N)))) => (show Calls Try.prog 39 #[.pointer (some ⟨b1, 0, none⟩), mval (N : Nat) 2 (.slice (some ⟨W5.heap.size, 0, none⟩) K2 K2)] V (RetMany N 2 (fun c i => solX (lowE S) (uppE S) S.o (bOf (if c = 0 then bl else fl)) N i) V) from by
                have h := Many_c (some ⟨W5.heap.size, 0, none⟩) ((List.range K2).map (sdF bl (jj - 100) N)) K2 V h9 hfin hperm hN64 (by omega) hK (by simp) hsf (fun z hz => by
                  obtain ⟨q, hq, rfl⟩ := List.mem_map.1 hz
                  exact HMi.out.row.lt q (List.mem_range.1 hq)) hr (fun c hc => by
                    have h01 : c = 0 ∨ c = 1 := by omega
                    rcases h01 with rfl | rfl
                    · rw [hsd.1]; exact ok1
                    · rw [hsd.2, ← HFl.out]; exact ok2)
                refine h.mono ?_
                rintro e V' ⟨g, rfl, hrow, hb⟩
                refine ⟨g, rfl, ?_, hb⟩
                have hX : ∀ q, solX (lowE S) (uppE S) S.o (bOf ((List.range N).map fun i => ent ((List.range K2).map (sdF bl (jj - 100) N)) 2 i (q % 2))) N (q / 2) = solX (lowE S) (uppE S) S.o (bOf (if q % 2 = 0 then bl else fl)) N (q / 2) := fun q => by
                  have h01 : q % 2 = 0 ∨ q % 2 = 1 := by omega
                  rcases h01 with e | e
                  · rw [e, hsd.1, if_pos rfl]
                  · rw [e, hsd.2, ← HFl.out, if_neg (by omega)]
                exact ⟨by rw [hrow.x]; simp only [hX], fun q hq => by show ltC (solX (lowE S) (uppE S) S.o (bOf (if q % 2 = 0 then bl else fl)) N (q / 2)); rw [← hX]; exact hrow.lt q hq⟩))
              have HR := Lib.hid hR
              have HK := Lib.hid hK
              have hsl : ∀ l', (solL N S l').length = N := fun l' => by simp [solL]
              have HSl := Lib.hid hsl
              clear hS hfin hperm ok1 ok2 hR hN64 hla hbf hbl hff hfl hfn hK hown hrd6 hsd hsf hS1 hsl HLf0 Ki HMi HOi HSz h1 h2
              go_wp2_with fail
              refine HS1.out.mono ?_
              rintro e W7 hr
              obtain ⟨A7, c7, rfl, hrd, hb⟩ := sol_own hr
              rw [HSl.out]
              have K7 := Lib.hid ((K6.out.below hb).addL hrd)
              clear hr hrd hb HS1 K6
              go_wp2_with fail
              refine (HS2.out _ (K7.out.get 0 rfl) (K7.out.rd 2 rfl)).mono ?_
              rintro e W8 hr
              obtain ⟨A8, c8, rfl, hrd, hb⟩ := sol_own hr
              rw [HSl.out]
              have K8 := Lib.hid ((K7.out.below hb).addL hrd)
              clear hr hrd hb HS2 K7
              obtain ⟨y0, y1, y2, -⟩ := box3 (K8.out.row 0 rfl)
              go_wp2_with fail
              refine (HS3.out _ (K8.out.get 0 rfl) (K8.out.rd 2 rfl)).mono ?_
              rintro e W9 ⟨g, rfl, hrow, hb⟩
              rw [← HK.out] at hrow ⊢
              have K9 := Lib.hid (((K8.out.below hb).new (.cells #[.int .i64 (N : Nat), .int .i64 2, .slice (some ⟨g, 0, none⟩) K2 K2] 32)).addR (heap_alloc_new W9 _))
              have HRow := Lib.hid (hrow.below (below_new W9 (.cells #[.int .i64 (N : Nat), .int .i64 2, .slice (some ⟨g, 0, none⟩) K2 K2] 32)))
              clear hrow hb HS3 K8 y0 y1 y2
              obtain ⟨y0, y1, y2, -⟩ := box3 (K9.out.row 0 rfl)
              go_wp2
              obtain ⟨Wa, hWa⟩ : ∃ Wa : World, Wa = W9.alloc (.cells #[.int .i64 (N : Nat), .int .i64 2, .slice (some ⟨g, 0, none⟩) K2 K2] 32) := ⟨_, rfl⟩
              rw [← hWa] at K9 HRow ⊢
              clear hWa y0 y1 y2
              go_loopw [26] (fun iv wr => ∃ i d : Nat, i ≤ N ∧ iv = .int .i64 (i : Nat) ∧ wr = Wa.drewN d) (fun iv _ => N - (intOf iv).toNat)
              case atStart => exact ⟨0, 0, Nat.zero_le _, rfl, rfl⟩
              case round =>
                obtain ⟨i, d, hi, rfl, rfl⟩ := hrel
                obtain ⟨V, hV⟩ : ∃ V, V = Wa.drewN d := ⟨_, rfl⟩
                rw [← hV]
                have HV := Lib.hid hV
                clear hV
                by_cases hlt : i < N
                · have hlti : (i : Int) < (N : Int) := Int.ofNat_lt.2 hlt
                  obtain ⟨s, t, hs, ht, ls, lt, fs, ft, ks1, ks2, e1, e2⟩ := HR.out i hlt
                  obtain ⟨fs1, fs2⟩ := fin_of_pFinite fs
                  obtain ⟨ft1, ft2⟩ := fin_of_pFinite ft
                  have HL1 := Lib.hid (fun V => ld_out s.1 (jj - 100) ls.1 fs1 ks1 (by omega) (fin_of_feq ft1 e1) V)
                  have HL2 := Lib.hid (fun V => ld_out s.2 (jj - 100) ls.2 fs2 ks2 (by omega) (fin_of_feq ft2 e2) V)
                  have HSs := Lib.hid (fun V => same_out s V)
                  have HSt := Lib.hid (fun V => same_out t V)
                  have Kv := Lib.hid (show Km w V _ _ _ by rw [HV.out]; exact K9.out.below (below_drewN (Below.refl _ _) d))
                  have hrow : RowF V g K2 fun q => solX (lowE S) (uppE S) S.o (bOf (if q % 2 = 0 then bl else fl)) N (q / 2) := by rw [HV.out]; exact HRow.out.below (below_drewN (Below.refl _ _) d)
                  obtain ⟨ad1, has, -, hcs⟩ := (Kv.out.rd 1 rfl).at_ (solL_at hlt hs)
                  obtain ⟨ad2, hat, -, hct⟩ := (Kv.out.rd 0 rfl).at_ (solL_at hlt ht)
                  subst has hat
                  obtain ⟨-, -, u2, -⟩ := box3 (Kv.out.row 0 rfl)
                  obtain ⟨q2, hq2⟩ : ∃ q, q = 2 * i := ⟨_, rfl⟩
                  obtain ⟨q3, hq3⟩ : ∃ q, q = q2 + 1 := ⟨_, rfl⟩
                  have hK2e := HK2.out
                  have hq2k : q2 < K2 := by omega
                  have hq3k : q3 < K2 := by omega
                  have hq2i : (q2 : Int) < (K2 : Int) := Int.ofNat_lt.2 hq2k
                  have hq3i : (q3 : Int) < (K2 : Int) := Int.ofNat_lt.2 hq3k
                  have w2 : IntKind.i64.wrap (2 * (i : Int)) = (q2 : Int) := wrapI (by omega) (by omega)
                  have w3 : IntKind.i64.wrap ((q2 : Int) + 1) = (q3 : Int) := wrapI (by omega) (by omega)
                  have hg2 := hrow.cell hq2k
                  have hg3 := hrow.cell hq3k
                  rw [show q2 % 2 = 0 by omega, show q2 / 2 = i by omega, if_pos rfl, ← hs] at hg2
                  rw [show q3 % 2 = 1 by omega, show q3 / 2 = i by omega, if_neg (by omega), ← ht] at hg3
                  have d1 : ∀ D, (V.drewN D).cell? (ad1.add i) = some (.complex .f64 s.1 s.2) := fun _ => hcs
                  have d2 : ∀ D, (V.drewN D).cell? (ad2.add i) = some (.complex .f64 t.1 t.2) := fun _ => hct
                  have d3 : ∀ D, (V.drewN D).cell? ⟨W9.heap.size, 2, none⟩ = some (.slice (some ⟨g, 0, none⟩) K2 K2) := fun _ => u2
                  have d4 : ∀ D, (V.drewN D).cell? ⟨g, q2, none⟩ = some (.complex .f64 s.1 s.2) := fun _ => hg2
                  have d5 : ∀ D, (V.drewN D).cell? ⟨g, q3, none⟩ = some (.complex .f64 t.1 t.2) := fun _ => hg3
                  have n1 : decide ((q2 : Int) < 0) = false := by simp
                  have n2 : decide ((q3 : Int) < 0) = false := by simp
                  obtain ⟨a1, ha1⟩ : ∃ a, a = ldW s.1 (jj - 100) := ⟨_, rfl⟩
                  obtain ⟨a2, ha2⟩ : ∃ a, a = ldW s.2 (jj - 100) := ⟨_, rfl⟩
                  rw [← ha1] at HL1 e1
                  rw [← ha2] at HL2 e2
                  clear hs ht ls lt fs ft ks1 ks2 fs1 fs2 ft1 ft2 hrow Kv hcs hct u2 hg2 hg3 hq2 hq3 hK2e hq2k hq3k ha1 ha2
                  go_wp2_with fail
                  go_quiet (first
                    | (go_at_call 38; first | with_reducible exact quiet_drew10 (HL1.out _) | with_reducible exact quiet_drew10 (HL2.out _))
                    | (go_at_call 40; first | with_reducible exact quiet_drew10 (HSs.out _) | with_reducible exact quiet_drew10 (HSt.out _)))
                  go_wp2
                  go_roundw
                  case rel => exact ⟨i + 1, d + nq, hlt, by go_num, by rw [HV.out, World.drewN_drewN]⟩
                  case measure => simp [intOf]; omega
                · have e : N = i := by omega
                  subst e
                  go_wp2
                  go_ret
                  exact ⟨rfl, by rw [HV.out]; exact below_drewN K9.out.bel d⟩
      · have hne : (f1 == 0) = false := by simpa using h0
        have HBd := Lib.hid (HOf.out.mono fun e w' h => h.bad h0)
        clear HOf h0
        go_wp2_with fail
        refine HBd.out.mono ?_
        rintro e W4 ⟨rfl, hb⟩
        have K4 := Lib.hid ((K3.out.below hb).new (.cells #[.int .i64 f1, .int .i64 f2] 27))
        clear hb
        go_wp2
        go_ret
        exact ⟨rfl, K4.out.bel⟩
end Go.Proofs.Ytglmmidhkpomgaa
