/- The document's layer 10: unknowns out of what was eliminated (gridworkref10.Solve). -/
import Derived.Test.YtandllekeimpgaaGreatRQ1
import Derived.Test.YtandllekeimpgaaGreatReg
import Derived.Deep.RegionHeld3
import Derived.Deep.DeepCutAuto
import Derived.BigRegion
namespace Go.Proofs.YtandllekeimpgaaGreat
open Go.RowKit Fl Ieee
set_option maxRecDepth 20000
attribute [local go_sem] run_store_float run_store_complex Fl.order_self Fl.order_self' Fl.order_eq Fl.order_ne Fl.order_lt Fl.order_gt
theorem bwd_low {Up : Nat → Nat → C} {n : Nat} {Y : Nat → C} : ∀ j, ∀ i, i < n - j → bwd Up n Y j i = Y i
  | 0, _, _ => rfl
  | j + 1, i, hi => by
    show putX _ _ _ i = _
    rw [putX_other (by omega)]
    exact bwd_low j i (by omega)
/-- A row of unknowns that is being filled; whether all was finite. -/
structure RqS (W0 W : World) (bk n : Nat) (zs : Nat → C) (f : Bool) : Prop where
  bel : Below bk W0 W
  keep : ∀ j, j < W0.heap.size → j ≠ bk → W.heap[j]? = W0.heap[j]?
  flag : W.heap[bk]? = some (.cells #[.bool f] 4)
  x : W.heap[W0.heap.size]? = some (.cells (nums ((List.range n).map zs)).toArray 60)
  lt : ∀ j, j < n → ltC (zs j)
  hk : bk < W0.heap.size
namespace RqS
variable {W0 W V : World} {bk n : Nat} {zs : Nat → C} {f : Bool}
theorem below (h : RqS W0 W bk n zs f) (hb : Below W.heap.size W V) : RqS W0 V bk n zs f where
  bel := h.bel.trans (hb.mono (Nat.le_of_lt (row_lt h.flag)))
  keep j hj hne := by rw [hb.block j (Nat.lt_of_lt_of_le hj h.bel.size)]; exact h.keep j hj hne
  flag := row_keep hb h.flag
  x := row_keep hb h.x
  lt := h.lt
  hk := h.hk
theorem cellX (h : RqS W0 W bk n zs f) {i : Nat} (hi : i < n) : W.cell? ⟨W0.heap.size, i, none⟩ = some (.complex .f64 (zs i).1 (zs i).2) := by
  rw [cell_of_row W W0.heap.size i _ _ _ h.x]; simp [nums, hi]
theorem frozenX (h : RqS W0 W bk n zs f) (i : Nat) : W.frozen? ⟨W0.heap.size, i, none⟩ = false := frozen_of_row W W0.heap.size i _ _ h.x
theorem put (h : RqS W0 W bk n zs f) {i : Nat} {z : C} (_hi : i < n) (hz : ltC z) : RqS W0 (W.setCell ⟨W0.heap.size, i, none⟩ (.complex .f64 z.1 z.2)) bk n (putX zs i z) f where
  bel := h.bel.setCell (Nat.le_of_lt h.hk) _
  keep j hj hne := by rw [Below.heap_setCell _ _ _ _ (show j ≠ W0.heap.size by omega)]; exact h.keep j hj hne
  flag := by rw [Below.heap_setCell _ _ _ _ (show bk ≠ W0.heap.size by have := h.hk; omega)]; exact h.flag
  x := by
    rw [heap_setCell_same _ _ _ _ _ _ h.x]
    congr 2
    rw [← map_put]
    simp
  lt j hj := by
    unfold putX
    split
    · exact hz
    · exact h.lt j hj
  hk := h.hk
theorem setFlag (h : RqS W0 W bk n zs f) (g : Bool) : RqS W0 (W.setCell ⟨bk, 0, none⟩ (.bool g)) bk n zs g where
  bel := h.bel.setCell (Nat.le_refl _) _
  keep j hj hne := by rw [Below.heap_setCell _ _ _ _ (show j ≠ bk from hne)]; exact h.keep j hj hne
  flag := by
    rw [heap_setCell_same _ _ _ _ _ _ h.flag]
    rfl
  x := by rw [Below.heap_setCell _ _ _ _ (show W0.heap.size ≠ bk by have := h.hk; omega)]; exact h.x
  lt := h.lt
  hk := h.hk
end RqS
/-- What an elimination has told, in boxes. -/
structure RqE (W : World) (bL bU bk n M : Nat) (Al Au Ao Ab : Option Addr) (kl ku : Nat) (S : El) (bl : List C) : Prop where
  xL : W.heap[bL]? = some (.cells #[.int .i64 (n : Nat), .int .i64 (n : Nat), .slice Al M kl] 27)
  xU : W.heap[bU]? = some (.cells #[.int .i64 (n : Nat), .int .i64 (n : Nat), .slice Au M ku] 27)
  rl : Reads W bk Al (nums (entries n (lowE S) M))
  ru : Reads W bk Au (nums (entries n (uppE S) M))
  ro : Reads W bk Ao (intsV (ordL n S.o))
  rb : Reads W bk Ab (nums bl)
  hL : bL < bk
  hU : bU < bk
theorem RqE.below {W V : World} {bL bU bk n M : Nat} {Al Au Ao Ab : Option Addr} {kl ku : Nat} {S : El} {bl : List C} (h : RqE W bL bU bk n M Al Au Ao Ab kl ku S bl) (hb : Below bk W V) : RqE V bL bU bk n M Al Au Ao Ab kl ku S bl :=
  ⟨(hb.block _ h.hL).trans h.xL, (hb.block _ h.hU).trans h.xU, h.rl.below hb, h.ru.below hb, h.ro.below hb, h.rb.below hb, h.hL, h.hU⟩
theorem rent_q {n M : Nat} (E : Nat → Nat → C) (A : Option Addr) (cap i j : Nat) (W : World) (hM : M = n * n) (hn : n ≤ 64) (hi : i < n) (hj : j < n) (hr : Reads W W.heap.size A (nums (entries n E M))) :
    Calls Tryz.prog 71 #[mval n n (.slice A M cap), .int .i64 (i : Nat), .int .i64 (j : Nat)] W (RetV (.complex .f64 (E i j).1 (E i j).2) W) := by
  have hle : (entries n E M).length = M := by simp [entries]
  have hM4 : M ≤ 4096 := by rw [hM]; exact prod_small hn hn
  have hk : i * n + j < M := by
    rw [hM]
    have h1 : (i + 1) * n ≤ n * n := Nat.mul_le_mul_right _ hi
    rw [Nat.add_mul, Nat.one_mul] at h1; omega
  have h := rEnt_c (n : Int) (n : Int) A (entries n E M) cap i j (i * n + j) (E i j) (by simp) (by omega) (by omega) (by omega) (by
    unfold entries
    rw [List.getElem?_map, List.getElem?_range hk, Option.map_some, entry_at E hj]) W.heap.size W (Nat.le_refl _) (by omega) hr
  rw [hle] at h
  exact h
theorem rless_q {W0 V : World} {bk n i : Nat} {zs : Nat → C} {f : Bool} {zi lv zk nv : C} (h : RqS W0 V bk n zs f) (hi : i < n) (hv : pSub (cnC zi) (pMul (cnC lv) (cnC zk)) = nv) :
    Calls Tryz.prog 70 #[.complex .f64 zi.1 zi.2, .complex .f64 lv.1 lv.2, .complex .f64 zk.1 zk.2, .pointer (some ⟨bk, 0, none⟩)] V fun e w' => ∃ z : C, e = .returned (.complex .f64 z.1 z.2) ∧ cnC z = nv ∧ ltC z ∧ RqS W0 w' bk n zs (f && pFinite nv) ∧ w'.cell? ⟨W0.heap.size, i, none⟩ = some (.complex .f64 (zs i).1 (zs i).2) ∧ w'.frozen? ⟨W0.heap.size, i, none⟩ = false :=
  (rless_c bk f zi lv zk V h.flag).mono fun e w' ⟨z, d, he, hz, lz, hw⟩ => by
    rw [hv] at hz hw
    have hs : RqS W0 w' bk n zs (f && pFinite nv) := by rw [hw]; exact (h.below (below_drewN (Below.refl _ _) d)).setFlag _
    exact ⟨z, he, hz, lz, hs, hs.cellX hi, hs.frozenX i⟩
theorem rover_q {W0 V : World} {bk n i : Nat} {zs : Nat → C} {f : Bool} {zi lv nv : C} (h : RqS W0 V bk n zs f) (hi : i < n) (hl : ltC lv) (hv : pDiv (cnC zi) (cnC lv) = nv) :
    Calls Tryz.prog 72 #[.complex .f64 zi.1 zi.2, .complex .f64 lv.1 lv.2, .pointer (some ⟨bk, 0, none⟩)] V fun e w' => ∃ z : C, e = .returned (.complex .f64 z.1 z.2) ∧ cnC z = nv ∧ ltC z ∧ RqS W0 w' bk n zs (f && pFinite nv) ∧ w'.cell? ⟨W0.heap.size, i, none⟩ = some (.complex .f64 (zs i).1 (zs i).2) ∧ w'.frozen? ⟨W0.heap.size, i, none⟩ = false :=
  (rover_c bk f zi lv V h.flag hl).mono fun e w' ⟨z, d, he, hz, lz, hw⟩ => by
    rw [hv] at hz hw
    have hs : RqS W0 w' bk n zs (f && pFinite nv) := by rw [hw]; exact (h.below (below_drewN (Below.refl _ _) d)).setFlag _
    exact ⟨z, he, hz, lz, hs, hs.cellX hi, hs.frozenX i⟩
set_option linter.unusedSimpArgs false in
set_option maxHeartbeats 64000000 in
theorem rSolve_run {B b n : Nat} {S : El} {ti : Bool} (Ab : Option Addr) (bl : List C) (cap : Nat) (w : World) (h : rHas w B b n S ti) (hf : finTo S.E n) (hp : Perm n S.o) (hn : n ≤ 64) (hl : bl.length = n) (hfb : ∀ z ∈ bl, pFinite z = true) (hlt : ltCs bl) (hrd : Reads w w.heap.size Ab (nums bl)) :
    Calls Tryz.prog 35 #[.pointer (some ⟨b, 0, none⟩), .slice Ab bl.length cap] w (RetSol (if solOk n S bl then 0 else 6) (if solOk n S bl then solL n S bl else []) w) := by
  obtain ⟨er, her⟩ : ∃ er : Int, er = if solOk n S bl then 0 else 6 := ⟨_, rfl⟩
  obtain ⟨rs, hrs⟩ : ∃ rs : List C, rs = if solOk n S bl then solL n S bl else [] := ⟨_, rfl⟩
  rw [← her, ← hrs]
  have HEr := Lib.hid her
  have HRs := Lib.hid hrs
  have hE0 : bErr n bl = 0 := by
    unfold bErr
    rw [if_pos hl, if_neg fun hb => by
      have h1 : (!pFinite bl[badAt bl]) = true := List.findIdx_getElem (w := hb)
      rw [hfb _ (List.getElem_mem _)] at h1
      cases h1]
  have HFst := Lib.hid (show Calls Tryz.prog 66 #[.pointer (some ⟨b, 0, none⟩), .slice Ab bl.length cap] w (RetV (.int .i64 0) w) from by
    rw [← hE0]; exact rfirst_c Ab bl cap w h hlt (by omega) hn hrd)
  obtain ⟨M, hM⟩ : ∃ M, M = n * n := ⟨_, rfl⟩
  have hM4 : M ≤ 4096 := by rw [hM]; exact prod_small hn hn
  have HLtS := Lib.hid (show ∀ i, i < n → ltC (S.E i i) from fun i hi => by obtain ⟨_, _, _, _, _, _, _, hl⟩ := h.num hi hi; exact hl)
  have hmk := run_make_row' (P := Tryz.prog) 25 60 (.complex .f64 0 0) 16 Tryz.underlying25 infoNum rfl .i64 .i64 n (by omega) (by omega)
  have HFl := Lib.hid (show ∀ z ∈ entries n (lowE S) M, pFinite z = true by rw [hM]; exact entries_fin (low_fin hf))
  have HFu := Lib.hid (show ∀ z ∈ entries n (uppE S) M, pFinite z = true by rw [hM]; exact entries_fin (upp_fin hf))
  have HLe := Lib.hid (show (entries n (lowE S) M).length = M by simp [entries])
  have HUe := Lib.hid (show (entries n (uppE S) M).length = M by simp [entries])
  have HH := Lib.hid h
  have HRd := Lib.hid hrd
  have HF := Lib.hid hf
  have HP := Lib.hid hp
  have HN := Lib.hid hn
  have HBl := Lib.hid hl
  have HFb := Lib.hid hfb
  have HLt := Lib.hid hlt
  have HM := Lib.hid hM
  have HM4 := Lib.hid hM4
  clear h hf hp hn hl hfb hlt hrd hE0 her hrs hM hM4
  go_enter Tryz.func35, Tryz.ntmps35
  go_wp2_with fail
  refine HFst.out.mono ?_
  rintro e W1 ⟨rfl, hb⟩
  have B1 := Lib.hid hb
  have H1 := Lib.hid (HH.out.below hb)
  clear hb HFst HH
  go_wp2_with fail
  refine (rL_c W1 H1.out HF.out HN.out).mono ?_
  rintro e W2 hr
  rw [← HM.out] at hr
  obtain ⟨Al, kl, rfl, hown, hb⟩ := RetMx.liesO hr HLe.out HFl.out (Nat.le_refl _)
  have B2 := Lib.hid (B1.out.trans (hb.mono B1.out.size))
  have H2 := Lib.hid (H1.out.below hb)
  have HRl := Lib.hid (Reads.of_own hown)
  clear hr hown hb H1 B1
  go_wp2_with fail
  refine (rU_c W2 H2.out HF.out HN.out).mono ?_
  rintro e W3 hr
  rw [← HM.out] at hr
  obtain ⟨Au, ku, rfl, hown, hb⟩ := RetMx.liesO hr HUe.out HFu.out (Nat.le_refl _)
  have B3 := Lib.hid (B2.out.trans (hb.mono B2.out.size))
  have H3 := Lib.hid (H2.out.below hb)
  have HRl3 := Lib.hid ((HRl.out.below hb).more hb.size)
  have HRu := Lib.hid (Reads.of_own hown)
  clear hr hown hb H2 B2 HRl
  go_wp2_with fail
  refine (rOrder_c W3 H3.out HN.out).mono ?_
  rintro e W4 hr
  obtain ⟨Ao, ko, rfl, hro, -, hb⟩ := RetO.lies hr
  have B4 := Lib.hid (B3.out.trans (hb.mono B3.out.size))
  have H4 := Lib.hid (H3.out.below hb)
  have HRl4 := Lib.hid ((HRl3.out.below hb).more hb.size)
  have HRu4 := Lib.hid ((HRu.out.below hb).more hb.size)
  have HRo := Lib.hid hro
  clear hr hro hb H3 B3 HRl3 HRu
  go_upto_region 5 with fail
  obtain ⟨W5, hW5⟩ : ∃ W5, W5 = ((W4.alloc (.cells #[.int .i64 (n : Nat), .int .i64 (n : Nat), .slice Al M kl] 27)).alloc (.cells #[.int .i64 (n : Nat), .int .i64 (n : Nat), .slice Au M ku] 27)) := ⟨_, rfl⟩
  rw [← hW5]
  have hb5 : Below W4.heap.size W4 W5 := by rw [hW5]; exact (below_new W4 _).new (Nat.le_refl _) _
  have hL5 : W5.heap[W4.heap.size]? = some (.cells #[.int .i64 (n : Nat), .int .i64 (n : Nat), .slice Al M kl] 27) := by rw [hW5]; exact row_alloc (heap_alloc_new W4 _)
  have hU5 : W5.heap[W4.heap.size + 1]? = some (.cells #[.int .i64 (n : Nat), .int .i64 (n : Nat), .slice Au M ku] 27) := by rw [hW5]; exact row_new2 W4 _ _
  have hs5 : W4.heap.size + 1 < W5.heap.size := row_lt hU5
  have hb6 := below_new W5 (.cells #[.bool true] 4)
  have hb56 := hb5.trans (hb6.mono (Nat.le_of_lt (Nat.lt_of_succ_lt hs5)))
  obtain ⟨bk, hbk⟩ : ∃ bk, bk = W5.heap.size := ⟨_, rfl⟩
  obtain ⟨W0, hW0⟩ : ∃ W0, W0 = W5.alloc (.cells #[.bool true] 4) := ⟨_, rfl⟩
  have hs0 : W0.heap.size = bk + 1 := by rw [hW0, hbk]; simp
  have HE := Lib.hid (show RqE W0 W4.heap.size (W4.heap.size + 1) bk n M Al Au Ao Ab kl ku S bl from
    { xL := by rw [hW0]; exact row_keep hb6 hL5
      xU := by rw [hW0]; exact row_keep hb6 hU5
      rl := by rw [hW0, hbk]; exact (HRl4.out.below hb56).more (by omega)
      ru := by rw [hW0, hbk]; exact (HRu4.out.below hb56).more (by omega)
      ro := by rw [hW0, hbk]; exact (HRo.out.below hb56).more (by omega)
      rb := by rw [hW0, hbk]; exact (HRd.out.below (B4.out.trans (hb56.mono B4.out.size))).more (by have := B4.out.size; omega)
      hL := by omega
      hU := by omega })
  have HS0 := Lib.hid (show RqS W0 (W0.alloc (.cells (madeCells #[.complex .f64 0 0] n) 60)) bk n (fun _ => (0, 0)) true from
    { bel := (below_new W0 _).mono (by omega)
      keep := fun j hj _ => (below_new W0 _).block j hj
      flag := by rw [hW0, hbk]; exact row_alloc (heap_alloc_new W5 _)
      x := by
        rw [show ((List.range n).map fun _ => ((0, 0) : C)) = List.replicate n (0, 0) by rw [List.map_const', List.length_range], ← mk_nums]
        exact heap_alloc_new _ _
      lt := fun _ _ => ⟨by decide, by decide⟩
      hk := by omega })
  have HB0 := Lib.hid (show Below w.heap.size w W0 by rw [hW0]; exact B4.out.trans (hb56.mono B4.out.size))
  have HBk := Lib.hid (show w.heap.size ≤ bk by have := B4.out.size; omega)
  have H5 := Lib.hid (H4.out.below hb5)
  have HW0 := Lib.hid hW0
  have HBk' := Lib.hid hbk
  obtain ⟨bb, hbb⟩ : ∃ bb, bb = bOf bl := ⟨_, rfl⟩
  have HBB := Lib.hid hbb
  clear hW5 hb5 hL5 hU5 hs5 hb6 hb56 hbk hW0 hs0 hbb H4 HRl4 HRu4 HRo HRd B4
  go_wp2_with fail
  refine (rSize_c W5 H5.out).mono ?_
  rintro e w' ⟨rfl, rfl⟩
  go_upto_region 7 with fail
  rw [← HW0.out, ← HBk'.out]
  clear H5 HW0 HBk'
  go_wp2
  go_loopw [13, 14] (fun iv _ wr => ∃ (i0 : Nat) (zs : Nat → C) (f : Bool), i0 ≤ n ∧ iv = .int .i64 (i0 : Nat) ∧ RqS W0 wr bk n zs f ∧ Hid (∀ j, j < i0 → cnC (zs j) = fwd (lowE S) S.o bb i0 j) ∧ f = fwdFine (lowE S) S.o bb i0) (fun iv _ _ => n - (intOf iv).toNat)
  case atStart => exact ⟨0, _, _, Nat.zero_le _, rfl, HS0.out, Lib.hid (fun j h => by omega), rfl⟩
  case round =>
    obtain ⟨i0, zs, f, hi0, rfl, hs, hz, hf⟩ := hrel
    have HS := Lib.hid hs
    have HZ := hz
    have HFg := Lib.hid hf
    have hib : (i0 : Int) + 1 ≤ 65 := by have := HN.out; omega
    clear hs hf
    by_cases hlt : i0 < n
    · have hlti : (i0 : Int) < (n : Int) := Int.ofNat_lt.2 hlt
      obtain ⟨p, hp⟩ : ∃ p, p = S.o i0 := ⟨_, rfl⟩
      have hpn : p < n := by rw [hp]; exact HP.out.1 _ hlt
      have hpi : (p : Int) < (n : Int) := Int.ofNat_lt.2 hpn
      have hov := ord_get S.o hlt
      rw [← hp] at hov
      obtain ⟨ado, rfl, -, hco⟩ := (HE.out.ro.below HS.out.bel).at_ hov
      have hbl : p < bl.length := by rw [HBl.out]; exact hpn
      have hbli : (p : Int) < (bl.length : Int) := Int.ofNat_lt.2 hbl
      obtain ⟨u, hu⟩ := some_of_lt hbl
      have hbv : (nums bl)[p]? = some (.complex .f64 u.1 u.2) := by simp [nums, hu]
      obtain ⟨adb, rfl, -, hcb⟩ := (HE.out.rb.below HS.out.bel).at_ hbv
      have hub : u = bb (S.o i0) := by rw [HBB.out, ← hp]; unfold bOf; rw [List.getD_eq_getElem?_getD, hu]; rfl
      have HU := Lib.hid hub
      have HUf := Lib.hid (HFb.out u (List.mem_of_getElem? hu))
      have HUl := Lib.hid (HLt.out u (List.mem_of_getElem? hu))
      have hcx := HS.out.cellX hlt
      have hfx := HS.out.frozenX i0
      have HS1 := Lib.hid (HS.out.put hlt HUl.out)
      clear hp hov hu hbv hub hbl
      go_wp2
      clear hcx hfx hco hcb
      go_loopw [14] (fun kv wr => ∃ (k0 : Nat) (zs : Nat → C) (f : Bool), k0 ≤ i0 ∧ kv = .int .i64 (k0 : Nat) ∧ RqS W0 wr bk n zs f ∧ Hid (∀ j, j < i0 → cnC (zs j) = fwd (lowE S) S.o bb i0 j) ∧ Hid (cnC (zs i0) = accTo (lowE S i0) (fwd (lowE S) S.o bb i0) 0 (bb (S.o i0)) k0) ∧ f = (fwdFine (lowE S) S.o bb i0 && accFine (lowE S i0) (fwd (lowE S) S.o bb i0) 0 (bb (S.o i0)) k0)) (fun kv _ => i0 - (intOf kv).toNat)
      case atStart =>
        refine ⟨0, _, _, Nat.zero_le _, rfl, HS1.out, Lib.hid (fun j hj => ?_), Lib.hid ?_, ?_⟩
        · rw [putX_other (by omega)]; exact HZ.out j hj
        · rw [putX_same, ← HU.out]; exact fin_cn HUf.out
        · rw [HFg.out]; simp [accFine]
      case round =>
        obtain ⟨k0, zs, f, hk0, rfl, hs, hz, hzi, hf⟩ := hrel
        have HS := Lib.hid hs
        have HZ := hz
        have HZi := hzi
        have HFg := Lib.hid hf
        have hkb : (k0 : Int) + 1 ≤ 65 := by omega
        clear hs hf
        by_cases hk : k0 < i0
        · have hki : (k0 : Int) < (i0 : Int) := Int.ofNat_lt.2 hk
          have hkn : k0 < n := by omega
          have hkni : (k0 : Int) < (n : Int) := Int.ofNat_lt.2 hkn
          obtain ⟨lv, hlv⟩ : ∃ lv, lv = lowE S i0 k0 := ⟨_, rfl⟩
          obtain ⟨zi, hzi⟩ : ∃ zi, zi = zs i0 := ⟨_, rfl⟩
          obtain ⟨zk, hzk⟩ : ∃ zk, zk = zs k0 := ⟨_, rfl⟩
          have HKX := Lib.hid (fun (V : World) (hV : Below wr.heap.size wr V) => (show V.cell? ⟨W0.heap.size, i0, none⟩ = some (.complex .f64 zi.1 zi.2) ∧ V.cell? ⟨W0.heap.size, k0, none⟩ = some (.complex .f64 zk.1 zk.2) ∧ V.frozen? ⟨W0.heap.size, i0, none⟩ = false from by
            rw [hzi, hzk]; exact ⟨(HS.out.below hV).cellX hlt, (HS.out.below hV).cellX hkn, (HS.out.below hV).frozenX i0⟩))
          have HKB := Lib.hid (fun (V : World) (hV : Below wr.heap.size wr V) => box3 (HE.out.below (HS.out.below hV).bel).xL)
          have HAt := Lib.hid (fun (V : World) (hV : Below wr.heap.size wr V) => (show Calls Tryz.prog 71 #[mval n n (.slice Al M kl), .int .i64 (i0 : Nat), .int .i64 (k0 : Nat)] V (fun e w' => e = .returned (.complex .f64 lv.1 lv.2) ∧ Below wr.heap.size wr w') from by
            rw [hlv]
            exact (rent_q (lowE S) Al kl i0 k0 V HM.out HN.out hlt hkn ((HE.out.below (HS.out.below hV).bel).rl.more (Nat.le_of_lt (row_lt (HS.out.below hV).flag)))).mono fun e w' h => ⟨h.1, hV.trans (h.2.mono hV.size)⟩))
          have hval : pSub (cnC zi) (pMul (cnC lv) (cnC zk)) = accTo (lowE S i0) (fwd (lowE S) S.o bb i0) 0 (bb (S.o i0)) (k0 + 1) := by
            rw [hzi, HZi.out, hlv, fin_cn (low_fin HF.out i0 k0 hlt hkn), hzk, HZ.out k0 hk]
            show _ = pSub _ (pMul (lowE S i0 (0 + k0)) (fwd (lowE S) S.o bb i0 (0 + k0)))
            rw [Nat.zero_add]
          obtain ⟨nv, hnv⟩ : ∃ nv, nv = accTo (lowE S i0) (fwd (lowE S) S.o bb i0) 0 (bb (S.o i0)) (k0 + 1) := ⟨_, rfl⟩
          rw [← hnv] at hval
          have HCall := Lib.hid (fun (V : World) (hV : Below wr.heap.size wr V) => rless_q (zi := zi) (lv := lv) (zk := zk) (HS.out.below hV) hlt hval)
          have HNv := Lib.hid hnv
          clear hlv hzi hzk hval hnv
          go_wp2_with fail
          refine wp_region_K 14 (by kernel_rfl) (Below wr.heap.size wr) (by kernel_rfl) (fun hsel hcl => ?_)
          have hW0 := (Below.refl wr.heap.size wr).drew
          refine wpAnyK_takeFree (i := 0) (v := ?va0) rfl hsel hcl (by kernel_rfl) (by kernel_rfl) rfl (fun _ _ _ h => h) rfl hW0 ?hya0 (fun hcl => ?ha0)
          case hya0 => (intro w'; go_simp; first | done | with_reducible rfl)
          simp only [Act.put, List.setIfInBounds_toArray, List.set_cons_zero, List.set_cons_succ]
          refine wpAnyK_takeFree (i := 1) (v := ?va1) rfl hsel hcl (by kernel_rfl) (by kernel_rfl) rfl (fun _ _ _ h => h) rfl hW0 ?hya1 (fun hcl => ?ha1)
          case hya1 => (intro w'; go_simp; first | done | with_reducible rfl)
          simp only [Act.put, List.setIfInBounds_toArray, List.set_cons_zero, List.set_cons_succ]
          refine wpAnyK_takeFree (i := 2) (v := ?va2) rfl hsel hcl (by kernel_rfl) (by kernel_rfl) rfl (fun _ _ _ h => h) rfl hW0 ?hya2 (fun hcl => ?ha2)
          case hya2 => (intro w'; go_simp; first | done | with_reducible rfl)
          simp only [Act.put, List.setIfInBounds_toArray, List.set_cons_zero, List.set_cons_succ]
          refine wpAnyK_takeFree (i := 3) (v := ?va3) rfl hsel hcl (by kernel_rfl) (by kernel_rfl) rfl (fun _ _ _ h => h) rfl hW0 ?hya3 (fun hcl => ?ha3)
          case hya3 => (intro w'; go_simp; first | done | with_reducible rfl)
          simp only [Act.put, List.setIfInBounds_toArray, List.set_cons_zero, List.set_cons_succ]
          refine wpAnyK_takeFree (i := 4) (v := ?va4) rfl hsel hcl (by kernel_rfl) (by kernel_rfl) rfl (fun _ _ _ h => h) rfl hW0 ?hya4 (fun hcl => ?ha4)
          case hya4 => (intro w'; go_simp; first | done | with_reducible rfl)
          simp only [Act.put, List.setIfInBounds_toArray, List.set_cons_zero, List.set_cons_succ]
          refine wpAnyK_takeNeed [] (i := 5) (v := ?va5) rfl hsel hcl (by kernel_rfl) (by kernel_rfl) rfl (by decide +kernel) (fun _ _ _ h => h) rfl hW0 ?hya5 (fun hcl => ?ha5)
          case hya5 => ((intro V0 hV0; obtain ⟨e1, e1b, e1c⟩ := HKX.out V0 hV0; obtain ⟨e2, e2b, e2c, -⟩ := HKB.out V0 hV0); go_simp; first | done | with_reducible rfl)
          simp only [Act.put, List.setIfInBounds_toArray, List.set_cons_zero, List.set_cons_succ]
          refine wpAnyK_takeNeed [9] (i := 6) (v := ?va6) rfl hsel hcl (by kernel_rfl) (by kernel_rfl) rfl (by decide +kernel) (fun _ _ _ h => h) rfl hW0 ?hya6 (fun hcl => ?ha6)
          case hya6 => ((intro V0 hV0; obtain ⟨e1, e1b, e1c⟩ := HKX.out V0 hV0; obtain ⟨e2, e2b, e2c, -⟩ := HKB.out V0 hV0); go_simp; first | done | with_reducible rfl)
          simp only [Act.put, List.setIfInBounds_toArray, List.set_cons_zero, List.set_cons_succ]
          refine wpAnyK_takeFree (i := 7) (v := ?va7) rfl hsel hcl (by kernel_rfl) (by kernel_rfl) rfl (fun _ _ _ h => h) rfl hW0 ?hya7 (fun hcl => ?ha7)
          case hya7 => (intro w'; go_simp; first | done | with_reducible rfl)
          simp only [Act.put, List.setIfInBounds_toArray, List.set_cons_zero, List.set_cons_succ]
          refine wpAnyK_takeFree (i := 8) (v := ?va8) rfl hsel hcl (by kernel_rfl) (by kernel_rfl) rfl (fun _ _ _ h => h) rfl hW0 ?hya8 (fun hcl => ?ha8)
          case hya8 => (intro w'; go_simp; first | done | with_reducible rfl)
          simp only [Act.put, List.setIfInBounds_toArray, List.set_cons_zero, List.set_cons_succ]
          refine wpAnyK_takeFree (i := 10) (v := ?va10) rfl hsel hcl (by kernel_rfl) (by kernel_rfl) rfl (fun _ _ _ h => h) rfl hW0 ?hya10 (fun hcl => ?ha10)
          case hya10 => (intro w'; go_simp; first | done | with_reducible rfl)
          simp only [Act.put, List.setIfInBounds_toArray, List.set_cons_zero, List.set_cons_succ]
          refine wpAnyK_takeFree (i := 11) (v := ?va11) rfl hsel hcl (by kernel_rfl) (by kernel_rfl) rfl (fun _ _ _ h => h) rfl hW0 ?hya11 (fun hcl => ?ha11)
          case hya11 => (intro w'; go_simp; first | done | with_reducible rfl)
          simp only [Act.put, List.setIfInBounds_toArray, List.set_cons_zero, List.set_cons_succ]
          refine wpAnyK_takeFree (i := 12) (v := ?va12) rfl hsel hcl (by kernel_rfl) (by kernel_rfl) rfl (fun _ _ _ h => h) rfl hW0 ?hya12 (fun hcl => ?ha12)
          case hya12 => (intro w'; go_simp; first | done | with_reducible rfl)
          simp only [Act.put, List.setIfInBounds_toArray, List.set_cons_zero, List.set_cons_succ]
          refine wpAnyK_takeNeed [] (i := 13) (v := ?va13) rfl hsel hcl (by kernel_rfl) (by kernel_rfl) rfl (by decide +kernel) (fun _ _ _ h => h) rfl hW0 ?hya13 (fun hcl => ?ha13)
          case hya13 => ((intro V0 hV0; obtain ⟨e1, e1b, e1c⟩ := HKX.out V0 hV0; obtain ⟨e2, e2b, e2c, -⟩ := HKB.out V0 hV0); go_simp; first | done | with_reducible rfl)
          simp only [Act.put, List.setIfInBounds_toArray, List.set_cons_zero, List.set_cons_succ]
          refine wpAnyK_one (i := 9) rfl (by decide +kernel) rfl rfl ?_
          go_simp
          refine (HAt.out _ hW0).mono ?_
          rintro e V1 ⟨rfl, hV1⟩
          refine ⟨hV1, ?_⟩
          clear hW0
          refine wpAnyK_store (st := 14) rfl (by decide +kernel) rfl ?_
          go_simp
          refine (HCall.out _ hV1).mono ?_
          rintro e V ⟨z, rfl, hz, lz, hV, hcx, hfx⟩
          refine wpAny_one (i := 15) rfl (by decide +kernel) rfl ?_
          go_simp
          refine wpAny_one (i := 16) rfl (by decide +kernel) rfl ?_
          go_simp
          refine wpAny_done (by decide +kernel) ?_ _
          all_goals
            have HV' := Lib.hid hV
            have HZz := Lib.hid hz
            have HLz := Lib.hid lz
            clear hz lz hcx hfx hcl hV hV1
            go_wp2
            go_roundw
            case rel =>
              refine ⟨k0 + 1, putX zs i0 z, _, hk, by go_num, HV'.out.put hlt HLz.out, Lib.hid (fun j hj => ?_), Lib.hid ?_, ?_⟩
              · rw [putX_other (by omega)]; exact HZ.out j hj
              · rw [putX_same, HZz.out]; exact HNv.out
              · rw [HNv.out, HFg.out, Bool.and_assoc]; rfl
            case measure => simp [intOf]; omega
        · have e : k0 = i0 := by omega
          subst e
          go_wp2
          go_roundw
          case rel =>
            refine ⟨k0 + 1, zs, f, hlt, by go_num, HS.out, Lib.hid (fun j hj => ?_), HFg.out⟩
            by_cases ej : j = k0
            · subst ej; rw [fwd, putX_same]; exact HZi.out
            · rw [fwd, putX_other ej]; exact HZ.out j (by omega)
          case measure => simp [intOf]; omega
    · have e : n = i0 := by omega
      subst e
      rename World => Wy
      obtain ⟨Y, hY⟩ : ∃ Y, Y = fwd (lowE S) S.o bb n := ⟨_, rfl⟩
      obtain ⟨g0, hg0⟩ : ∃ g0, g0 = fwdFine (lowE S) S.o bb n := ⟨_, rfl⟩
      rw [← hY] at HZ
      rw [← hg0] at HFg
      have HSol := Lib.hid (show (solOk n S bl = (g0 && bwdFine (uppE S) n Y n)) ∧ solL n S bl = (List.range n).map (bwd (uppE S) n Y n) by
        rw [hg0, hY, HBB.out]; exact ⟨rfl, rfl⟩)
      obtain ⟨ys, hys⟩ : ∃ ys, ys = zs := ⟨_, rfl⟩
      have HY := Lib.hid (show Wy.heap[W0.heap.size]? = some (.cells (nums ((List.range n).map ys)).toArray 60) by rw [hys]; exact HS.out.x)
      have HYz := Lib.hid (show ∀ j, j < n → cnC (ys j) = Y j by rw [hys]; exact HZ.out)
      have HYl := Lib.hid (show ∀ j, j < n → ltC (ys j) by rw [hys]; exact HS.out.lt)
      have HE2 := Lib.hid (HE.out.below HS.out.bel)
      have HWy := Lib.hid HS.out.bel
      have HWk := Lib.hid (Nat.le_of_lt (row_lt HS.out.flag))
      have HKy := Lib.hid (show W0.heap.size ≠ bk by have := HS.out.hk; omega)
      have HS0 := Lib.hid (show RqS Wy (Wy.alloc (.cells (madeCells #[.complex .f64 0 0] n) 60)) bk n (fun _ => (0, 0)) f from
        { bel := (below_new Wy _).mono (Nat.le_of_lt (row_lt HS.out.flag))
          keep := fun j hj _ => (below_new Wy _).block j hj
          flag := row_alloc HS.out.flag
          x := by
            rw [show ((List.range n).map fun _ => ((0, 0) : C)) = List.replicate n (0, 0) by rw [List.map_const', List.length_range], ← mk_nums]
            exact heap_alloc_new _ _
          lt := fun _ _ => ⟨by decide, by decide⟩
          hk := row_lt HS.out.flag })
      clear hY hg0 hys HS HZ HE
      go_wp2
      go_loopw [16, 17] (fun iv _ wr => ∃ (j : Nat) (zs : Nat → C) (f : Bool), j ≤ n ∧ iv = .int .i64 ((n : Int) - 1 - (j : Int)) ∧ RqS Wy wr bk n zs f ∧ Hid (∀ q, n - j ≤ q → q < n → cnC (zs q) = bwd (uppE S) n Y j q) ∧ f = (g0 && bwdFine (uppE S) n Y j)) (fun iv _ _ => (intOf iv + 1).toNat)
      case atStart => exact ⟨0, _, f, Nat.zero_le _, by go_num, HS0.out, Lib.hid (fun q h1 h2 => by omega), by rw [HFg.out]; simp [bwdFine]⟩
      case round =>
        obtain ⟨j, zs, f, hj, rfl, hs, hz, hf⟩ := hrel
        have HS := Lib.hid hs
        have HZ := hz
        have HFg := Lib.hid hf
        have hn65 : (n : Int) ≤ 64 := by have := HN.out; omega
        clear hs hf
        by_cases hlt : j < n
        · obtain ⟨i, hi⟩ : ∃ i : Nat, i = n - 1 - j := ⟨_, rfl⟩
          have hii : (n : Int) - 1 - (j : Int) = (i : Int) := by omega
          have hin : i < n := by omega
          have hini : (i : Int) < (n : Int) := Int.ofNat_lt.2 hin
          have hi1 : n - j = i + 1 := by omega
          have hij : i + 1 + j = n := by omega
          have HI := Lib.hid hi
          have HI1 := Lib.hid hi1
          have HIJ := Lib.hid hij
          have hib : (i : Int) + 1 ≤ 65 := by omega
          rw [hii]
          have hcy : wr.cell? ⟨W0.heap.size, i, none⟩ = some (.complex .f64 (ys i).1 (ys i).2) := by
            rw [cell_of_row wr W0.heap.size i _ _ _ ((HS.out.keep _ (row_lt HY.out) HKy.out).trans HY.out)]; simp [nums, hin]
          have hcx := HS.out.cellX hin
          have hfx := HS.out.frozenX i
          have HS1 := Lib.hid (HS.out.put hin (HYl.out i hin))
          have HBl := Lib.hid (show bwd (uppE S) n Y j i = Y i from bwd_low j i (by omega))
          clear hi hi1 hii hij
          go_wp2
          clear hcx hfx hcy
          go_loopw [17] (fun kv wr => ∃ (m : Nat) (zs : Nat → C) (f : Bool), m ≤ j ∧ kv = .int .i64 ((i + 1 + m : Nat) : Int) ∧ RqS Wy wr bk n zs f ∧ Hid (∀ q, i < q → q < n → cnC (zs q) = bwd (uppE S) n Y j q) ∧ Hid (cnC (zs i) = accTo (uppE S i) (bwd (uppE S) n Y j) (i + 1) (Y i) m) ∧ f = (g0 && (bwdFine (uppE S) n Y j && accFine (uppE S i) (bwd (uppE S) n Y j) (i + 1) (Y i) m))) (fun kv _ => n - (intOf kv).toNat)
          case atStart =>
            refine ⟨0, _, _, Nat.zero_le _, by go_num, HS1.out, Lib.hid (fun q h1 h2 => ?_), Lib.hid ?_, ?_⟩
            · rw [putX_other (by omega)]; exact HZ.out q (by have := HI1.out; omega) h2
            · rw [putX_same]; exact HYz.out i hin
            · rw [HFg.out]; simp [accFine]
          case round =>
            obtain ⟨m, zs, f, hm, rfl, hs, hz, hzi, hf⟩ := hrel
            have HS := Lib.hid hs
            have HZ := hz
            have HZi := hzi
            have HFg := Lib.hid hf
            clear hs hf
            by_cases hk : m < j
            · obtain ⟨k, hk'⟩ : ∃ k, k = i + 1 + m := ⟨_, rfl⟩
              rw [← hk']
              have hkn : k < n := by have := HIJ.out; omega
              have hkni : (k : Int) < (n : Int) := Int.ofNat_lt.2 hkn
              have hkb : (k : Int) + 1 ≤ 65 := by omega
              have hki : i < k := by omega
              obtain ⟨lv, hlv⟩ : ∃ lv, lv = uppE S i k := ⟨_, rfl⟩
              obtain ⟨zi, hzi⟩ : ∃ zi, zi = zs i := ⟨_, rfl⟩
              obtain ⟨zk, hzk⟩ : ∃ zk, zk = zs k := ⟨_, rfl⟩
              have HKX := Lib.hid (fun (V : World) (hV : Below wr.heap.size wr V) => (show V.cell? ⟨Wy.heap.size, i, none⟩ = some (.complex .f64 zi.1 zi.2) ∧ V.cell? ⟨Wy.heap.size, k, none⟩ = some (.complex .f64 zk.1 zk.2) ∧ V.frozen? ⟨Wy.heap.size, i, none⟩ = false from by
                rw [hzi, hzk]; exact ⟨(HS.out.below hV).cellX hin, (HS.out.below hV).cellX hkn, (HS.out.below hV).frozenX i⟩))
              have HKB := Lib.hid (fun (V : World) (hV : Below wr.heap.size wr V) => box3 (HE2.out.below (HS.out.below hV).bel).xU)
              have HAt := Lib.hid (fun (V : World) (hV : Below wr.heap.size wr V) => (show Calls Tryz.prog 71 #[mval n n (.slice Au M ku), .int .i64 (i : Nat), .int .i64 (k : Nat)] V (fun e w' => e = .returned (.complex .f64 lv.1 lv.2) ∧ Below wr.heap.size wr w') from by
                rw [hlv]
                exact (rent_q (uppE S) Au ku i k V HM.out HN.out hin hkn ((HE2.out.below (HS.out.below hV).bel).ru.more (Nat.le_of_lt (row_lt (HS.out.below hV).flag)))).mono fun e w' h => ⟨h.1, hV.trans (h.2.mono hV.size)⟩))
              have hval : pSub (cnC zi) (pMul (cnC lv) (cnC zk)) = accTo (uppE S i) (bwd (uppE S) n Y j) (i + 1) (Y i) (m + 1) := by
                rw [hzi, HZi.out, hlv, fin_cn (upp_fin HF.out i k hin hkn), hzk, HZ.out k hki hkn, hk']
                rfl
              obtain ⟨nv, hnv⟩ : ∃ nv, nv = accTo (uppE S i) (bwd (uppE S) n Y j) (i + 1) (Y i) (m + 1) := ⟨_, rfl⟩
              rw [← hnv] at hval
              have HCall := Lib.hid (fun (V : World) (hV : Below wr.heap.size wr V) => rless_q (zi := zi) (lv := lv) (zk := zk) (HS.out.below hV) hin hval)
              have HNv := Lib.hid hnv
              have HK := Lib.hid hk'
              clear hlv hzi hzk hval hnv hk'
              go_wp2_with fail
              refine wp_region_K 14 (by kernel_rfl) (Below wr.heap.size wr) (by kernel_rfl) (fun hsel hcl => ?_)
              have hW0 := (Below.refl wr.heap.size wr).drew
              refine wpAnyK_takeFree (i := 0) (v := ?vb0) rfl hsel hcl (by kernel_rfl) (by kernel_rfl) rfl (fun _ _ _ h => h) rfl hW0 ?hyb0 (fun hcl => ?hb0)
              case hyb0 => (intro w'; go_simp; first | done | with_reducible rfl)
              simp only [Act.put, List.setIfInBounds_toArray, List.set_cons_zero, List.set_cons_succ]
              refine wpAnyK_takeFree (i := 1) (v := ?vb1) rfl hsel hcl (by kernel_rfl) (by kernel_rfl) rfl (fun _ _ _ h => h) rfl hW0 ?hyb1 (fun hcl => ?hb1)
              case hyb1 => (intro w'; go_simp; first | done | with_reducible rfl)
              simp only [Act.put, List.setIfInBounds_toArray, List.set_cons_zero, List.set_cons_succ]
              refine wpAnyK_takeFree (i := 2) (v := ?vb2) rfl hsel hcl (by kernel_rfl) (by kernel_rfl) rfl (fun _ _ _ h => h) rfl hW0 ?hyb2 (fun hcl => ?hb2)
              case hyb2 => (intro w'; go_simp; first | done | with_reducible rfl)
              simp only [Act.put, List.setIfInBounds_toArray, List.set_cons_zero, List.set_cons_succ]
              refine wpAnyK_takeFree (i := 3) (v := ?vb3) rfl hsel hcl (by kernel_rfl) (by kernel_rfl) rfl (fun _ _ _ h => h) rfl hW0 ?hyb3 (fun hcl => ?hb3)
              case hyb3 => (intro w'; go_simp; first | done | with_reducible rfl)
              simp only [Act.put, List.setIfInBounds_toArray, List.set_cons_zero, List.set_cons_succ]
              refine wpAnyK_takeFree (i := 4) (v := ?vb4) rfl hsel hcl (by kernel_rfl) (by kernel_rfl) rfl (fun _ _ _ h => h) rfl hW0 ?hyb4 (fun hcl => ?hb4)
              case hyb4 => (intro w'; go_simp; first | done | with_reducible rfl)
              simp only [Act.put, List.setIfInBounds_toArray, List.set_cons_zero, List.set_cons_succ]
              refine wpAnyK_takeNeed [] (i := 5) (v := ?vb5) rfl hsel hcl (by kernel_rfl) (by kernel_rfl) rfl (by decide +kernel) (fun _ _ _ h => h) rfl hW0 ?hyb5 (fun hcl => ?hb5)
              case hyb5 => ((intro V0 hV0; obtain ⟨e1, e1b, e1c⟩ := HKX.out V0 hV0; obtain ⟨e2, e2b, e2c, -⟩ := HKB.out V0 hV0); go_simp; first | done | with_reducible rfl)
              simp only [Act.put, List.setIfInBounds_toArray, List.set_cons_zero, List.set_cons_succ]
              refine wpAnyK_takeNeed [9] (i := 6) (v := ?vb6) rfl hsel hcl (by kernel_rfl) (by kernel_rfl) rfl (by decide +kernel) (fun _ _ _ h => h) rfl hW0 ?hyb6 (fun hcl => ?hb6)
              case hyb6 => ((intro V0 hV0; obtain ⟨e1, e1b, e1c⟩ := HKX.out V0 hV0; obtain ⟨e2, e2b, e2c, -⟩ := HKB.out V0 hV0); go_simp; first | done | with_reducible rfl)
              simp only [Act.put, List.setIfInBounds_toArray, List.set_cons_zero, List.set_cons_succ]
              refine wpAnyK_takeFree (i := 7) (v := ?vb7) rfl hsel hcl (by kernel_rfl) (by kernel_rfl) rfl (fun _ _ _ h => h) rfl hW0 ?hyb7 (fun hcl => ?hb7)
              case hyb7 => (intro w'; go_simp; first | done | with_reducible rfl)
              simp only [Act.put, List.setIfInBounds_toArray, List.set_cons_zero, List.set_cons_succ]
              refine wpAnyK_takeFree (i := 8) (v := ?vb8) rfl hsel hcl (by kernel_rfl) (by kernel_rfl) rfl (fun _ _ _ h => h) rfl hW0 ?hyb8 (fun hcl => ?hb8)
              case hyb8 => (intro w'; go_simp; first | done | with_reducible rfl)
              simp only [Act.put, List.setIfInBounds_toArray, List.set_cons_zero, List.set_cons_succ]
              refine wpAnyK_takeFree (i := 10) (v := ?vb10) rfl hsel hcl (by kernel_rfl) (by kernel_rfl) rfl (fun _ _ _ h => h) rfl hW0 ?hyb10 (fun hcl => ?hb10)
              case hyb10 => (intro w'; go_simp; first | done | with_reducible rfl)
              simp only [Act.put, List.setIfInBounds_toArray, List.set_cons_zero, List.set_cons_succ]
              refine wpAnyK_takeFree (i := 11) (v := ?vb11) rfl hsel hcl (by kernel_rfl) (by kernel_rfl) rfl (fun _ _ _ h => h) rfl hW0 ?hyb11 (fun hcl => ?hb11)
              case hyb11 => (intro w'; go_simp; first | done | with_reducible rfl)
              simp only [Act.put, List.setIfInBounds_toArray, List.set_cons_zero, List.set_cons_succ]
              refine wpAnyK_takeFree (i := 12) (v := ?vb12) rfl hsel hcl (by kernel_rfl) (by kernel_rfl) rfl (fun _ _ _ h => h) rfl hW0 ?hyb12 (fun hcl => ?hb12)
              case hyb12 => (intro w'; go_simp; first | done | with_reducible rfl)
              simp only [Act.put, List.setIfInBounds_toArray, List.set_cons_zero, List.set_cons_succ]
              refine wpAnyK_takeNeed [] (i := 13) (v := ?vb13) rfl hsel hcl (by kernel_rfl) (by kernel_rfl) rfl (by decide +kernel) (fun _ _ _ h => h) rfl hW0 ?hyb13 (fun hcl => ?hb13)
              case hyb13 => ((intro V0 hV0; obtain ⟨e1, e1b, e1c⟩ := HKX.out V0 hV0; obtain ⟨e2, e2b, e2c, -⟩ := HKB.out V0 hV0); go_simp; first | done | with_reducible rfl)
              simp only [Act.put, List.setIfInBounds_toArray, List.set_cons_zero, List.set_cons_succ]
              refine wpAnyK_one (i := 9) rfl (by decide +kernel) rfl rfl ?_
              go_simp
              refine (HAt.out _ hW0).mono ?_
              rintro e V1 ⟨rfl, hV1⟩
              refine ⟨hV1, ?_⟩
              clear hW0
              refine wpAnyK_store (st := 14) rfl (by decide +kernel) rfl ?_
              go_simp
              refine (HCall.out _ hV1).mono ?_
              rintro e V ⟨z, rfl, hz, lz, hV, hcx, hfx⟩
              refine wpAny_one (i := 15) rfl (by decide +kernel) rfl ?_
              go_simp
              refine wpAny_one (i := 16) rfl (by decide +kernel) rfl ?_
              go_simp
              refine wpAny_done (by decide +kernel) ?_ _
              all_goals
                have HV' := Lib.hid hV
                have HZz := Lib.hid hz
                have HLz := Lib.hid lz
                clear hz lz hcx hfx hcl hV hV1
                go_wp2
                go_roundw
                case rel =>
                  refine ⟨m + 1, putX zs i z, _, hk, by have := HK.out; go_num, HV'.out.put hin HLz.out, Lib.hid (fun q h1 h2 => ?_), Lib.hid ?_, ?_⟩
                  · rw [putX_other (by omega)]; exact HZ.out q h1 h2
                  · rw [putX_same, HZz.out]; exact HNv.out
                  · rw [HNv.out, HFg.out, Bool.and_assoc, Bool.and_assoc]; rfl
                case measure => simp [intOf]; omega
            · have e : m = j := by omega
              subst e
              have hkk : i + 1 + m = n := HIJ.out
              rw [hkk]
              obtain ⟨lv, hlv⟩ : ∃ lv, lv = uppE S i i := ⟨_, rfl⟩
              obtain ⟨zi, hzi⟩ : ∃ zi, zi = zs i := ⟨_, rfl⟩
              have HKX := Lib.hid (fun (V : World) (hV : Below wr.heap.size wr V) => (show V.cell? ⟨Wy.heap.size, i, none⟩ = some (.complex .f64 zi.1 zi.2) ∧ V.cell? ⟨Wy.heap.size, i, none⟩ = some (.complex .f64 zi.1 zi.2) ∧ V.frozen? ⟨Wy.heap.size, i, none⟩ = false from by
                rw [hzi]; exact ⟨(HS.out.below hV).cellX hin, (HS.out.below hV).cellX hin, (HS.out.below hV).frozenX i⟩))
              have HKB := Lib.hid (fun (V : World) (hV : Below wr.heap.size wr V) => box3 (HE2.out.below (HS.out.below hV).bel).xU)
              have HAt := Lib.hid (fun (V : World) (hV : Below wr.heap.size wr V) => (show Calls Tryz.prog 71 #[mval n n (.slice Au M ku), .int .i64 (i : Nat), .int .i64 (i : Nat)] V (fun e w' => e = .returned (.complex .f64 lv.1 lv.2) ∧ Below wr.heap.size wr w') from by
                rw [hlv]
                exact (rent_q (uppE S) Au ku i i V HM.out HN.out hin hin ((HE2.out.below (HS.out.below hV).bel).ru.more (Nat.le_of_lt (row_lt (HS.out.below hV).flag)))).mono fun e w' h => ⟨h.1, hV.trans (h.2.mono hV.size)⟩))
              obtain ⟨nv, hnv⟩ : ∃ nv, nv = pDiv (bwdRow (uppE S) n (bwd (uppE S) n Y m) m) (uppE S i i) := ⟨_, rfl⟩
              have hval : pDiv (cnC zi) (cnC lv) = nv := by
                rw [hnv, hzi, HZi.out, hlv, fin_cn (upp_fin HF.out i i hin hin)]
                unfold bwdRow
                rw [← HI.out, HI1.out, HBl.out]
              have hltl : ltC lv := by rw [hlv]; exact upp_lt HLtS.out hin
              have HCall := Lib.hid (fun (V : World) (hV : Below wr.heap.size wr V) => rover_q (zi := zi) (lv := lv) (HS.out.below hV) hin hltl hval)
              have HNv := Lib.hid hnv
              clear hlv hzi hval hnv hltl hkk
              go_wp2_with fail
              refine wp_region_K 10 (by kernel_rfl) (Below wr.heap.size wr) (by kernel_rfl) (fun hsel hcl => ?_)
              have hW0 := (Below.refl wr.heap.size wr).drew
              refine wpAnyK_takeFree (i := 0) (v := ?vc0) rfl hsel hcl (by kernel_rfl) (by kernel_rfl) rfl (fun _ _ _ h => h) rfl hW0 ?hyc0 (fun hcl => ?hc0)
              case hyc0 => (intro w'; go_simp; first | done | with_reducible rfl)
              simp only [Act.put, List.setIfInBounds_toArray, List.set_cons_zero, List.set_cons_succ]
              refine wpAnyK_takeFree (i := 1) (v := ?vc1) rfl hsel hcl (by kernel_rfl) (by kernel_rfl) rfl (fun _ _ _ h => h) rfl hW0 ?hyc1 (fun hcl => ?hc1)
              case hyc1 => (intro w'; go_simp; first | done | with_reducible rfl)
              simp only [Act.put, List.setIfInBounds_toArray, List.set_cons_zero, List.set_cons_succ]
              refine wpAnyK_takeFree (i := 2) (v := ?vc2) rfl hsel hcl (by kernel_rfl) (by kernel_rfl) rfl (fun _ _ _ h => h) rfl hW0 ?hyc2 (fun hcl => ?hc2)
              case hyc2 => (intro w'; go_simp; first | done | with_reducible rfl)
              simp only [Act.put, List.setIfInBounds_toArray, List.set_cons_zero, List.set_cons_succ]
              refine wpAnyK_takeFree (i := 3) (v := ?vc3) rfl hsel hcl (by kernel_rfl) (by kernel_rfl) rfl (fun _ _ _ h => h) rfl hW0 ?hyc3 (fun hcl => ?hc3)
              case hyc3 => (intro w'; go_simp; first | done | with_reducible rfl)
              simp only [Act.put, List.setIfInBounds_toArray, List.set_cons_zero, List.set_cons_succ]
              refine wpAnyK_takeFree (i := 4) (v := ?vc4) rfl hsel hcl (by kernel_rfl) (by kernel_rfl) rfl (fun _ _ _ h => h) rfl hW0 ?hyc4 (fun hcl => ?hc4)
              case hyc4 => (intro w'; go_simp; first | done | with_reducible rfl)
              simp only [Act.put, List.setIfInBounds_toArray, List.set_cons_zero, List.set_cons_succ]
              refine wpAnyK_takeNeed [] (i := 5) (v := ?vc5) rfl hsel hcl (by kernel_rfl) (by kernel_rfl) rfl (by decide +kernel) (fun _ _ _ h => h) rfl hW0 ?hyc5 (fun hcl => ?hc5)
              case hyc5 => ((intro V0 hV0; obtain ⟨e1, e1b, e1c⟩ := HKX.out V0 hV0; obtain ⟨e2, e2b, e2c, -⟩ := HKB.out V0 hV0); go_simp; first | done | with_reducible rfl)
              simp only [Act.put, List.setIfInBounds_toArray, List.set_cons_zero, List.set_cons_succ]
              refine wpAnyK_takeNeed [9] (i := 6) (v := ?vc6) rfl hsel hcl (by kernel_rfl) (by kernel_rfl) rfl (by decide +kernel) (fun _ _ _ h => h) rfl hW0 ?hyc6 (fun hcl => ?hc6)
              case hyc6 => ((intro V0 hV0; obtain ⟨e1, e1b, e1c⟩ := HKX.out V0 hV0; obtain ⟨e2, e2b, e2c, -⟩ := HKB.out V0 hV0); go_simp; first | done | with_reducible rfl)
              simp only [Act.put, List.setIfInBounds_toArray, List.set_cons_zero, List.set_cons_succ]
              refine wpAnyK_takeFree (i := 7) (v := ?vc7) rfl hsel hcl (by kernel_rfl) (by kernel_rfl) rfl (fun _ _ _ h => h) rfl hW0 ?hyc7 (fun hcl => ?hc7)
              case hyc7 => (intro w'; go_simp; first | done | with_reducible rfl)
              simp only [Act.put, List.setIfInBounds_toArray, List.set_cons_zero, List.set_cons_succ]
              refine wpAnyK_takeFree (i := 8) (v := ?vc8) rfl hsel hcl (by kernel_rfl) (by kernel_rfl) rfl (fun _ _ _ h => h) rfl hW0 ?hyc8 (fun hcl => ?hc8)
              case hyc8 => (intro w'; go_simp; first | done | with_reducible rfl)
              simp only [Act.put, List.setIfInBounds_toArray, List.set_cons_zero, List.set_cons_succ]
              refine wpAnyK_one (i := 9) rfl (by decide +kernel) rfl rfl ?_
              go_simp
              refine (HAt.out _ hW0).mono ?_
              rintro e V1 ⟨rfl, hV1⟩
              refine ⟨hV1, ?_⟩
              clear hW0
              refine wpAnyK_store (st := 10) rfl (by decide +kernel) rfl ?_
              go_simp
              refine (HCall.out _ hV1).mono ?_
              rintro e V ⟨z, rfl, hz, lz, hV, hcx, hfx⟩
              refine wpAny_one (i := 11) rfl (by decide +kernel) rfl ?_
              go_simp
              refine wpAny_one (i := 12) rfl (by decide +kernel) rfl ?_
              go_simp
              refine wpAny_done (by decide +kernel) ?_ _
              all_goals
                have HV' := Lib.hid hV
                have HZz := Lib.hid hz
                have HLz := Lib.hid lz
                clear hz lz hcx hfx hcl hV hV1
                go_wp2
                go_roundw
                case rel =>
                  refine ⟨m + 1, putX zs i z, _, hlt, by have := HI.out; go_num, HV'.out.put hin HLz.out, Lib.hid (fun q h1 h2 => ?_), ?_⟩
                  · show _ = putX (bwd (uppE S) n Y m) (n - 1 - m) _ q
                    rw [← HI.out]
                    by_cases eq : q = i
                    · subst eq; rw [putX_same, putX_same, HZz.out, HNv.out]
                    · rw [putX_other eq, putX_other eq]; exact HZ.out q (by have := HI1.out; omega) h2
                  · rw [HNv.out, HFg.out]
                    show _ = (g0 && (bwdFine (uppE S) n Y m && accFine (uppE S (n - 1 - m)) (bwd (uppE S) n Y m) (n - m) (bwd (uppE S) n Y m (n - 1 - m)) m && pFinite _))
                    rw [← HI.out, HI1.out, HBl.out, Bool.and_assoc]
                case measure => simp [intOf]
        · have e : j = n := by omega
          subst e
          obtain ⟨so, hso⟩ : ∃ so, so = solOk j S bl := ⟨_, rfl⟩
          have hfo : f = so := HFg.out.trans (by rw [hso]; exact HSol.out.1.symm)
          subst hfo
          have hl0 : wr.cell? ⟨bk, 0, none⟩ = some (.bool f) := by rw [cell_of_row wr bk 0 _ _ _ HS.out.flag]; rfl
          have hneg : ((j : Int) - 1 - (j : Int)) = -1 := by omega
          rw [hneg]
          have HBe := Lib.hid (HB0.out.trans ((HWy.out.trans HS.out.bel).mono HBk.out))
          have HSo := Lib.hid hso
          clear hso hneg
          cases f
          · go_wp2
            go_ret2
            rw [HEr.out, HRs.out, ← HSo.out]
            exact ⟨_, rfl, World.ownsRow_nil _ _ _ _, HBe.out⟩
          · have hx : (List.range j).map zs = solL j S bl := by
              rw [HSol.out.2]
              refine List.map_congr_left fun q hq => ?_
              have hq := List.mem_range.1 hq
              have hfi : pFinite (bwd (uppE S) j Y j q) = true := by
                have h := sol_fin (show solFine (lowE S) (uppE S) S.o (bOf bl) j = true from HSo.out.symm) q hq
                have e := congrArg (fun l : List C => l[q]?) HSol.out.2
                simp only [solL, List.getElem?_map, List.getElem?_range hq, Option.map_some, Option.some.injEq] at e
                rw [← e]; exact h
              exact like.fin (.inr (HZ.out q (by omega) hq)) hfi
            have HX := Lib.hid hx
            clear hx
            go_wp2
            go_ret2
            rw [HEr.out, HRs.out, ← HSo.out]
            refine ⟨_, rfl, ?_, HBe.out⟩
            show World.ownsRow _ _ _ _ _ (solL j S bl).length (nums (solL j S bl))
            have hxx := HS.out.x
            rw [HX.out] at hxx
            have hll : (solL j S bl).length = j := by simp [solL]
            have hj64 := HN.out
            have hwk := HBk.out
            exact ⟨by simp [nums], .inr ⟨Wy.heap.size, j, _, by simp [hll], Nat.le_trans hwk HWk.out, hxx, by omega, by unfold maxLen; omega, by simp [nums, hll], by simp [nums, hll]; exact List.take_of_length_le (by simp [hll])⟩⟩
end Go.Proofs.YtandllekeimpgaaGreat
