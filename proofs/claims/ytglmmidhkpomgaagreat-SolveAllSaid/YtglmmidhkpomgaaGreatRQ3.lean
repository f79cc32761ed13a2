/- The document's layer 10: with the transpose (gridworkref10.Transposed). -/
import Derived.Test.YtglmmidhkpomgaaGreatRQ2
import Derived.Test.YtglmmidhkpomgaaGreatTrS
import Derived.Test.YtglmmidhkpomgaaGreatReg
import Derived.StillTailTactics
import Derived.Deep.RegionHeld3
import Derived.Deep.DeepCutAuto
import Derived.BigRegion
namespace Go.Proofs.YtglmmidhkpomgaaGreat
open Go.RowKit Fl Ieee
set_option maxRecDepth 20000
attribute [local go_sem] run_store_float run_store_complex Fl.order_self Fl.order_self' Fl.order_eq Fl.order_ne Fl.order_lt Fl.order_gt
theorem tbw_low {Lo : Nat → Nat → C} {n : Nat} {Y : Nat → C} : ∀ j, ∀ i, i < n - j → tbw Lo n Y j i = Y i
  | 0, _, _ => rfl
  | j + 1, i, hi => by
    show putX _ _ _ i = _
    rw [putX_other (by omega)]
    exact tbw_low j i (by omega)
/-- A row of unknowns that is being filled, the row that they are laid into; whether all was finite. -/
structure RqT (Wy W : World) (bk n : Nat) (zs xs : Nat → C) (f : Bool) : Prop where
  bel : Below bk Wy W
  keep : ∀ j, j < Wy.heap.size → j ≠ bk → W.heap[j]? = Wy.heap[j]?
  flag : W.heap[bk]? = some (.cells #[.bool f] 4)
  xr : W.heap[Wy.heap.size]? = some (.cells (nums ((List.range n).map xs)).toArray 42)
  zr : W.heap[Wy.heap.size + 1]? = some (.cells (nums ((List.range n).map zs)).toArray 42)
  lt : ∀ j, j < n → ltC (zs j)
  hk : bk < Wy.heap.size
namespace RqT
variable {Wy W V : World} {bk n : Nat} {zs xs : Nat → C} {f : Bool}
theorem below (h : RqT Wy W bk n zs xs f) (hb : Below W.heap.size W V) : RqT Wy V bk n zs xs f where
  bel := h.bel.trans (hb.mono (Nat.le_of_lt (row_lt h.flag)))
  keep j hj hne := by rw [hb.block j (Nat.lt_of_lt_of_le hj h.bel.size)]; exact h.keep j hj hne
  flag := row_keep hb h.flag
  xr := row_keep hb h.xr
  zr := row_keep hb h.zr
  lt := h.lt
  hk := h.hk
theorem cellX (h : RqT Wy W bk n zs xs f) {i : Nat} (hi : i < n) : W.cell? ⟨Wy.heap.size + 1, i, none⟩ = some (.complex .f64 (zs i).1 (zs i).2) := by
  rw [cell_of_row W (Wy.heap.size + 1) i _ _ _ h.zr]; simp [nums, hi]
theorem frozenX (h : RqT Wy W bk n zs xs f) (i : Nat) : W.frozen? ⟨Wy.heap.size + 1, i, none⟩ = false := frozen_of_row W (Wy.heap.size + 1) i _ _ h.zr
theorem cellR (h : RqT Wy W bk n zs xs f) {i : Nat} (hi : i < n) : W.cell? ⟨Wy.heap.size, i, none⟩ = some (.complex .f64 (xs i).1 (xs i).2) := by
  rw [cell_of_row W Wy.heap.size i _ _ _ h.xr]; simp [nums, hi]
theorem frozenR (h : RqT Wy W bk n zs xs f) (i : Nat) : W.frozen? ⟨Wy.heap.size, i, none⟩ = false := frozen_of_row W Wy.heap.size i _ _ h.xr
theorem put (h : RqT Wy W bk n zs xs f) {i : Nat} {z : C} (_hi : i < n) (hz : ltC z) : RqT Wy (W.setCell ⟨Wy.heap.size + 1, i, none⟩ (.complex .f64 z.1 z.2)) bk n (putX zs i z) xs f where
  bel := h.bel.setCell (by have := h.hk; show bk ≤ Wy.heap.size + 1; omega) _
  keep j hj hne := by rw [Below.heap_setCell _ _ _ _ (show j ≠ Wy.heap.size + 1 by omega)]; exact h.keep j hj hne
  flag := by rw [Below.heap_setCell _ _ _ _ (show bk ≠ Wy.heap.size + 1 by have := h.hk; omega)]; exact h.flag
  xr := by rw [Below.heap_setCell _ _ _ _ (show Wy.heap.size ≠ Wy.heap.size + 1 by omega)]; exact h.xr
  zr := by
    rw [heap_setCell_same _ _ _ _ _ _ h.zr]
    congr 2
    rw [← map_put]
    simp
  lt j hj := by
    unfold putX
    split
    · exact hz
    · exact h.lt j hj
  hk := h.hk
theorem lay (h : RqT Wy W bk n zs xs f) {p : Nat} (z : C) : RqT Wy (W.setCell ⟨Wy.heap.size, p, none⟩ (.complex .f64 z.1 z.2)) bk n zs (putX xs p z) f where
  bel := h.bel.setCell (by have := h.hk; show bk ≤ Wy.heap.size; omega) _
  keep j hj hne := by rw [Below.heap_setCell _ _ _ _ (show j ≠ Wy.heap.size by omega)]; exact h.keep j hj hne
  flag := by rw [Below.heap_setCell _ _ _ _ (show bk ≠ Wy.heap.size by have := h.hk; omega)]; exact h.flag
  xr := by
    rw [heap_setCell_same _ _ _ _ _ _ h.xr]
    congr 2
    rw [← map_put]
    simp
  zr := by rw [Below.heap_setCell _ _ _ _ (show Wy.heap.size + 1 ≠ Wy.heap.size by omega)]; exact h.zr
  lt := h.lt
  hk := h.hk
theorem setFlag (h : RqT Wy W bk n zs xs f) (g : Bool) : RqT Wy (W.setCell ⟨bk, 0, none⟩ (.bool g)) bk n zs xs g where
  bel := h.bel.setCell (Nat.le_refl _) _
  keep j hj hne := by rw [Below.heap_setCell _ _ _ _ (show j ≠ bk from hne)]; exact h.keep j hj hne
  flag := by
    rw [heap_setCell_same _ _ _ _ _ _ h.flag]
    rfl
  xr := by rw [Below.heap_setCell _ _ _ _ (show Wy.heap.size ≠ bk by have := h.hk; omega)]; exact h.xr
  zr := by rw [Below.heap_setCell _ _ _ _ (show Wy.heap.size + 1 ≠ bk by have := h.hk; omega)]; exact h.zr
  lt := h.lt
  hk := h.hk
end RqT
theorem rless_t {Wy V : World} {bk n i : Nat} {zs xs : Nat → C} {f : Bool} {zi lv zk nv : C} (h : RqT Wy V bk n zs xs f) (hi : i < n) (hv : pSub (cnC zi) (pMul (cnC lv) (cnC zk)) = nv) :
    Calls Tryz.prog 62 #[.complex .f64 zi.1 zi.2, .complex .f64 lv.1 lv.2, .complex .f64 zk.1 zk.2, .pointer (some ⟨bk, 0, none⟩)] V fun e w' => ∃ z : C, e = .returned (.complex .f64 z.1 z.2) ∧ cnC z = nv ∧ ltC z ∧ RqT Wy w' bk n zs xs (f && pFinite nv) ∧ w'.cell? ⟨Wy.heap.size + 1, i, none⟩ = some (.complex .f64 (zs i).1 (zs i).2) ∧ w'.frozen? ⟨Wy.heap.size + 1, i, none⟩ = false :=
  (rless_c bk f zi lv zk V h.flag).mono fun e w' ⟨z, d, he, hz, lz, hw⟩ => by
    rw [hv] at hz hw
    have hs : RqT Wy w' bk n zs xs (f && pFinite nv) := by rw [hw]; exact (h.below (below_drewN (Below.refl _ _) d)).setFlag _
    exact ⟨z, he, hz, lz, hs, hs.cellX hi, hs.frozenX i⟩
set_option linter.unusedSimpArgs false in
set_option maxHeartbeats 64000000 in
theorem rTrans_run {B b n : Nat} {S : El} {ti : Bool} (Ab : Option Addr) (bl : List C) (cap : Nat) (w : World) (h : rHas w B b n S ti) (hf : finTo S.E n) (hp : Perm n S.o) (hn : n ≤ 64) (hl : bl.length = n) (hfb : ∀ z ∈ bl, pFinite z = true) (hlt : ltCs bl) (hrd : Reads w w.heap.size Ab (nums bl)) :
    Calls Tryz.prog 27 #[.pointer (some ⟨b, 0, none⟩), .slice Ab bl.length cap] w (RetSol (if traOk n S bl then 0 else 6) (if traOk n S bl then traL n S bl else []) w) := by
  obtain ⟨er, her⟩ : ∃ er : Int, er = if traOk n S bl then 0 else 6 := ⟨_, rfl⟩
  obtain ⟨rs, hrs⟩ : ∃ rs : List C, rs = if traOk n S bl then traL n S bl else [] := ⟨_, rfl⟩
  rw [← her, ← hrs]
  have HEr := Lib.hid her
  have HRs := Lib.hid hrs
  have hE0 : bErr n bl = 0 := by
    unfold bErr
    rw [if_pos hl, if_neg fun hb => by
      have h1 : (!pFinite bl[badAt bl]) = true := List.findIdx_getElem (w := hb)
      rw [hfb _ (List.getElem_mem _)] at h1
      cases h1]
  have HFst := Lib.hid (show Calls Tryz.prog 59 #[.pointer (some ⟨b, 0, none⟩), .slice Ab bl.length cap] w (RetV (.int .i64 0) w) from by
    rw [← hE0]; exact rfirst_c Ab bl cap w h hlt (by omega) hn hrd)
  obtain ⟨M, hM⟩ : ∃ M, M = n * n := ⟨_, rfl⟩
  have hM4 : M ≤ 4096 := by rw [hM]; exact prod_small hn hn
  have HLtS := Lib.hid (show ∀ i, i < n → ltC (S.E i i) from fun i hi => by obtain ⟨_, _, _, _, _, _, _, hl⟩ := h.num hi hi; exact hl)
  have hmk := run_make_row' (P := Tryz.prog) 27 42 (.complex .f64 0 0) 16 Tryz.underlying27 infoNum rfl .i64 .i64 n (by omega) (by omega)
  have HFl := Lib.hid (show ∀ z ∈ entries n (lowE S) M, pFinite z = true by rw [hM]; exact entries_fin (low_fin hf))
  have HFu := Lib.hid (show ∀ z ∈ entries n (uppE S) M, pFinite z = true by rw [hM]; exact entries_fin (upp_fin hf))
  have HLe := Lib.hid (show (entries n (lowE S) M).length = M by simp [entries])
  have HUe := Lib.hid (show (entries n (uppE S) M).length = M by simp [entries])
  have HH := Lib.hid h
  have HRd := Lib.hid hrd
  have HF := Lib.hid hf
  have HP := Lib.hid hp
  have HN := Lib.hid hn
  have HBl := Lib.hid hl
  have HFb := Lib.hid hfb
  have HLt := Lib.hid hlt
  have HM := Lib.hid hM
  have HM4 := Lib.hid hM4
  clear h hf hp hn hl hfb hlt hrd hE0 her hrs hM hM4
  go_enter Tryz.func27, Tryz.ntmps27
  go_wp2_with fail
  refine HFst.out.mono ?_
  rintro e W1 ⟨rfl, hb⟩
  have B1 := Lib.hid hb
  have H1 := Lib.hid (HH.out.below hb)
  clear hb HFst HH
  go_wp2_with fail
  refine (rL_c W1 H1.out HF.out HN.out).mono ?_
  rintro e W2 hr
  rw [← HM.out] at hr
  obtain ⟨Al, kl, rfl, hown, hb⟩ := RetMx.liesO hr HLe.out HFl.out (Nat.le_refl _)
  have B2 := Lib.hid (B1.out.trans (hb.mono B1.out.size))
  have H2 := Lib.hid (H1.out.below hb)
  have HRl := Lib.hid (Reads.of_own hown)
  clear hr hown hb H1 B1
  go_wp2_with fail
  refine (rU_c W2 H2.out HF.out HN.out).mono ?_
  rintro e W3 hr
  rw [← HM.out] at hr
  obtain ⟨Au, ku, rfl, hown, hb⟩ := RetMx.liesO hr HUe.out HFu.out (Nat.le_refl _)
  have B3 := Lib.hid (B2.out.trans (hb.mono B2.out.size))
  have H3 := Lib.hid (H2.out.below hb)
  have HRl3 := Lib.hid ((HRl.out.below hb).more hb.size)
  have HRu := Lib.hid (Reads.of_own hown)
  clear hr hown hb H2 B2 HRl
  go_wp2_with fail
  refine (rOrder_c W3 H3.out HN.out).mono ?_
  rintro e W4 hr
  obtain ⟨Ao, ko, rfl, hro, -, hb⟩ := RetO.lies hr
  have B4 := Lib.hid (B3.out.trans (hb.mono B3.out.size))
  have H4 := Lib.hid (H3.out.below hb)
  have HRl4 := Lib.hid ((HRl3.out.below hb).more hb.size)
  have HRu4 := Lib.hid ((HRu.out.below hb).more hb.size)
  have HRo := Lib.hid hro
  clear hr hro hb H3 B3 HRl3 HRu
  go_upto_region 5 with fail
  obtain ⟨W5, hW5⟩ : ∃ W5, W5 = ((W4.alloc (.cells #[.int .i64 (n : Nat), .int .i64 (n : Nat), .slice Al M kl] 33)).alloc (.cells #[.int .i64 (n : Nat), .int .i64 (n : Nat), .slice Au M ku] 33)) := ⟨_, rfl⟩
  rw [← hW5]
  have hb5 : Below W4.heap.size W4 W5 := by rw [hW5]; exact (below_new W4 _).new (Nat.le_refl _) _
  have hL5 : W5.heap[W4.heap.size]? = some (.cells #[.int .i64 (n : Nat), .int .i64 (n : Nat), .slice Al M kl] 33) := by rw [hW5]; exact row_alloc (heap_alloc_new W4 _)
  have hU5 : W5.heap[W4.heap.size + 1]? = some (.cells #[.int .i64 (n : Nat), .int .i64 (n : Nat), .slice Au M ku] 33) := by rw [hW5]; exact row_new2 W4 _ _
  have hs5 : W4.heap.size + 1 < W5.heap.size := row_lt hU5
  have hb6 := below_new W5 (.cells #[.bool true] 4)
  have hb56 := hb5.trans (hb6.mono (Nat.le_of_lt (Nat.lt_of_succ_lt hs5)))
  obtain ⟨bk, hbk⟩ : ∃ bk, bk = W5.heap.size := ⟨_, rfl⟩
  obtain ⟨W0, hW0⟩ : ∃ W0, W0 = W5.alloc (.cells #[.bool true] 4) := ⟨_, rfl⟩
  have hs0 : W0.heap.size = bk + 1 := by rw [hW0, hbk]; simp
  have HE := Lib.hid (show RqE W0 W4.heap.size (W4.heap.size + 1) bk n M Al Au Ao Ab kl ku S bl from
    { xL := by rw [hW0]; exact row_keep hb6 hL5
      xU := by rw [hW0]; exact row_keep hb6 hU5
      rl := by rw [hW0, hbk]; exact (HRl4.out.below hb56).more (by omega)
      ru := by rw [hW0, hbk]; exact (HRu4.out.below hb56).more (by omega)
      ro := by rw [hW0, hbk]; exact (HRo.out.below hb56).more (by omega)
      rb := by rw [hW0, hbk]; exact (HRd.out.below (B4.out.trans (hb56.mono B4.out.size))).more (by have := B4.out.size; omega)
      hL := by omega
      hU := by omega })
  have HS0 := Lib.hid (show RqS W0 (W0.alloc (.cells (madeCells #[.complex .f64 0 0] n) 42)) bk n (fun _ => (0, 0)) true from
    { bel := (below_new W0 _).mono (by omega)
      keep := fun j hj _ => (below_new W0 _).block j hj
      flag := by rw [hW0, hbk]; exact row_alloc (heap_alloc_new W5 _)
      x := by
        rw [show ((List.range n).map fun _ => ((0, 0) : C)) = List.replicate n (0, 0) by rw [List.map_const', List.length_range], ← mk_nums]
        exact heap_alloc_new _ _
      lt := fun _ _ => ⟨by decide, by decide⟩
      hk := by omega })
  have HB0 := Lib.hid (show Below w.heap.size w W0 by rw [hW0]; exact B4.out.trans (hb56.mono B4.out.size))
  have HBk := Lib.hid (show w.heap.size ≤ bk by have := B4.out.size; omega)
  have H5 := Lib.hid (H4.out.below hb5)
  have HW0 := Lib.hid hW0
  have HBk' := Lib.hid hbk
  obtain ⟨bb, hbb⟩ : ∃ bb, bb = bOf bl := ⟨_, rfl⟩
  have HBB := Lib.hid hbb
  clear hW5 hb5 hL5 hU5 hs5 hb6 hb56 hbk hW0 hs0 hbb H4 HRl4 HRu4 HRo HRd B4
  go_wp2_with fail
  refine (rSize_c W5 H5.out).mono ?_
  rintro e w' ⟨rfl, rfl⟩
  go_upto_region 7 with fail
  rw [← HW0.out, ← HBk'.out]
  clear H5 HW0 HBk'
  go_wp2
  go_loopw [13, 14] (fun iv _ wr => ∃ (i0 : Nat) (zs : Nat → C) (f : Bool), i0 ≤ n ∧ iv = .int .i64 (i0 : Nat) ∧ RqS W0 wr bk n zs f ∧ Hid (∀ j, j < i0 → cnC (zs j) = tfw (uppE S) bb i0 j) ∧ f = tfwFine (uppE S) bb i0) (fun iv _ _ => n - (intOf iv).toNat)
  case atStart => exact ⟨0, _, _, Nat.zero_le _, rfl, HS0.out, Lib.hid (fun j h => by omega), rfl⟩
  case round =>
    obtain ⟨i0, zs, f, hi0, rfl, hs, hz, hf⟩ := hrel
    have HS := Lib.hid hs
    have HZ := hz
    have HFg := Lib.hid hf
    have hib : (i0 : Int) + 1 ≤ 65 := by have := HN.out; omega
    clear hs hf
    by_cases hlt : i0 < n
    · have hlti : (i0 : Int) < (n : Int) := Int.ofNat_lt.2 hlt
      have hbl : i0 < bl.length := by rw [HBl.out]; exact hlt
      have hbli : (i0 : Int) < (bl.length : Int) := Int.ofNat_lt.2 hbl
      obtain ⟨u, hu⟩ := some_of_lt hbl
      have hbv : (nums bl)[i0]? = some (.complex .f64 u.1 u.2) := by simp [nums, hu]
      obtain ⟨adb, rfl, -, hcb⟩ := (HE.out.rb.below HS.out.bel).at_ hbv
      have hub : u = bb i0 := by rw [HBB.out]; unfold bOf; rw [List.getD_eq_getElem?_getD, hu]; rfl
      have HU := Lib.hid hub
      have HUf := Lib.hid (HFb.out u (List.mem_of_getElem? hu))
      have HUl := Lib.hid (HLt.out u (List.mem_of_getElem? hu))
      have hcx := HS.out.cellX hlt
      have hfx := HS.out.frozenX i0
      have HS1 := Lib.hid (HS.out.put hlt HUl.out)
      clear hu hbv hub hbl
      go_wp2
      clear hcx hfx hcb
      go_loopw [14] (fun kv wr => ∃ (k0 : Nat) (zs : Nat → C) (f : Bool), k0 ≤ i0 ∧ kv = .int .i64 (k0 : Nat) ∧ RqS W0 wr bk n zs f ∧ Hid (∀ j, j < i0 → cnC (zs j) = tfw (uppE S) bb i0 j) ∧ Hid (cnC (zs i0) = accTo (fun k => uppE S k i0) (tfw (uppE S) bb i0) 0 (bb i0) k0) ∧ f = (tfwFine (uppE S) bb i0 && accFine (fun k => uppE S k i0) (tfw (uppE S) bb i0) 0 (bb i0) k0)) (fun kv _ => i0 - (intOf kv).toNat)
      case atStart =>
        refine ⟨0, _, _, Nat.zero_le _, rfl, HS1.out, Lib.hid (fun j hj => ?_), Lib.hid ?_, ?_⟩
        · rw [putX_other (by omega)]; exact HZ.out j hj
        · rw [putX_same, ← HU.out]; exact fin_cn HUf.out
        · rw [HFg.out]; simp [accFine]
      case round =>
        obtain ⟨k0, zs, f, hk0, rfl, hs, hz, hzi, hf⟩ := hrel
        have HS := Lib.hid hs
        have HZ := hz
        have HZi := hzi
        have HFg := Lib.hid hf
        have hkb : (k0 : Int) + 1 ≤ 65 := by omega
        clear hs hf
        by_cases hk : k0 < i0
        · have hki : (k0 : Int) < (i0 : Int) := Int.ofNat_lt.2 hk
          have hkn : k0 < n := by omega
          have hkni : (k0 : Int) < (n : Int) := Int.ofNat_lt.2 hkn
          obtain ⟨lv, hlv⟩ : ∃ lv, lv = uppE S k0 i0 := ⟨_, rfl⟩
          obtain ⟨zi, hzi⟩ : ∃ zi, zi = zs i0 := ⟨_, rfl⟩
          obtain ⟨zk, hzk⟩ : ∃ zk, zk = zs k0 := ⟨_, rfl⟩
          have HKX := Lib.hid (fun (V : World) (hV : Below wr.heap.size wr V) => (show V.cell? ⟨W0.heap.size, i0, none⟩ = some (.complex .f64 zi.1 zi.2) ∧ V.cell? ⟨W0.heap.size, k0, none⟩ = some (.complex .f64 zk.1 zk.2) ∧ V.frozen? ⟨W0.heap.size, i0, none⟩ = false from by
            rw [hzi, hzk]; exact ⟨(HS.out.below hV).cellX hlt, (HS.out.below hV).cellX hkn, (HS.out.below hV).frozenX i0⟩))
          have HKB := Lib.hid (fun (V : World) (hV : Below wr.heap.size wr V) => box3 (HE.out.below (HS.out.below hV).bel).xU)
          have HAt := Lib.hid (fun (V : World) (hV : Below wr.heap.size wr V) => (show Calls Tryz.prog 45 #[mval n n (.slice Au M ku), .int .i64 (k0 : Nat), .int .i64 (i0 : Nat)] V (fun e w' => e = .returned (.complex .f64 lv.1 lv.2) ∧ Below wr.heap.size wr w') from by
            rw [hlv]
            exact (rent_q (uppE S) Au ku k0 i0 V HM.out HN.out hkn hlt ((HE.out.below (HS.out.below hV).bel).ru.more (Nat.le_of_lt (row_lt (HS.out.below hV).flag)))).mono fun e w' h => ⟨h.1, hV.trans (h.2.mono hV.size)⟩))
          have hval : pSub (cnC zi) (pMul (cnC lv) (cnC zk)) = accTo (fun k => uppE S k i0) (tfw (uppE S) bb i0) 0 (bb i0) (k0 + 1) := by
            rw [hzi, HZi.out, hlv, fin_cn (upp_fin HF.out k0 i0 hkn hlt), hzk, HZ.out k0 hk]
            show _ = pSub _ (pMul (uppE S (0 + k0) i0) (tfw (uppE S) bb i0 (0 + k0)))
            rw [Nat.zero_add]
          obtain ⟨nv, hnv⟩ : ∃ nv, nv = accTo (fun k => uppE S k i0) (tfw (uppE S) bb i0) 0 (bb i0) (k0 + 1) := ⟨_, rfl⟩
          rw [← hnv] at hval
          have HCall := Lib.hid (fun (V : World) (hV : Below wr.heap.size wr V) => rless_q (zi := zi) (lv := lv) (zk := zk) (HS.out.below hV) hlt hval)
          have HNv := Lib.hid hnv
          clear hlv hzi hzk hval hnv
          go_wp2_with fail
          refine wp_region_K 14 (by kernel_rfl) (Below wr.heap.size wr) (by kernel_rfl) (fun hsel hcl => ?_)
          have hW0 := (Below.refl wr.heap.size wr).drew
          refine wpAnyK_takeFree (i := 0) (v := ?va0) rfl hsel hcl (by kernel_rfl) (by kernel_rfl) rfl (fun _ _ _ h => h) rfl hW0 ?hya0 (fun hcl => ?ha0)
          case hya0 => (intro w'; go_simp; first | done | with_reducible rfl)
          simp only [Act.put, List.setIfInBounds_toArray, List.set_cons_zero, List.set_cons_succ]
          refine wpAnyK_takeFree (i := 1) (v := ?va1) rfl hsel hcl (by kernel_rfl) (by kernel_rfl) rfl (fun _ _ _ h => h) rfl hW0 ?hya1 (fun hcl => ?ha1)
          case hya1 => (intro w'; go_simp; first | done | with_reducible rfl)
          simp only [Act.put, List.setIfInBounds_toArray, List.set_cons_zero, List.set_cons_succ]
          refine wpAnyK_takeFree (i := 2) (v := ?va2) rfl hsel hcl (by kernel_rfl) (by kernel_rfl) rfl (fun _ _ _ h => h) rfl hW0 ?hya2 (fun hcl => ?ha2)
          case hya2 => (intro w'; go_simp; first | done | with_reducible rfl)
          simp only [Act.put, List.setIfInBounds_toArray, List.set_cons_zero, List.set_cons_succ]
          refine wpAnyK_takeFree (i := 3) (v := ?va3) rfl hsel hcl (by kernel_rfl) (by kernel_rfl) rfl (fun _ _ _ h => h) rfl hW0 ?hya3 (fun hcl => ?ha3)
          case hya3 => (intro w'; go_simp; first | done | with_reducible rfl)
          simp only [Act.put, List.setIfInBounds_toArray, List.set_cons_zero, List.set_cons_succ]
          refine wpAnyK_takeFree (i := 4) (v := ?va4) rfl hsel hcl (by kernel_rfl) (by kernel_rfl) rfl (fun _ _ _ h => h) rfl hW0 ?hya4 (fun hcl => ?ha4)
          case hya4 => (intro w'; go_simp; first | done | with_reducible rfl)
          simp only [Act.put, List.setIfInBounds_toArray, List.set_cons_zero, List.set_cons_succ]
          refine wpAnyK_takeNeed [] (i := 5) (v := ?va5) rfl hsel hcl (by kernel_rfl) (by kernel_rfl) rfl (by decide +kernel) (fun _ _ _ h => h) rfl hW0 ?hya5 (fun hcl => ?ha5)
          case hya5 => ((intro V0 hV0; obtain ⟨e1, e1b, e1c⟩ := HKX.out V0 hV0; obtain ⟨e2, e2b, e2c, -⟩ := HKB.out V0 hV0); go_simp; first | done | with_reducible rfl)
          simp only [Act.put, List.setIfInBounds_toArray, List.set_cons_zero, List.set_cons_succ]
          refine wpAnyK_takeNeed [9] (i := 6) (v := ?va6) rfl hsel hcl (by kernel_rfl) (by kernel_rfl) rfl (by decide +kernel) (fun _ _ _ h => h) rfl hW0 ?hya6 (fun hcl => ?ha6)
          case hya6 => ((intro V0 hV0; obtain ⟨e1, e1b, e1c⟩ := HKX.out V0 hV0; obtain ⟨e2, e2b, e2c, -⟩ := HKB.out V0 hV0); go_simp; first | done | with_reducible rfl)
          simp only [Act.put, List.setIfInBounds_toArray, List.set_cons_zero, List.set_cons_succ]
          refine wpAnyK_takeFree (i := 7) (v := ?va7) rfl hsel hcl (by kernel_rfl) (by kernel_rfl) rfl (fun _ _ _ h => h) rfl hW0 ?hya7 (fun hcl => ?ha7)
          case hya7 => (intro w'; go_simp; first | done | with_reducible rfl)
          simp only [Act.put, List.setIfInBounds_toArray, List.set_cons_zero, List.set_cons_succ]
          refine wpAnyK_takeFree (i := 8) (v := ?va8) rfl hsel hcl (by kernel_rfl) (by kernel_rfl) rfl (fun _ _ _ h => h) rfl hW0 ?hya8 (fun hcl => ?ha8)
          case hya8 => (intro w'; go_simp; first | done | with_reducible rfl)
          simp only [Act.put, List.setIfInBounds_toArray, List.set_cons_zero, List.set_cons_succ]
          refine wpAnyK_takeFree (i := 10) (v := ?va10) rfl hsel hcl (by kernel_rfl) (by kernel_rfl) rfl (fun _ _ _ h => h) rfl hW0 ?hya10 (fun hcl => ?ha10)
          case hya10 => (intro w'; go_simp; first | done | with_reducible rfl)
          simp only [Act.put, List.setIfInBounds_toArray, List.set_cons_zero, List.set_cons_succ]
          refine wpAnyK_takeFree (i := 11) (v := ?va11) rfl hsel hcl (by kernel_rfl) (by kernel_rfl) rfl (fun _ _ _ h => h) rfl hW0 ?hya11 (fun hcl => ?ha11)
          case hya11 => (intro w'; go_simp; first | done | with_reducible rfl)
          simp only [Act.put, List.setIfInBounds_toArray, List.set_cons_zero, List.set_cons_succ]
          refine wpAnyK_takeFree (i := 12) (v := ?va12) rfl hsel hcl (by kernel_rfl) (by kernel_rfl) rfl (fun _ _ _ h => h) rfl hW0 ?hya12 (fun hcl => ?ha12)
          case hya12 => (intro w'; go_simp; first | done | with_reducible rfl)
          simp only [Act.put, List.setIfInBounds_toArray, List.set_cons_zero, List.set_cons_succ]
          refine wpAnyK_takeNeed [] (i := 13) (v := ?va13) rfl hsel hcl (by kernel_rfl) (by kernel_rfl) rfl (by decide +kernel) (fun _ _ _ h => h) rfl hW0 ?hya13 (fun hcl => ?ha13)
          case hya13 => ((intro V0 hV0; obtain ⟨e1, e1b, e1c⟩ := HKX.out V0 hV0; obtain ⟨e2, e2b, e2c, -⟩ := HKB.out V0 hV0); go_simp; first | done | with_reducible rfl)
          simp only [Act.put, List.setIfInBounds_toArray, List.set_cons_zero, List.set_cons_succ]
          refine wpAnyK_one (i := 9) rfl (by decide +kernel) rfl rfl ?_
          go_simp
          refine (HAt.out _ hW0).mono ?_
          rintro e V1 ⟨rfl, hV1⟩
          refine ⟨hV1, ?_⟩
          clear hW0
          refine wpAnyK_store (st := 14) rfl (by decide +kernel) rfl ?_
          go_simp
          refine (HCall.out _ hV1).mono ?_
          rintro e V ⟨z, rfl, hz, lz, hV, hcx, hfx⟩
          refine wpAny_one (i := 15) rfl (by decide +kernel) rfl ?_
          go_simp
          refine wpAny_one (i := 16) rfl (by decide +kernel) rfl ?_
          go_simp
          refine wpAny_done (by decide +kernel) ?_ _
          all_goals
            have HV' := Lib.hid hV
            have HZz := Lib.hid hz
            have HLz := Lib.hid lz
            clear hz lz hcx hfx hcl hV hV1
            go_wp2
            go_roundw
            case rel =>
              refine ⟨k0 + 1, putX zs i0 z, _, hk, by go_num, HV'.out.put hlt HLz.out, Lib.hid (fun j hj => ?_), Lib.hid ?_, ?_⟩
              · rw [putX_other (by omega)]; exact HZ.out j hj
              · rw [putX_same, HZz.out]; exact HNv.out
              · rw [HNv.out, HFg.out, Bool.and_assoc]; rfl
            case measure => simp [intOf]; omega
        · have e : k0 = i0 := by omega
          subst e
          obtain ⟨lv, hlv⟩ : ∃ lv, lv = uppE S k0 k0 := ⟨_, rfl⟩
          obtain ⟨zi, hzi⟩ : ∃ zi, zi = zs k0 := ⟨_, rfl⟩
          have HKX := Lib.hid (fun (V : World) (hV : Below wr.heap.size wr V) => (show V.cell? ⟨W0.heap.size, k0, none⟩ = some (.complex .f64 zi.1 zi.2) ∧ V.cell? ⟨W0.heap.size, k0, none⟩ = some (.complex .f64 zi.1 zi.2) ∧ V.frozen? ⟨W0.heap.size, k0, none⟩ = false from by
            rw [hzi]; exact ⟨(HS.out.below hV).cellX hlt, (HS.out.below hV).cellX hlt, (HS.out.below hV).frozenX k0⟩))
          have HKB := Lib.hid (fun (V : World) (hV : Below wr.heap.size wr V) => box3 (HE.out.below (HS.out.below hV).bel).xU)
          have HAt := Lib.hid (fun (V : World) (hV : Below wr.heap.size wr V) => (show Calls Tryz.prog 45 #[mval n n (.slice Au M ku), .int .i64 (k0 : Nat), .int .i64 (k0 : Nat)] V (fun e w' => e = .returned (.complex .f64 lv.1 lv.2) ∧ Below wr.heap.size wr w') from by
            rw [hlv]
            exact (rent_q (uppE S) Au ku k0 k0 V HM.out HN.out hlt hlt ((HE.out.below (HS.out.below hV).bel).ru.more (Nat.le_of_lt (row_lt (HS.out.below hV).flag)))).mono fun e w' h => ⟨h.1, hV.trans (h.2.mono hV.size)⟩))
          obtain ⟨nv, hnv⟩ : ∃ nv, nv = pDiv (accTo (fun k => uppE S k k0) (tfw (uppE S) bb k0) 0 (bb k0) k0) (uppE S k0 k0) := ⟨_, rfl⟩
          have hval : pDiv (cnC zi) (cnC lv) = nv := by
            rw [hnv, hzi, HZi.out, hlv, fin_cn (upp_fin HF.out k0 k0 hlt hlt)]
          have hltl : ltC lv := by rw [hlv]; exact upp_lt HLtS.out hlt
          have HCall := Lib.hid (fun (V : World) (hV : Below wr.heap.size wr V) => rover_q (zi := zi) (lv := lv) (HS.out.below hV) hlt hltl hval)
          have HNv := Lib.hid hnv
          clear hlv hzi hval hnv hltl
          go_wp2_with fail
          refine wp_region_K 10 (by kernel_rfl) (Below wr.heap.size wr) (by kernel_rfl) (fun hsel hcl => ?_)
          have hW0 := (Below.refl wr.heap.size wr).drew
          refine wpAnyK_takeFree (i := 0) (v := ?vd0) rfl hsel hcl (by kernel_rfl) (by kernel_rfl) rfl (fun _ _ _ h => h) rfl hW0 ?hyd0 (fun hcl => ?hd0)
          case hyd0 => (intro w'; go_simp; first | done | with_reducible rfl)
          simp only [Act.put, List.setIfInBounds_toArray, List.set_cons_zero, List.set_cons_succ]
          refine wpAnyK_takeFree (i := 1) (v := ?vd1) rfl hsel hcl (by kernel_rfl) (by kernel_rfl) rfl (fun _ _ _ h => h) rfl hW0 ?hyd1 (fun hcl => ?hd1)
          case hyd1 => (intro w'; go_simp; first | done | with_reducible rfl)
          simp only [Act.put, List.setIfInBounds_toArray, List.set_cons_zero, List.set_cons_succ]
          refine wpAnyK_takeFree (i := 2) (v := ?vd2) rfl hsel hcl (by kernel_rfl) (by kernel_rfl) rfl (fun _ _ _ h => h) rfl hW0 ?hyd2 (fun hcl => ?hd2)
          case hyd2 => (intro w'; go_simp; first | done | with_reducible rfl)
          simp only [Act.put, List.setIfInBounds_toArray, List.set_cons_zero, List.set_cons_succ]
          refine wpAnyK_takeFree (i := 3) (v := ?vd3) rfl hsel hcl (by kernel_rfl) (by kernel_rfl) rfl (fun _ _ _ h => h) rfl hW0 ?hyd3 (fun hcl => ?hd3)
          case hyd3 => (intro w'; go_simp; first | done | with_reducible rfl)
          simp only [Act.put, List.setIfInBounds_toArray, List.set_cons_zero, List.set_cons_succ]
          refine wpAnyK_takeFree (i := 4) (v := ?vd4) rfl hsel hcl (by kernel_rfl) (by kernel_rfl) rfl (fun _ _ _ h => h) rfl hW0 ?hyd4 (fun hcl => ?hd4)
          case hyd4 => (intro w'; go_simp; first | done | with_reducible rfl)
          simp only [Act.put, List.setIfInBounds_toArray, List.set_cons_zero, List.set_cons_succ]
          refine wpAnyK_takeNeed [] (i := 5) (v := ?vd5) rfl hsel hcl (by kernel_rfl) (by kernel_rfl) rfl (by decide +kernel) (fun _ _ _ h => h) rfl hW0 ?hyd5 (fun hcl => ?hd5)
          case hyd5 => ((intro V0 hV0; obtain ⟨e1, e1b, e1c⟩ := HKX.out V0 hV0; obtain ⟨e2, e2b, e2c, -⟩ := HKB.out V0 hV0); go_simp; first | done | with_reducible rfl)
          simp only [Act.put, List.setIfInBounds_toArray, List.set_cons_zero, List.set_cons_succ]
          refine wpAnyK_takeNeed [9] (i := 6) (v := ?vd6) rfl hsel hcl (by kernel_rfl) (by kernel_rfl) rfl (by decide +kernel) (fun _ _ _ h => h) rfl hW0 ?hyd6 (fun hcl => ?hd6)
          case hyd6 => ((intro V0 hV0; obtain ⟨e1, e1b, e1c⟩ := HKX.out V0 hV0; obtain ⟨e2, e2b, e2c, -⟩ := HKB.out V0 hV0); go_simp; first | done | with_reducible rfl)
          simp only [Act.put, List.setIfInBounds_toArray, List.set_cons_zero, List.set_cons_succ]
          refine wpAnyK_takeFree (i := 7) (v := ?vd7) rfl hsel hcl (by kernel_rfl) (by kernel_rfl) rfl (fun _ _ _ h => h) rfl hW0 ?hyd7 (fun hcl => ?hd7)
          case hyd7 => (intro w'; go_simp; first | done | with_reducible rfl)
          simp only [Act.put, List.setIfInBounds_toArray, List.set_cons_zero, List.set_cons_succ]
          refine wpAnyK_takeFree (i := 8) (v := ?vd8) rfl hsel hcl (by kernel_rfl) (by kernel_rfl) rfl (fun _ _ _ h => h) rfl hW0 ?hyd8 (fun hcl => ?hd8)
          case hyd8 => (intro w'; go_simp; first | done | with_reducible rfl)
          simp only [Act.put, List.setIfInBounds_toArray, List.set_cons_zero, List.set_cons_succ]
          refine wpAnyK_one (i := 9) rfl (by decide +kernel) rfl rfl ?_
          go_simp
          refine (HAt.out _ hW0).mono ?_
          rintro e V1 ⟨rfl, hV1⟩
          refine ⟨hV1, ?_⟩
          clear hW0
          refine wpAnyK_store (st := 10) rfl (by decide +kernel) rfl ?_
          go_simp
          refine (HCall.out _ hV1).mono ?_
          rintro e V ⟨z, rfl, hz, lz, hV, hcx, hfx⟩
          refine wpAny_one (i := 11) rfl (by decide +kernel) rfl ?_
          go_simp
          refine wpAny_one (i := 12) rfl (by decide +kernel) rfl ?_
          go_simp
          refine wpAny_done (by decide +kernel) ?_ _
          all_goals
            have HV' := Lib.hid hV
            have HZz := Lib.hid hz
            have HLz := Lib.hid lz
            clear hz lz hcx hfx hcl hV hV1
            go_wp2
            go_roundw
            case rel =>
              refine ⟨k0 + 1, putX zs k0 z, _, hlt, by go_num, HV'.out.put hlt HLz.out, Lib.hid (fun j hj => ?_), ?_⟩
              · by_cases ej : j = k0
                · subst ej; rw [tfw, putX_same, putX_same, HZz.out]; exact HNv.out
                · rw [tfw, putX_other ej, putX_other ej]; exact HZ.out j (by omega)
              · rw [HNv.out, HFg.out]
                show _ = (tfwFine (uppE S) bb k0 && (accFine _ _ 0 _ k0 && pFinite _))
                rw [Bool.and_assoc]
            case measure => simp [intOf]; omega
    · have e : n = i0 := by omega
      subst e
      rename World => Wy
      obtain ⟨Y, hY⟩ : ∃ Y, Y = tfw (uppE S) bb n := ⟨_, rfl⟩
      obtain ⟨g0, hg0⟩ : ∃ g0, g0 = tfwFine (uppE S) bb n := ⟨_, rfl⟩
      rw [← hY] at HZ
      rw [← hg0] at HFg
      have HSol := Lib.hid (show (traOk n S bl = (g0 && tbwFine (lowE S) n Y n)) ∧ traL n S bl = (List.range n).map (tpl (lowE S) S.o n Y n) by
        rw [hg0, hY, HBB.out]; exact ⟨rfl, rfl⟩)
      obtain ⟨ys, hys⟩ : ∃ ys, ys = zs := ⟨_, rfl⟩
      have HY := Lib.hid (show Wy.heap[W0.heap.size]? = some (.cells (nums ((List.range n).map ys)).toArray 42) by rw [hys]; exact HS.out.x)
      have HYz := Lib.hid (show ∀ j, j < n → cnC (ys j) = Y j by rw [hys]; exact HZ.out)
      have HYl := Lib.hid (show ∀ j, j < n → ltC (ys j) by rw [hys]; exact HS.out.lt)
      have HE2 := Lib.hid (HE.out.below HS.out.bel)
      have HWy := Lib.hid HS.out.bel
      have HWk := Lib.hid (Nat.le_of_lt (row_lt HS.out.flag))
      have HKy := Lib.hid (show W0.heap.size ≠ bk by have := HS.out.hk; omega)
      have HS0 := Lib.hid (show RqT Wy ((Wy.alloc (.cells (madeCells #[.complex .f64 0 0] n) 42)).alloc (.cells (madeCells #[.complex .f64 0 0] n) 42)) bk n (fun _ => (0, 0)) (fun _ => (0, 0)) f from
        { bel := ((below_new Wy _).new (Nat.le_refl _) _).mono (Nat.le_of_lt (row_lt HS.out.flag))
          keep := fun j hj _ => ((below_new Wy _).new (Nat.le_refl _) _).block j hj
          flag := row_alloc (row_alloc HS.out.flag)
          xr := by
            rw [show ((List.range n).map fun _ => ((0, 0) : C)) = List.replicate n (0, 0) by rw [List.map_const', List.length_range], ← mk_nums]
            exact row_alloc (heap_alloc_new _ _)
          zr := by
            rw [show ((List.range n).map fun _ => ((0, 0) : C)) = List.replicate n (0, 0) by rw [List.map_const', List.length_range], ← mk_nums]
            exact row_new2 _ _ _
          lt := fun _ _ => ⟨by decide, by decide⟩
          hk := row_lt HS.out.flag })
      clear hY hg0 hys HS HZ HE
      go_wp2
      go_loopw [17, 18] (fun iv _ wr => ∃ (j : Nat) (zs xs : Nat → C) (f : Bool), j ≤ n ∧ iv = .int .i64 ((n : Int) - 1 - (j : Int)) ∧ RqT Wy wr bk n zs xs f ∧ Hid (∀ q, n - j ≤ q → q < n → cnC (zs q) = tbw (lowE S) n Y j q) ∧ Hid (∀ q, cnC (xs q) = tpl (lowE S) S.o n Y j q) ∧ f = (g0 && tbwFine (lowE S) n Y j)) (fun iv _ _ => (intOf iv + 1).toNat)
      case atStart => exact ⟨0, _, _, f, Nat.zero_le _, by go_num, HS0.out, Lib.hid (fun q h1 h2 => by omega), Lib.hid (fun q => by show cnC (0, 0) = (0, 0); decide), by rw [HFg.out]; simp [tbwFine]⟩
      case round =>
        obtain ⟨j, zs, xs, f, hj, rfl, hs, hz, hxs, hf⟩ := hrel
        have HS := Lib.hid hs
        have HZ := hz
        have HXs := hxs
        have HFg := Lib.hid hf
        have hn65 : (n : Int) ≤ 64 := by have := HN.out; omega
        clear hs hf
        by_cases hlt : j < n
        · obtain ⟨i, hi⟩ : ∃ i : Nat, i = n - 1 - j := ⟨_, rfl⟩
          have hii : (n : Int) - 1 - (j : Int) = (i : Int) := by omega
          have hin : i < n := by omega
          have hini : (i : Int) < (n : Int) := Int.ofNat_lt.2 hin
          have hi1 : n - j = i + 1 := by omega
          have hij : i + 1 + j = n := by omega
          have HI := Lib.hid hi
          have HI1 := Lib.hid hi1
          have HIJ := Lib.hid hij
          have hib : (i : Int) + 1 ≤ 65 := by omega
          rw [hii]
          have hcy : wr.cell? ⟨W0.heap.size, i, none⟩ = some (.complex .f64 (ys i).1 (ys i).2) := by
            rw [cell_of_row wr W0.heap.size i _ _ _ ((HS.out.keep _ (row_lt HY.out) HKy.out).trans HY.out)]; simp [nums, hin]
          have hcx := HS.out.cellX hin
          have hfx := HS.out.frozenX i
          have HS1 := Lib.hid (HS.out.put hin (HYl.out i hin))
          have HTl := Lib.hid (show tbw (lowE S) n Y j i = Y i from tbw_low j i (by omega))
          clear hi hi1 hii hij
          go_wp2
          clear hcx hfx hcy
          go_loopw [18] (fun kv wr => ∃ (m : Nat) (zs : Nat → C) (f : Bool), m ≤ j ∧ kv = .int .i64 ((i + 1 + m : Nat) : Int) ∧ RqT Wy wr bk n zs xs f ∧ Hid (∀ q, i < q → q < n → cnC (zs q) = tbw (lowE S) n Y j q) ∧ Hid (cnC (zs i) = accTo (fun k => lowE S k i) (tbw (lowE S) n Y j) (i + 1) (Y i) m) ∧ f = (g0 && (tbwFine (lowE S) n Y j && accFine (fun k => lowE S k i) (tbw (lowE S) n Y j) (i + 1) (Y i) m))) (fun kv _ => n - (intOf kv).toNat)
          case atStart =>
            refine ⟨0, _, _, Nat.zero_le _, by go_num, HS1.out, Lib.hid (fun q h1 h2 => ?_), Lib.hid ?_, ?_⟩
            · rw [putX_other (by omega)]; exact HZ.out q (by have := HI1.out; omega) h2
            · rw [putX_same]; exact HYz.out i hin
            · rw [HFg.out]; simp [accFine]
          case round =>
            obtain ⟨m, zs, f, hm, rfl, hs, hz, hzi, hf⟩ := hrel
            have HS := Lib.hid hs
            have HZ := hz
            have HZi := hzi
            have HFg := Lib.hid hf
            clear hs hf
            by_cases hk : m < j
            · obtain ⟨k, hk'⟩ : ∃ k, k = i + 1 + m := ⟨_, rfl⟩
              rw [← hk']
              have hkn : k < n := by have := HIJ.out; omega
              have hkni : (k : Int) < (n : Int) := Int.ofNat_lt.2 hkn
              have hkb : (k : Int) + 1 ≤ 65 := by omega
              have hki : i < k := by omega
              obtain ⟨lv, hlv⟩ : ∃ lv, lv = lowE S k i := ⟨_, rfl⟩
              obtain ⟨zi, hzi⟩ : ∃ zi, zi = zs i := ⟨_, rfl⟩
              obtain ⟨zk, hzk⟩ : ∃ zk, zk = zs k := ⟨_, rfl⟩
              have HKX := Lib.hid (fun (V : World) (hV : Below wr.heap.size wr V) => (show V.cell? ⟨Wy.heap.size + 1, i, none⟩ = some (.complex .f64 zi.1 zi.2) ∧ V.cell? ⟨Wy.heap.size + 1, k, none⟩ = some (.complex .f64 zk.1 zk.2) ∧ V.frozen? ⟨Wy.heap.size + 1, i, none⟩ = false from by
                rw [hzi, hzk]; exact ⟨(HS.out.below hV).cellX hin, (HS.out.below hV).cellX hkn, (HS.out.below hV).frozenX i⟩))
              have HKB := Lib.hid (fun (V : World) (hV : Below wr.heap.size wr V) => box3 (HE2.out.below (HS.out.below hV).bel).xL)
              have HAt := Lib.hid (fun (V : World) (hV : Below wr.heap.size wr V) => (show Calls Tryz.prog 45 #[mval n n (.slice Al M kl), .int .i64 (k : Nat), .int .i64 (i : Nat)] V (fun e w' => e = .returned (.complex .f64 lv.1 lv.2) ∧ Below wr.heap.size wr w') from by
                rw [hlv]
                exact (rent_q (lowE S) Al kl k i V HM.out HN.out hkn hin ((HE2.out.below (HS.out.below hV).bel).rl.more (Nat.le_of_lt (row_lt (HS.out.below hV).flag)))).mono fun e w' h => ⟨h.1, hV.trans (h.2.mono hV.size)⟩))
              have hval : pSub (cnC zi) (pMul (cnC lv) (cnC zk)) = accTo (fun k => lowE S k i) (tbw (lowE S) n Y j) (i + 1) (Y i) (m + 1) := by
                rw [hzi, HZi.out, hlv, fin_cn (low_fin HF.out k i hkn hin), hzk, HZ.out k hki hkn, hk']
                rfl
              obtain ⟨nv, hnv⟩ : ∃ nv, nv = accTo (fun k => lowE S k i) (tbw (lowE S) n Y j) (i + 1) (Y i) (m + 1) := ⟨_, rfl⟩
              rw [← hnv] at hval
              have HCall := Lib.hid (fun (V : World) (hV : Below wr.heap.size wr V) => rless_t (zi := zi) (lv := lv) (zk := zk) (HS.out.below hV) hin hval)
              have HNv := Lib.hid hnv
              have HK := Lib.hid hk'
              clear hlv hzi hzk hval hnv hk'
              go_wp2_with fail
              refine wp_region_K 14 (by kernel_rfl) (Below wr.heap.size wr) (by kernel_rfl) (fun hsel hcl => ?_)
              have hW0 := (Below.refl wr.heap.size wr).drew
              refine wpAnyK_takeFree (i := 0) (v := ?vb0) rfl hsel hcl (by kernel_rfl) (by kernel_rfl) rfl (fun _ _ _ h => h) rfl hW0 ?hyb0 (fun hcl => ?hb0)
              case hyb0 => (intro w'; go_simp; first | done | with_reducible rfl)
              simp only [Act.put, List.setIfInBounds_toArray, List.set_cons_zero, List.set_cons_succ]
              refine wpAnyK_takeFree (i := 1) (v := ?vb1) rfl hsel hcl (by kernel_rfl) (by kernel_rfl) rfl (fun _ _ _ h => h) rfl hW0 ?hyb1 (fun hcl => ?hb1)
              case hyb1 => (intro w'; go_simp; first | done | with_reducible rfl)
              simp only [Act.put, List.setIfInBounds_toArray, List.set_cons_zero, List.set_cons_succ]
              refine wpAnyK_takeFree (i := 2) (v := ?vb2) rfl hsel hcl (by kernel_rfl) (by kernel_rfl) rfl (fun _ _ _ h => h) rfl hW0 ?hyb2 (fun hcl => ?hb2)
              case hyb2 => (intro w'; go_simp; first | done | with_reducible rfl)
              simp only [Act.put, List.setIfInBounds_toArray, List.set_cons_zero, List.set_cons_succ]
              refine wpAnyK_takeFree (i := 3) (v := ?vb3) rfl hsel hcl (by kernel_rfl) (by kernel_rfl) rfl (fun _ _ _ h => h) rfl hW0 ?hyb3 (fun hcl => ?hb3)
              case hyb3 => (intro w'; go_simp; first | done | with_reducible rfl)
              simp only [Act.put, List.setIfInBounds_toArray, List.set_cons_zero, List.set_cons_succ]
              refine wpAnyK_takeFree (i := 4) (v := ?vb4) rfl hsel hcl (by kernel_rfl) (by kernel_rfl) rfl (fun _ _ _ h => h) rfl hW0 ?hyb4 (fun hcl => ?hb4)
              case hyb4 => (intro w'; go_simp; first | done | with_reducible rfl)
              simp only [Act.put, List.setIfInBounds_toArray, List.set_cons_zero, List.set_cons_succ]
              refine wpAnyK_takeNeed [] (i := 5) (v := ?vb5) rfl hsel hcl (by kernel_rfl) (by kernel_rfl) rfl (by decide +kernel) (fun _ _ _ h => h) rfl hW0 ?hyb5 (fun hcl => ?hb5)
              case hyb5 => ((intro V0 hV0; obtain ⟨e1, e1b, e1c⟩ := HKX.out V0 hV0; obtain ⟨e2, e2b, e2c, -⟩ := HKB.out V0 hV0); go_simp; first | done | with_reducible rfl)
              simp only [Act.put, List.setIfInBounds_toArray, List.set_cons_zero, List.set_cons_succ]
              refine wpAnyK_takeNeed [9] (i := 6) (v := ?vb6) rfl hsel hcl (by kernel_rfl) (by kernel_rfl) rfl (by decide +kernel) (fun _ _ _ h => h) rfl hW0 ?hyb6 (fun hcl => ?hb6)
              case hyb6 => ((intro V0 hV0; obtain ⟨e1, e1b, e1c⟩ := HKX.out V0 hV0; obtain ⟨e2, e2b, e2c, -⟩ := HKB.out V0 hV0); go_simp; first | done | with_reducible rfl)
              simp only [Act.put, List.setIfInBounds_toArray, List.set_cons_zero, List.set_cons_succ]
              refine wpAnyK_takeFree (i := 7) (v := ?vb7) rfl hsel hcl (by kernel_rfl) (by kernel_rfl) rfl (fun _ _ _ h => h) rfl hW0 ?hyb7 (fun hcl => ?hb7)
              case hyb7 => (intro w'; go_simp; first | done | with_reducible rfl)
              simp only [Act.put, List.setIfInBounds_toArray, List.set_cons_zero, List.set_cons_succ]
              refine wpAnyK_takeFree (i := 8) (v := ?vb8) rfl hsel hcl (by kernel_rfl) (by kernel_rfl) rfl (fun _ _ _ h => h) rfl hW0 ?hyb8 (fun hcl => ?hb8)
              case hyb8 => (intro w'; go_simp; first | done | with_reducible rfl)
              simp only [Act.put, List.setIfInBounds_toArray, List.set_cons_zero, List.set_cons_succ]
              refine wpAnyK_takeFree (i := 10) (v := ?vb10) rfl hsel hcl (by kernel_rfl) (by kernel_rfl) rfl (fun _ _ _ h => h) rfl hW0 ?hyb10 (fun hcl => ?hb10)
              case hyb10 => (intro w'; go_simp; first | done | with_reducible rfl)
              simp only [Act.put, List.setIfInBounds_toArray, List.set_cons_zero, List.set_cons_succ]
              refine wpAnyK_takeFree (i := 11) (v := ?vb11) rfl hsel hcl (by kernel_rfl) (by kernel_rfl) rfl (fun _ _ _ h => h) rfl hW0 ?hyb11 (fun hcl => ?hb11)
              case hyb11 => (intro w'; go_simp; first | done | with_reducible rfl)
              simp only [Act.put, List.setIfInBounds_toArray, List.set_cons_zero, List.set_cons_succ]
              refine wpAnyK_takeFree (i := 12) (v := ?vb12) rfl hsel hcl (by kernel_rfl) (by kernel_rfl) rfl (fun _ _ _ h => h) rfl hW0 ?hyb12 (fun hcl => ?hb12)
              case hyb12 => (intro w'; go_simp; first | done | with_reducible rfl)
              simp only [Act.put, List.setIfInBounds_toArray, List.set_cons_zero, List.set_cons_succ]
              refine wpAnyK_takeNeed [] (i := 13) (v := ?vb13) rfl hsel hcl (by kernel_rfl) (by kernel_rfl) rfl (by decide +kernel) (fun _ _ _ h => h) rfl hW0 ?hyb13 (fun hcl => ?hb13)
              case hyb13 => ((intro V0 hV0; obtain ⟨e1, e1b, e1c⟩ := HKX.out V0 hV0; obtain ⟨e2, e2b, e2c, -⟩ := HKB.out V0 hV0); go_simp; first | done | with_reducible rfl)
              simp only [Act.put, List.setIfInBounds_toArray, List.set_cons_zero, List.set_cons_succ]
              refine wpAnyK_one (i := 9) rfl (by decide +kernel) rfl rfl ?_
              go_simp
              refine (HAt.out _ hW0).mono ?_
              rintro e V1 ⟨rfl, hV1⟩
              refine ⟨hV1, ?_⟩
              clear hW0
              refine wpAnyK_store (st := 14) rfl (by decide +kernel) rfl ?_
              go_simp
              refine (HCall.out _ hV1).mono ?_
              rintro e V ⟨z, rfl, hz, lz, hV, hcx, hfx⟩
              refine wpAny_one (i := 15) rfl (by decide +kernel) rfl ?_
              go_simp
              refine wpAny_one (i := 16) rfl (by decide +kernel) rfl ?_
              go_simp
              refine wpAny_done (by decide +kernel) ?_ _
              all_goals
                have HV' := Lib.hid hV
                have HZz := Lib.hid hz
                have HLz := Lib.hid lz
                clear hz lz hcx hfx hcl hV hV1
                go_wp2
                go_roundw
                case rel =>
                  refine ⟨m + 1, putX zs i z, _, hk, by have := HK.out; go_num, HV'.out.put hin HLz.out, Lib.hid (fun q h1 h2 => ?_), Lib.hid ?_, ?_⟩
                  · rw [putX_other (by omega)]; exact HZ.out q h1 h2
                  · rw [putX_same, HZz.out]; exact HNv.out
                  · rw [HNv.out, HFg.out, Bool.and_assoc, Bool.and_assoc]; rfl
                case measure => simp [intOf]; omega
            · have e : m = j := by omega
              subst e
              have hkk : i + 1 + m = n := HIJ.out
              rw [hkk]
              obtain ⟨p, hp⟩ : ∃ p, p = S.o i := ⟨_, rfl⟩
              have hpn : p < n := by rw [hp]; exact HP.out.1 _ hin
              have hpi : (p : Int) < (n : Int) := Int.ofNat_lt.2 hpn
              have hov := ord_get S.o hin
              rw [← hp] at hov
              obtain ⟨ado, rfl, -, hco⟩ := (HE2.out.ro.below HS.out.bel).at_ hov
              obtain ⟨zi, hzi⟩ : ∃ zi, zi = zs i := ⟨_, rfl⟩
              have hcx := HS.out.cellX hin
              rw [← hzi] at hcx
              have cR := HS.out.cellR hpn
              have fR := HS.out.frozenR p
              have HS2 := Lib.hid ((HS.out.below (Below.refl _ _).drew).lay (p := p) zi)
              have HPp := Lib.hid hp
              have HZz := Lib.hid hzi
              clear hp hov hzi hkk
              go_wp2_with fail
              go_still_tail 10, (by kernel_rfl)
              change wpList _ _ _ _ _ wr.drew
              have d1f : wr.drew.frozen? ⟨Wy.heap.size, p, none⟩ = false := fR
              obtain ⟨v1, d1⟩ : ∃ v, wr.drew.cell? ⟨Wy.heap.size, p, none⟩ = some v := ⟨_, cR⟩
              go_wp2
              go_roundw
              case rel =>
                have hzz : cnC zi = tbw (lowE S) n Y (m + 1) (n - 1 - m) := by
                  show _ = putX (tbw (lowE S) n Y m) (n - 1 - m) _ (n - 1 - m)
                  rw [putX_same, HZz.out, ← HI.out, HI1.out, HTl.out]; exact HZi.out
                refine ⟨m + 1, zs, putX xs p zi, _, hlt, by have := HI.out; go_num, HS2.out, Lib.hid (fun q h1 h2 => ?_), Lib.hid (fun q => ?_), ?_⟩
                · by_cases eq : q = i
                  · subst eq
                    rw [← HZz.out, hzz, ← HI.out]
                  · show _ = putX (tbw (lowE S) n Y m) (n - 1 - m) _ q
                    rw [← HI.out, putX_other eq]; exact HZ.out q (by have := HI.out; omega) h2
                · show _ = putX (tpl (lowE S) S.o n Y m) (S.o (n - 1 - m)) _ q
                  rw [← HI.out, ← HPp.out]
                  by_cases eq : q = p
                  · subst eq; rw [putX_same, putX_same, hzz, ← HI.out]
                  · rw [putX_other eq, putX_other eq]; exact HXs.out q
                · rw [HFg.out]
                  show _ = (g0 && (tbwFine (lowE S) n Y m && accFine (fun k => lowE S k (n - 1 - m)) (tbw (lowE S) n Y m) (n - m) (tbw (lowE S) n Y m (n - 1 - m)) m))
                  rw [← HI.out, HI1.out, HTl.out]
              case measure => simp [intOf]
        · have e : j = n := by omega
          subst e
          obtain ⟨so, hso⟩ : ∃ so, so = traOk j S bl := ⟨_, rfl⟩
          have hfo : f = so := HFg.out.trans (by rw [hso]; exact HSol.out.1.symm)
          subst hfo
          have hl0 : wr.cell? ⟨bk, 0, none⟩ = some (.bool f) := by rw [cell_of_row wr bk 0 _ _ _ HS.out.flag]; rfl
          have hneg : ((j : Int) - 1 - (j : Int)) = -1 := by omega
          rw [hneg]
          have HBe := Lib.hid (HB0.out.trans ((HWy.out.trans HS.out.bel).mono HBk.out))
          have HSo := Lib.hid hso
          clear hso hneg
          cases f
          · go_wp2
            go_ret2
            rw [HEr.out, HRs.out, ← HSo.out]
            exact ⟨_, rfl, World.ownsRow_nil _ _ _ _, HBe.out⟩
          · have hx : (List.range j).map xs = traL j S bl := by
              rw [HSol.out.2]
              refine List.map_congr_left fun q hq => ?_
              have hq := List.mem_range.1 hq
              have hfi : pFinite (tpl (lowE S) S.o j Y j q) = true := by
                have h := tra_fin (Lo := lowE S) (Up := uppE S) (o := S.o) (b := bOf bl) (n := j) HSo.out.symm q
                have e := congrArg (fun l : List C => l[q]?) HSol.out.2
                simp only [traL, List.getElem?_map, List.getElem?_range hq, Option.map_some, Option.some.injEq] at e
                rw [← e]; exact h
              exact like.fin (.inr (HXs.out q)) hfi
            have HX := Lib.hid hx
            clear hx
            go_wp2
            go_ret2
            rw [HEr.out, HRs.out, ← HSo.out]
            refine ⟨_, rfl, ?_, HBe.out⟩
            show World.ownsRow _ _ _ _ _ (traL j S bl).length (nums (traL j S bl))
            have hxx := HS.out.xr
            rw [HX.out] at hxx
            have hll : (traL j S bl).length = j := by simp [traL]
            have hj64 := HN.out
            have hwk := HBk.out
            exact ⟨by simp [nums], .inr ⟨Wy.heap.size, j, _, by simp [hll], Nat.le_trans hwk HWk.out, hxx, by omega, by unfold maxLen; omega, by simp [nums, hll], by simp [nums, hll]; exact List.take_of_length_le (by simp [hll])⟩⟩
end Go.Proofs.YtglmmidhkpomgaaGreat
