/- Layer 10: with the transpose (solve.Transposed). Printed by gen_tr.py out of tr3.txt. -/
import Derived.Test.YtglmmidhkpomgaaGreatTrP
import Derived.StillTailTactics
import Derived.Deep.RegionHeld3
import Derived.Deep.DeepCutAuto
import Derived.BigRegion
namespace Go.Proofs.YtglmmidhkpomgaaGreat
open Go.RowKit Fl Ieee
set_option maxRecDepth 20000
attribute [local go_sem] run_store_float run_store_complex Fl.order_self Fl.order_self' Fl.order_eq Fl.order_ne Fl.order_lt Fl.order_gt
def traOk (n : Nat) (S : El) (l : List C) : Bool := traFine (lowE S) (uppE S) (bOf l) n
def traL (n : Nat) (S : El) (l : List C) : List C := (List.range n).map (traX (lowE S) (uppE S) S.o (bOf l) n)
/-- Beside it the row that the unknowns are laid into. -/
structure SvT (W0 W : World) (X n : Nat) (zs xs : Nat → C) (f : Bool) : Prop where
  s : SvS W0 W n zs f
  lo : W0.heap.size + 1 < X
  xr : W.heap[X]? = some (.cells (nums ((List.range n).map xs)).toArray 42)
theorem SvS.far {W0 W : World} {n : Nat} {zs : Nat → C} {f : Bool} (h : SvS W0 W n zs f) {X p : Nat} (hX : W0.heap.size + 1 < X) (v : Value) : SvS W0 (W.setCell ⟨X, p, none⟩ v) n zs f where
  bel := h.bel.setCell (by show W0.heap.size ≤ X; omega) _
  look := by rw [Below.heap_setCell _ _ _ _ (by show W0.heap.size ≠ X; omega)]; exact h.look
  x := by rw [Below.heap_setCell _ _ _ _ (by show W0.heap.size + 1 ≠ X; omega)]; exact h.x
  lt := h.lt
namespace SvT
variable {W0 W V : World} {X n : Nat} {zs xs : Nat → C} {f : Bool}
theorem put (h : SvT W0 W X n zs xs f) {i : Nat} {z : C} (hi : i < n) (hz : ltC z) : SvT W0 (W.setCell ⟨W0.heap.size + 1, i, none⟩ (.complex .f64 z.1 z.2)) X n (putX zs i z) xs f :=
  ⟨h.s.put hi hz, h.lo, by rw [Below.heap_setCell _ _ _ _ (by show X ≠ W0.heap.size + 1; have := h.lo; omega)]; exact h.xr⟩
theorem flag (h : SvT W0 W X n zs xs f) (g : Bool) : SvT W0 (W.setCell ⟨W0.heap.size, 0, none⟩ (.bool g)) X n zs xs g :=
  ⟨h.s.flag g, h.lo, by rw [Below.heap_setCell _ _ _ _ (by show X ≠ W0.heap.size; have := h.lo; omega)]; exact h.xr⟩
theorem drewN (h : SvT W0 W X n zs xs f) (d : Nat) : SvT W0 (W.drewN d) X n zs xs f := ⟨h.s.drewN d, h.lo, h.xr⟩
theorem drew (h : SvT W0 W X n zs xs f) : SvT W0 W.drew X n zs xs f := ⟨h.s.drew, h.lo, h.xr⟩
theorem lay (h : SvT W0 W X n zs xs f) {p : Nat} (z : C) : SvT W0 (W.setCell ⟨X, p, none⟩ (.complex .f64 z.1 z.2)) X n zs (putX xs p z) f where
  s := h.s.far h.lo _
  lo := h.lo
  xr := by
    rw [heap_setCell_same W X p _ _ _ h.xr]
    congr 2
    rw [← map_put]
    simp
theorem cellR (h : SvT W0 W X n zs xs f) {i : Nat} (hi : i < n) : W.cell? ⟨X, i, none⟩ = some (.complex .f64 (xs i).1 (xs i).2) := by
  rw [cell_of_row W X i _ _ _ h.xr]
  simp [nums, hi]
theorem frozenR (h : SvT W0 W X n zs xs f) (i : Nat) : W.frozen? ⟨X, i, none⟩ = false := frozen_of_row W X i _ _ h.xr
end SvT
theorem put_factsT {W0 wr V : World} {X n i : Nat} {zs xs : Nat → C} {f g : Bool} (h : SvT W0 wr X n zs xs f) (hi : i < n) {d : Nat} (hV : V = (wr.drew.drewN d).setCell ⟨W0.heap.size, 0, none⟩ (.bool g)) :
    SvT W0 V X n zs xs g ∧ V.cell? ⟨W0.heap.size + 1, i, none⟩ = some (.complex .f64 (zs i).1 (zs i).2) ∧ V.frozen? ⟨W0.heap.size + 1, i, none⟩ = false := by
  have h1 : SvT W0 V X n zs xs g := by rw [hV]; exact (h.drew.drewN d).flag g
  exact ⟨h1, h1.s.cellX hi, h1.s.frozenX i⟩
set_option linter.unusedSimpArgs false in
set_option maxHeartbeats 16000000 in
theorem Trans_run {B b n : Nat} {S : El} (Ab : Option Addr) (bl : List C) (cap : Nat) (w : World) (h : Has9 w B b n S) (hf : finTo S.E n) (hp : Perm n S.o) (hn : n ≤ 64) (hl : bl.length = n) (hfb : ∀ z ∈ bl, pFinite z = true) (hlt : ltCs bl) (hrd : Reads w w.heap.size Ab (nums bl)) :
    Calls Tryz.prog 25 #[.pointer (some ⟨b, 0, none⟩), .slice Ab bl.length cap] w (RetSol (if traOk n S bl then 0 else 6) (if traOk n S bl then traL n S bl else []) w) := by
  obtain ⟨er, her⟩ : ∃ er : Int, er = if traOk n S bl then 0 else 6 := ⟨_, rfl⟩
  obtain ⟨rs, hrs⟩ : ∃ rs : List C, rs = if traOk n S bl then traL n S bl else [] := ⟨_, rfl⟩
  rw [← her, ← hrs]
  have HEr := Lib.hid her
  have HRs := Lib.hid hrs
  have hE0 : bErr n bl = 0 := by
    unfold bErr
    rw [if_pos hl, if_neg fun hb => by
      have h1 : (!pFinite bl[badAt bl]) = true := List.findIdx_getElem (w := hb)
      rw [hfb _ (List.getElem_mem _)] at h1
      cases h1]
  have HOp := Lib.hid (open_c w h hf hn)
  have HWr := Lib.hid (fun (x1 x2 x3 : Value) (V : World) (h2 : Reads V V.heap.size Ab (nums bl)) => (show Calls Tryz.prog 56 #[.agg #[.int .i64 (n : Nat), x1, x2, x3], .slice Ab bl.length cap] V (RetV (.int .i64 0) V) from by
    rw [← hE0]; exact wrong_c n x1 x2 x3 Ab bl cap V hlt (by omega) hn h2))
  have HLtS := Lib.hid (show ∀ i, i < n → ltC (S.E i i) from fun i hi => by obtain ⟨_, _, _, _, _, _, _, hl⟩ := h.num hi hi; exact hl)
  have hmk := run_make_row' (P := Tryz.prog) 27 42 (.complex .f64 0 0) 16 Tryz.underlying27 infoNum rfl .i64 .i64 n (by omega) (by omega)
  have HRd := Lib.hid hrd
  have HF := Lib.hid hf
  have HP := Lib.hid hp
  have HN := Lib.hid hn
  have HBl := Lib.hid hl
  have HFb := Lib.hid hfb
  have HLt := Lib.hid hlt
  clear h hf hp hn hl hfb hlt hrd hE0 her hrs
  go_enter Tryz.func25, Tryz.ntmps25
  go_wp2_with fail
  refine HOp.out.mono ?_
  rintro e W1 ⟨Al, kl, Au, ku, Ao, ko, rfl, hrl, hru, hro, hb⟩
  obtain ⟨M, hM⟩ : ∃ M, M = n * n := ⟨_, rfl⟩
  rw [← hM]
  have hbn := below_new W1 (.cells #[.int .i64 (n : Nat), .slice Al M kl, .slice Au M ku, .slice Ao n ko] 69)
  have hR1 := (HRd.out.below hb).more hb.size
  have HRb := Lib.hid ((hR1.below hbn).more hbn.size)
  have HRl := Lib.hid ((hrl.below hbn).more hbn.size)
  have HRu := Lib.hid ((hru.below hbn).more hbn.size)
  have HRo := Lib.hid ((hro.below hbn).more hbn.size)
  have B1 := Lib.hid (hb.trans (hbn.mono hb.size))
  have HSy := Lib.hid (heap_alloc_new W1 (.cells #[.int .i64 (n : Nat), .slice Al M kl, .slice Au M ku, .slice Ao n ko] 69))
  have HM := Lib.hid hM
  clear hrl hru hro hb hbn hR1 hM
  go_wp2_with fail
  refine (HWr.out _ _ _ _ HRb.out).mono ?_
  rintro e W0 ⟨rfl, hb⟩
  have HE := Lib.hid (show SvE W0 W1.heap.size n Al Au Ao Ab kl ku ko S bl from
    { sys := by rw [← HM.out]; exact row_keep hb HSy.out
      rl := (HRl.out.below hb).more hb.size
      ru := (HRu.out.below hb).more hb.size
      ro := (HRo.out.below hb).more hb.size
      rb := (HRb.out.below hb).more hb.size })
  have B0 := Lib.hid (B1.out.trans (hb.mono B1.out.size))
  have hsys := HE.out.sys
  rw [← HM.out] at hsys
  obtain ⟨s0, -, -, -, -⟩ := box4 hsys
  have s0a : ∀ o, (W0.alloc o).cell? ⟨W1.heap.size, 0, none⟩ = some (.int .i64 (n : Nat)) := fun o => ((below_new W0 o).cell (p := ⟨W1.heap.size, 0, none⟩) (row_lt hsys)).trans s0
  have HLk := Lib.hid (below_new W0 (.cells #[.bool false] 97))
  clear hb hsys HRl HRu HRo HRb HSy HOp HWr
  go_wp2
  have HS0 := Lib.hid (show SvS W0 ((W0.alloc (.cells #[.bool false] 97)).alloc (.cells (madeCells #[.complex .f64 0 0] n) 42)) n (fun _ => (0, 0)) false from
    { bel := (below_new W0 _).new (Nat.le_refl _) _
      look := row_alloc (heap_alloc_new W0 _)
      x := by
        rw [show ((List.range n).map fun _ => ((0, 0) : C)) = List.replicate n (0, 0) by rw [List.map_const', List.length_range], ← mk_nums]
        exact row_new2 _ _ _
      lt := fun _ _ => ⟨by decide, by decide⟩ })
  obtain ⟨bb, hbb⟩ : ∃ bb, bb = bOf bl := ⟨_, rfl⟩
  have HBB := Lib.hid hbb
  clear s0 s0a hmk hbb
  have facts := Lib.hid (fun (V : World) (hV : Below W0.heap.size W0 V) =>
    (show (V.cell? ⟨W1.heap.size, 0, none⟩ = some (.int .i64 (n : Nat)) ∧ V.cell? ⟨W1.heap.size, 1, none⟩ = some (.slice Al M kl) ∧ V.cell? ⟨W1.heap.size, 2, none⟩ = some (.slice Au M ku) ∧ V.cell? ⟨W1.heap.size, 3, none⟩ = some (.slice Ao n ko)) from by
      have hs := row_keep hV HE.out.sys
      rw [← HM.out] at hs
      obtain ⟨a0, a1, a2, a3, -⟩ := box4 hs
      exact ⟨a0, a1, a2, a3⟩))
  go_loopw [36] (fun i wr => ∃ (i0 : Nat) (zs : Nat → C) (f : Bool), i0 ≤ n ∧ i = .int .i64 (i0 : Nat) ∧ SvS W0 wr n zs f ∧ (∀ j, j < i0 → cnC (zs j) = tfw (uppE S) bb i0 j) ∧ f = !(tfwFine (uppE S) bb i0)) (fun i _ => n - (intOf i).toNat)
  case atStart => exact ⟨0, _, _, Nat.zero_le _, rfl, HS0.out, fun j h => by omega, rfl⟩
  case round =>
    obtain ⟨i0, zs, f, hi0, rfl, hs, hz, hf⟩ := hrel
    have HS := Lib.hid hs
    have HZ := Lib.hid hz
    have HFl := Lib.hid hf
    have hib : (i0 : Int) + 1 ≤ 65 := by have := HN.out; omega
    obtain ⟨a0, -, a2, a3⟩ := facts.out wr hs.bel
    clear hs hz hf
    by_cases hlt : i0 < n
    · have hlti : (i0 : Int) < (n : Int) := Int.ofNat_lt.2 hlt
      have hbl : i0 < bl.length := by rw [HBl.out]; exact hlt
      have hbli : (i0 : Int) < (bl.length : Int) := Int.ofNat_lt.2 hbl
      obtain ⟨u, hu⟩ := some_of_lt hbl
      have hbv : (nums bl)[i0]? = some (.complex .f64 u.1 u.2) := by simp [nums, hu]
      obtain ⟨adb, rfl, -, hcb⟩ := (HE.out.rb.below HS.out.bel).at_ hbv
      have hub : u = bb i0 := by rw [HBB.out]; unfold bOf; rw [List.getD_eq_getElem?_getD, hu]; rfl
      have HU := Lib.hid hub
      have HUf := Lib.hid (HFb.out u (List.mem_of_getElem? hu))
      have HUl := Lib.hid (HLt.out u (List.mem_of_getElem? hu))
      have hcx := HS.out.cellX hlt
      have hfx := HS.out.frozenX i0
      have HS1 := Lib.hid (HS.out.put hlt HUl.out)
      have hln : (bl.length : Int) = (n : Int) := by rw [HBl.out]
      clear hu hbv hub hln hbl a2 a3
      go_wp2
      go_loopw [47] (fun k wr => ∃ (k0 : Nat) (zs : Nat → C) (f : Bool), k0 ≤ i0 ∧ k = .int .i64 (k0 : Nat) ∧ SvS W0 wr n zs f ∧ (∀ j, j < i0 → cnC (zs j) = tfw (uppE S) bb i0 j) ∧ cnC (zs i0) = accTo (fun k => uppE S k i0) (tfw (uppE S) bb i0) 0 (bb i0) k0 ∧ f = !(tfwFine (uppE S) bb i0 && accFine (fun k => uppE S k i0) (tfw (uppE S) bb i0) 0 (bb i0) k0)) (fun k _ => i0 - (intOf k).toNat)
      case atStart =>
        refine ⟨0, _, _, Nat.zero_le _, rfl, HS1.out, fun j hj => ?_, ?_, ?_⟩
        · rw [putX_other (by omega)]; exact HZ.out j hj
        · rw [putX_same, ← HU.out]; exact fin_cn HUf.out
        · rw [HFl.out]; simp [accFine]
      case round =>
        obtain ⟨k0, zs, f, hk0, rfl, hs, hz, hzi, hf⟩ := hrel
        have HS := Lib.hid hs
        have HZ := Lib.hid hz
        have HZi := Lib.hid hzi
        have HFl := Lib.hid hf
        obtain ⟨a0, -, a2, -⟩ := facts.out wr hs.bel
        have hkb : (k0 : Int) + 1 ≤ 65 := by omega
        have hcx := HS.out.cellX hlt
        have hfx := HS.out.frozenX i0
        clear hs hz hzi hf
        by_cases hk : k0 < i0
        · have hki : (k0 : Int) < (i0 : Int) := Int.ofNat_lt.2 hk
          have hkn : k0 < n := by omega
          have hkni : (k0 : Int) < (n : Int) := Int.ofNat_lt.2 hkn
          have hev := ent_get (uppE S) hkn hlt
          obtain ⟨q, hq⟩ : ∃ q, q = k0 * n + i0 := ⟨_, rfl⟩
          obtain ⟨r, hr⟩ : ∃ r, r = k0 * n := ⟨_, rfl⟩
          have hr4 : r ≤ 4096 := by rw [hr]; exact prod_small (by have := HN.out; omega) HN.out
          have hqM : q < M := by
            rw [hq, HM.out]
            have h1 : (k0 + 1) * n ≤ n * n := Nat.mul_le_mul_right _ hkn
            rw [Nat.add_mul, Nat.one_mul] at h1; omega
          have hm1 : IntKind.i64.wrap ((k0 : Int) * (n : Int)) = (r : Int) := wrapI (by rw [hr, Int.natCast_mul]) (by omega)
          have hm2 : IntKind.i64.wrap ((r : Int) + (i0 : Int)) = (q : Int) := wrapI (by rw [hq, ← hr, Int.natCast_add]) (by omega)
          rw [← hq] at hev
          obtain ⟨adl, rfl, -, hcl⟩ := (HE.out.ru.below HS.out.bel).at_ hev
          have hqi : (q : Int) < (M : Int) := Int.ofNat_lt.2 hqM
          obtain ⟨lv, hlv⟩ : ∃ lv, lv = uppE S k0 i0 := ⟨_, rfl⟩
          rw [← hlv] at hcl
          have hx1 := hcx
          have hx2 := HS.out.cellX hkn
          obtain ⟨zi, hzi⟩ : ∃ zi, zi = zs i0 := ⟨_, rfl⟩
          obtain ⟨zk, hzk⟩ : ∃ zk, zk = zs k0 := ⟨_, rfl⟩
          rw [← hzi] at hx1
          rw [← hzk] at hx2
          have hval : pSub (cnC zi) (pMul (cnC lv) (cnC zk)) = accTo (fun k => uppE S k i0) (tfw (uppE S) bb i0) 0 (bb i0) (k0 + 1) := by
            rw [hzi, HZi.out, hlv, fin_cn (upp_fin HF.out k0 i0 hkn hlt), hzk, HZ.out k0 hk]
            show _ = pSub _ (pMul (uppE S (0 + k0) i0) (tfw (uppE S) bb i0 (0 + k0)))
            rw [Nat.zero_add]
          have HCall := Lib.hid (less_c W0.heap.size f zi lv zk wr.drew HS.out.look)
          have HPut := Lib.hid (fun (V : World) (d : Nat) (hV : V = (wr.drew.drewN d).setCell ⟨W0.heap.size, 0, none⟩ (.bool (f || !pFinite (pSub (cnC zi) (pMul (cnC lv) (cnC zk)))))) => (put_facts HS.out hlt hV).2)
          have HVal := Lib.hid hval
          clear hev hq hr hr4 hlv hzi hzk hval hcx
          go_wp2_with fail
          refine wp_region_K 21 (by kernel_rfl) (fun V => V = wr.drew) (by kernel_rfl) (fun hsel hcl => ?_)
          refine wpAnyK_takeFree (i := 0) (v := ?va0) rfl hsel hcl (by kernel_rfl) (by kernel_rfl) rfl (fun _ _ _ h => h) rfl rfl ?hya0 (fun hcl => ?ha0)
          case hya0 => (intro w'; go_simp; first | done | with_reducible rfl)
          simp only [Act.put, List.setIfInBounds_toArray, List.set_cons_zero, List.set_cons_succ]
          refine wpAnyK_takeFree (i := 1) (v := ?va1) rfl hsel hcl (by kernel_rfl) (by kernel_rfl) rfl (fun _ _ _ h => h) rfl rfl ?hya1 (fun hcl => ?ha1)
          case hya1 => (intro w'; go_simp; first | done | with_reducible rfl)
          simp only [Act.put, List.setIfInBounds_toArray, List.set_cons_zero, List.set_cons_succ]
          refine wpAnyK_takeFree (i := 2) (v := ?va2) rfl hsel hcl (by kernel_rfl) (by kernel_rfl) rfl (fun _ _ _ h => h) rfl rfl ?hya2 (fun hcl => ?ha2)
          case hya2 => (intro w'; go_simp; first | done | with_reducible rfl)
          simp only [Act.put, List.setIfInBounds_toArray, List.set_cons_zero, List.set_cons_succ]
          refine wpAnyK_takeFree (i := 3) (v := ?va3) rfl hsel hcl (by kernel_rfl) (by kernel_rfl) rfl (fun _ _ _ h => h) rfl rfl ?hya3 (fun hcl => ?ha3)
          case hya3 => (intro w'; go_simp; first | done | with_reducible rfl)
          simp only [Act.put, List.setIfInBounds_toArray, List.set_cons_zero, List.set_cons_succ]
          refine wpAnyK_takeFree (i := 4) (v := ?va4) rfl hsel hcl (by kernel_rfl) (by kernel_rfl) rfl (fun _ _ _ h => h) rfl rfl ?hya4 (fun hcl => ?ha4)
          case hya4 => (intro w'; go_simp; first | done | with_reducible rfl)
          simp only [Act.put, List.setIfInBounds_toArray, List.set_cons_zero, List.set_cons_succ]
          refine wpAnyK_takeFree (i := 5) (v := ?va5) rfl hsel hcl (by kernel_rfl) (by kernel_rfl) rfl (fun _ _ _ h => h) rfl rfl ?hya5 (fun hcl => ?ha5)
          case hya5 => (intro w'; go_simp; first | done | with_reducible rfl)
          simp only [Act.put, List.setIfInBounds_toArray, List.set_cons_zero, List.set_cons_succ]
          refine wpAnyK_takeNeed [] (i := 6) (v := ?va6) rfl hsel hcl (by kernel_rfl) (by kernel_rfl) rfl (by decide +kernel) (fun _ _ _ h => h) rfl rfl ?hya6 (fun hcl => ?ha6)
          case hya6 => (rintro w' rfl; go_simp; first | done | with_reducible rfl)
          simp only [Act.put, List.setIfInBounds_toArray, List.set_cons_zero, List.set_cons_succ]
          refine wpAnyK_takeFree (i := 7) (v := ?va7) rfl hsel hcl (by kernel_rfl) (by kernel_rfl) rfl (fun _ _ _ h => h) rfl rfl ?hya7 (fun hcl => ?ha7)
          case hya7 => (intro w'; go_simp; first | done | with_reducible rfl)
          simp only [Act.put, List.setIfInBounds_toArray, List.set_cons_zero, List.set_cons_succ]
          refine wpAnyK_takeNeed [16, 15] (i := 8) (v := ?va8) rfl hsel hcl (by kernel_rfl) (by kernel_rfl) rfl (by decide +kernel) (fun _ _ _ h => h) rfl rfl ?hya8 (fun hcl => ?ha8)
          case hya8 => (rintro w' rfl; go_simp; first | done | with_reducible rfl)
          simp only [Act.put, List.setIfInBounds_toArray, List.set_cons_zero, List.set_cons_succ]
          refine wpAnyK_takeFree (i := 9) (v := ?va9) rfl hsel hcl (by kernel_rfl) (by kernel_rfl) rfl (fun _ _ _ h => h) rfl rfl ?hya9 (fun hcl => ?ha9)
          case hya9 => (intro w'; go_simp; first | done | with_reducible rfl)
          simp only [Act.put, List.setIfInBounds_toArray, List.set_cons_zero, List.set_cons_succ]
          refine wpAnyK_takeFree (i := 10) (v := ?va10) rfl hsel hcl (by kernel_rfl) (by kernel_rfl) rfl (fun _ _ _ h => h) rfl rfl ?hya10 (fun hcl => ?ha10)
          case hya10 => (intro w'; go_simp; first | done | with_reducible rfl)
          simp only [Act.put, List.setIfInBounds_toArray, List.set_cons_zero, List.set_cons_succ]
          refine wpAnyK_takeNeed [16, 15, 14, 12] (i := 11) (v := ?va11) rfl hsel hcl (by kernel_rfl) (by kernel_rfl) rfl (by decide +kernel) (fun _ _ _ h => h) rfl rfl ?hya11 (fun hcl => ?ha11)
          case hya11 => (rintro w' rfl; go_simp; first | done | with_reducible rfl)
          simp only [Act.put, List.setIfInBounds_toArray, List.set_cons_zero, List.set_cons_succ]
          refine wpAnyK_takeFree (i := 12) (v := ?va12) rfl hsel hcl (by kernel_rfl) (by kernel_rfl) rfl (fun _ _ _ h => h) rfl rfl ?hya12 (fun hcl => ?ha12)
          case hya12 => (intro w'; go_simp; first | done | with_reducible rfl)
          simp only [Act.put, List.setIfInBounds_toArray, List.set_cons_zero, List.set_cons_succ]
          refine wpAnyK_takeFree (i := 13) (v := ?va13) rfl hsel hcl (by kernel_rfl) (by kernel_rfl) rfl (fun _ _ _ h => h) rfl rfl ?hya13 (fun hcl => ?ha13)
          case hya13 => (intro w'; go_simp; first | done | with_reducible rfl)
          simp only [Act.put, List.setIfInBounds_toArray, List.set_cons_zero, List.set_cons_succ]
          refine wpAnyK_takeFree (i := 14) (v := ?va14) rfl hsel hcl (by kernel_rfl) (by kernel_rfl) rfl (fun _ _ _ h => h) rfl rfl ?hya14 (fun hcl => ?ha14)
          case hya14 => (intro w'; go_simp; first | done | with_reducible rfl)
          simp only [Act.put, List.setIfInBounds_toArray, List.set_cons_zero, List.set_cons_succ]
          refine wpAnyK_takeFree (i := 15) (v := ?va15) rfl hsel hcl (by kernel_rfl) (by kernel_rfl) rfl (fun _ _ _ h => h) rfl rfl ?hya15 (fun hcl => ?ha15)
          case hya15 => (intro w'; go_simp; first | done | with_reducible rfl)
          simp only [Act.put, List.setIfInBounds_toArray, List.set_cons_zero, List.set_cons_succ]
          refine wpAnyK_takeNeed [] (i := 16) (v := ?va16) rfl hsel hcl (by kernel_rfl) (by kernel_rfl) rfl (by decide +kernel) (fun _ _ _ h => h) rfl rfl ?hya16 (fun hcl => ?ha16)
          case hya16 => (rintro w' rfl; go_simp; first | done | with_reducible rfl)
          simp only [Act.put, List.setIfInBounds_toArray, List.set_cons_zero, List.set_cons_succ]
          refine wpAnyK_takeFree (i := 17) (v := ?va17) rfl hsel hcl (by kernel_rfl) (by kernel_rfl) rfl (fun _ _ _ h => h) rfl rfl ?hya17 (fun hcl => ?ha17)
          case hya17 => (intro w'; go_simp; first | done | with_reducible rfl)
          simp only [Act.put, List.setIfInBounds_toArray, List.set_cons_zero, List.set_cons_succ]
          refine wpAnyK_takeFree (i := 18) (v := ?va18) rfl hsel hcl (by kernel_rfl) (by kernel_rfl) rfl (fun _ _ _ h => h) rfl rfl ?hya18 (fun hcl => ?ha18)
          case hya18 => (intro w'; go_simp; first | done | with_reducible rfl)
          simp only [Act.put, List.setIfInBounds_toArray, List.set_cons_zero, List.set_cons_succ]
          refine wpAnyK_takeFree (i := 19) (v := ?va19) rfl hsel hcl (by kernel_rfl) (by kernel_rfl) rfl (fun _ _ _ h => h) rfl rfl ?hya19 (fun hcl => ?ha19)
          case hya19 => (intro w'; go_simp; first | done | with_reducible rfl)
          simp only [Act.put, List.setIfInBounds_toArray, List.set_cons_zero, List.set_cons_succ]
          refine wpAnyK_takeNeed [] (i := 20) (v := ?va20) rfl hsel hcl (by kernel_rfl) (by kernel_rfl) rfl (by decide +kernel) (fun _ _ _ h => h) rfl rfl ?hya20 (fun hcl => ?ha20)
          case hya20 => (rintro w' rfl; go_simp; first | done | with_reducible rfl)
          simp only [Act.put, List.setIfInBounds_toArray, List.set_cons_zero, List.set_cons_succ]
          refine wpAnyK_store (st := 21) rfl (by decide +kernel) rfl ?_
          go_simp
          refine HCall.out.mono ?_
          rintro e V ⟨z, d, rfl, hz, lz, hV⟩
          have HVe := Lib.hid hV
          obtain ⟨hcx, hfx⟩ := HPut.out V d hV
          clear hV
          refine wpAny_one (i := 22) rfl (by decide +kernel) rfl ?_
          go_simp
          refine wpAny_one (i := 23) rfl (by decide +kernel) rfl ?_
          go_simp
          refine wpAny_done (by decide +kernel) ?_ _
          all_goals
            have HV' := Lib.hid (put_facts HS.out hlt HVe.out).1
            have HZz := Lib.hid hz
            have HLz := Lib.hid lz
            clear hz lz hcx hfx hx1 hx2 hcl
            go_wp2
            go_roundw
            case rel =>
              refine ⟨k0 + 1, putX zs i0 z, _, hk, by go_num, HV'.out.put hlt HLz.out, fun j hj => ?_, ?_, ?_⟩
              · rw [putX_other (by omega)]; exact HZ.out j hj
              · rw [putX_same, HZz.out]; exact HVal.out
              · rw [HVal.out, HFl.out, not_or, Bool.and_assoc]; rfl
            case measure => simp [intOf]; omega
        · have e : k0 = i0 := by omega
          subst e
          have hev := ent_get (uppE S) hlt hlt
          obtain ⟨q, hq⟩ : ∃ q, q = k0 * n + k0 := ⟨_, rfl⟩
          obtain ⟨r, hr⟩ : ∃ r, r = k0 * n := ⟨_, rfl⟩
          have hr4 : r ≤ 4096 := by rw [hr]; exact prod_small (by have := HN.out; omega) HN.out
          have hqM : q < M := by
            rw [hq, HM.out]
            have h1 : (k0 + 1) * n ≤ n * n := Nat.mul_le_mul_right _ hlt
            rw [Nat.add_mul, Nat.one_mul] at h1; omega
          have hm1 : IntKind.i64.wrap ((k0 : Int) * (n : Int)) = (r : Int) := wrapI (by rw [hr, Int.natCast_mul]) (by omega)
          have hm2 : IntKind.i64.wrap ((r : Int) + (k0 : Int)) = (q : Int) := wrapI (by rw [hq, ← hr, Int.natCast_add]) (by omega)
          rw [← hq] at hev
          obtain ⟨adl, rfl, -, hcl⟩ := (HE.out.ru.below HS.out.bel).at_ hev
          have hqi : (q : Int) < (M : Int) := Int.ofNat_lt.2 hqM
          obtain ⟨lv, hlv⟩ : ∃ lv, lv = uppE S k0 k0 := ⟨_, rfl⟩
          rw [← hlv] at hcl
          obtain ⟨zi, hzi⟩ : ∃ zi, zi = zs k0 := ⟨_, rfl⟩
          have hx1 := hcx
          rw [← hzi] at hx1
          have hlvl : ltC lv := by
            rw [hlv]; exact upp_lt HLtS.out hlt
          have hval : pDiv (cnC zi) (cnC lv) = pDiv (accTo (fun k => uppE S k k0) (tfw (uppE S) bb k0) 0 (bb k0) k0) (uppE S k0 k0) := by
            rw [hzi, HZi.out, hlv, fin_cn (upp_fin HF.out k0 k0 hlt hlt)]
          have HCall := Lib.hid (by_c W0.heap.size f zi lv wr.drew HS.out.look hlvl)
          have HPut := Lib.hid (fun (V : World) (d : Nat) (hV : V = (wr.drew.drewN d).setCell ⟨W0.heap.size, 0, none⟩ (.bool (f || !pFinite (pDiv (cnC zi) (cnC lv))))) => (put_facts HS.out hlt hV).2)
          have HVal := Lib.hid hval
          clear hev hq hr hr4 hlv hzi hval hcx hlvl
          go_wp2_with fail
          refine wp_region_K 17 (by kernel_rfl) (fun V => V = wr.drew) (by kernel_rfl) (fun hsel hcl => ?_)
          refine wpAnyK_takeFree (i := 0) (v := ?vc0) rfl hsel hcl (by kernel_rfl) (by kernel_rfl) rfl (fun _ _ _ h => h) rfl rfl ?hyc0 (fun hcl => ?hc0)
          case hyc0 => (intro w'; go_simp; first | done | with_reducible rfl)
          simp only [Act.put, List.setIfInBounds_toArray, List.set_cons_zero, List.set_cons_succ]
          refine wpAnyK_takeFree (i := 1) (v := ?vc1) rfl hsel hcl (by kernel_rfl) (by kernel_rfl) rfl (fun _ _ _ h => h) rfl rfl ?hyc1 (fun hcl => ?hc1)
          case hyc1 => (intro w'; go_simp; first | done | with_reducible rfl)
          simp only [Act.put, List.setIfInBounds_toArray, List.set_cons_zero, List.set_cons_succ]
          refine wpAnyK_takeFree (i := 2) (v := ?vc2) rfl hsel hcl (by kernel_rfl) (by kernel_rfl) rfl (fun _ _ _ h => h) rfl rfl ?hyc2 (fun hcl => ?hc2)
          case hyc2 => (intro w'; go_simp; first | done | with_reducible rfl)
          simp only [Act.put, List.setIfInBounds_toArray, List.set_cons_zero, List.set_cons_succ]
          refine wpAnyK_takeFree (i := 3) (v := ?vc3) rfl hsel hcl (by kernel_rfl) (by kernel_rfl) rfl (fun _ _ _ h => h) rfl rfl ?hyc3 (fun hcl => ?hc3)
          case hyc3 => (intro w'; go_simp; first | done | with_reducible rfl)
          simp only [Act.put, List.setIfInBounds_toArray, List.set_cons_zero, List.set_cons_succ]
          refine wpAnyK_takeFree (i := 4) (v := ?vc4) rfl hsel hcl (by kernel_rfl) (by kernel_rfl) rfl (fun _ _ _ h => h) rfl rfl ?hyc4 (fun hcl => ?hc4)
          case hyc4 => (intro w'; go_simp; first | done | with_reducible rfl)
          simp only [Act.put, List.setIfInBounds_toArray, List.set_cons_zero, List.set_cons_succ]
          refine wpAnyK_takeFree (i := 5) (v := ?vc5) rfl hsel hcl (by kernel_rfl) (by kernel_rfl) rfl (fun _ _ _ h => h) rfl rfl ?hyc5 (fun hcl => ?hc5)
          case hyc5 => (intro w'; go_simp; first | done | with_reducible rfl)
          simp only [Act.put, List.setIfInBounds_toArray, List.set_cons_zero, List.set_cons_succ]
          refine wpAnyK_takeNeed [] (i := 6) (v := ?vc6) rfl hsel hcl (by kernel_rfl) (by kernel_rfl) rfl (by decide +kernel) (fun _ _ _ h => h) rfl rfl ?hyc6 (fun hcl => ?hc6)
          case hyc6 => (rintro w' rfl; go_simp; first | done | with_reducible rfl)
          simp only [Act.put, List.setIfInBounds_toArray, List.set_cons_zero, List.set_cons_succ]
          refine wpAnyK_takeFree (i := 7) (v := ?vc7) rfl hsel hcl (by kernel_rfl) (by kernel_rfl) rfl (fun _ _ _ h => h) rfl rfl ?hyc7 (fun hcl => ?hc7)
          case hyc7 => (intro w'; go_simp; first | done | with_reducible rfl)
          simp only [Act.put, List.setIfInBounds_toArray, List.set_cons_zero, List.set_cons_succ]
          refine wpAnyK_takeNeed [16, 15] (i := 8) (v := ?vc8) rfl hsel hcl (by kernel_rfl) (by kernel_rfl) rfl (by decide +kernel) (fun _ _ _ h => h) rfl rfl ?hyc8 (fun hcl => ?hc8)
          case hyc8 => (rintro w' rfl; go_simp; first | done | with_reducible rfl)
          simp only [Act.put, List.setIfInBounds_toArray, List.set_cons_zero, List.set_cons_succ]
          refine wpAnyK_takeFree (i := 9) (v := ?vc9) rfl hsel hcl (by kernel_rfl) (by kernel_rfl) rfl (fun _ _ _ h => h) rfl rfl ?hyc9 (fun hcl => ?hc9)
          case hyc9 => (intro w'; go_simp; first | done | with_reducible rfl)
          simp only [Act.put, List.setIfInBounds_toArray, List.set_cons_zero, List.set_cons_succ]
          refine wpAnyK_takeFree (i := 10) (v := ?vc10) rfl hsel hcl (by kernel_rfl) (by kernel_rfl) rfl (fun _ _ _ h => h) rfl rfl ?hyc10 (fun hcl => ?hc10)
          case hyc10 => (intro w'; go_simp; first | done | with_reducible rfl)
          simp only [Act.put, List.setIfInBounds_toArray, List.set_cons_zero, List.set_cons_succ]
          refine wpAnyK_takeNeed [16, 15, 14, 12] (i := 11) (v := ?vc11) rfl hsel hcl (by kernel_rfl) (by kernel_rfl) rfl (by decide +kernel) (fun _ _ _ h => h) rfl rfl ?hyc11 (fun hcl => ?hc11)
          case hyc11 => (rintro w' rfl; go_simp; first | done | with_reducible rfl)
          simp only [Act.put, List.setIfInBounds_toArray, List.set_cons_zero, List.set_cons_succ]
          refine wpAnyK_takeFree (i := 12) (v := ?vc12) rfl hsel hcl (by kernel_rfl) (by kernel_rfl) rfl (fun _ _ _ h => h) rfl rfl ?hyc12 (fun hcl => ?hc12)
          case hyc12 => (intro w'; go_simp; first | done | with_reducible rfl)
          simp only [Act.put, List.setIfInBounds_toArray, List.set_cons_zero, List.set_cons_succ]
          refine wpAnyK_takeFree (i := 13) (v := ?vc13) rfl hsel hcl (by kernel_rfl) (by kernel_rfl) rfl (fun _ _ _ h => h) rfl rfl ?hyc13 (fun hcl => ?hc13)
          case hyc13 => (intro w'; go_simp; first | done | with_reducible rfl)
          simp only [Act.put, List.setIfInBounds_toArray, List.set_cons_zero, List.set_cons_succ]
          refine wpAnyK_takeFree (i := 14) (v := ?vc14) rfl hsel hcl (by kernel_rfl) (by kernel_rfl) rfl (fun _ _ _ h => h) rfl rfl ?hyc14 (fun hcl => ?hc14)
          case hyc14 => (intro w'; go_simp; first | done | with_reducible rfl)
          simp only [Act.put, List.setIfInBounds_toArray, List.set_cons_zero, List.set_cons_succ]
          refine wpAnyK_takeFree (i := 15) (v := ?vc15) rfl hsel hcl (by kernel_rfl) (by kernel_rfl) rfl (fun _ _ _ h => h) rfl rfl ?hyc15 (fun hcl => ?hc15)
          case hyc15 => (intro w'; go_simp; first | done | with_reducible rfl)
          simp only [Act.put, List.setIfInBounds_toArray, List.set_cons_zero, List.set_cons_succ]
          refine wpAnyK_takeNeed [] (i := 16) (v := ?vc16) rfl hsel hcl (by kernel_rfl) (by kernel_rfl) rfl (by decide +kernel) (fun _ _ _ h => h) rfl rfl ?hyc16 (fun hcl => ?hc16)
          case hyc16 => (rintro w' rfl; go_simp; first | done | with_reducible rfl)
          simp only [Act.put, List.setIfInBounds_toArray, List.set_cons_zero, List.set_cons_succ]
          refine wpAnyK_store (st := 17) rfl (by decide +kernel) rfl ?_
          go_simp
          refine HCall.out.mono ?_
          rintro e V ⟨z, d, rfl, hz, lz, hV⟩
          have HVe := Lib.hid hV
          obtain ⟨hcx, hfx⟩ := HPut.out V d hV
          clear hV
          refine wpAny_one (i := 18) rfl (by decide +kernel) rfl ?_
          go_simp
          refine wpAny_one (i := 19) rfl (by decide +kernel) rfl ?_
          go_simp
          refine wpAny_done (by decide +kernel) ?_ _
          all_goals
            have HV' := Lib.hid (put_facts HS.out hlt HVe.out).1
            have HZz := Lib.hid hz
            have HLz := Lib.hid lz
            clear hz lz hcx hfx hx1 hcl
            go_wp2
            go_roundw
            case rel =>
              refine ⟨k0 + 1, putX zs k0 z, _, hlt, by go_num, HV'.out.put hlt HLz.out, fun j hj => ?_, ?_⟩
              · by_cases ej : j = k0
                · subst ej; rw [tfw, putX_same, putX_same, HZz.out, HVal.out]
                · rw [tfw, putX_other ej, putX_other ej]; exact HZ.out j (by omega)
              · rw [HVal.out, HFl.out, not_or, Bool.and_assoc]; rfl
            case measure => simp [intOf]; omega
    · have e : n = i0 := by omega
      subst e
      obtain ⟨Y, hY⟩ : ∃ Y, Y = tfw (uppE S) bb n := ⟨_, rfl⟩
      obtain ⟨g0, hg0⟩ : ∃ g0, g0 = tfwFine (uppE S) bb n := ⟨_, rfl⟩
      rw [← hY] at HZ
      rw [← hg0] at HFl
      have HSol := Lib.hid (show (traOk n S bl = (g0 && tbwFine (lowE S) n Y n)) ∧ traL n S bl = (List.range n).map (tpl (lowE S) S.o n Y n) by
        rw [hg0, hY, HBB.out]; exact ⟨rfl, rfl⟩)
      rename World => V1
      have hmk := run_make_row' (P := Tryz.prog) 27 42 (.complex .f64 0 0) 16 Tryz.underlying27 infoNum rfl .i64 .i64 n (by have := HN.out; omega) (by have := HN.out; omega)
      have HT0 := Lib.hid (show SvT W0 (V1.alloc (.cells (madeCells #[.complex .f64 0 0] n) 42)) V1.heap.size n zs (fun _ => (0, 0)) f from
        { s := { bel := HS.out.bel.new (Nat.le_refl _) _
                 look := row_alloc HS.out.look
                 x := row_alloc HS.out.x
                 lt := HS.out.lt }
          lo := row_lt HS.out.x
          xr := by
            rw [show ((List.range n).map fun _ => ((0, 0) : C)) = List.replicate n (0, 0) by rw [List.map_const', List.length_range], ← mk_nums]
            exact heap_alloc_new _ _ })
      have s0b : ∀ o, (V1.alloc o).cell? ⟨W1.heap.size, 0, none⟩ = some (.int .i64 (n : Nat)) := fun o => (facts.out _ (HS.out.bel.new (Nat.le_refl _) o)).1
      clear hY hg0 a2 a3
      go_wp2
      clear s0b hmk a0
      go_loopw [14] (fun i wr => ∃ (j : Nat) (zs xs : Nat → C) (f : Bool), j ≤ n ∧ i = .int .i64 ((n : Int) - 1 - (j : Int)) ∧ SvT W0 wr V1.heap.size n zs xs f ∧ (∀ q, q < n → cnC (zs q) = tbw (lowE S) n Y j q) ∧ (∀ q, cnC (xs q) = tpl (lowE S) S.o n Y j q) ∧ f = !(g0 && tbwFine (lowE S) n Y j)) (fun i _ => (intOf i + 1).toNat)
      case atStart => exact ⟨0, zs, _, f, Nat.zero_le _, by go_num, HT0.out, HZ.out, fun q => fin_cn zero_finC, by rw [HFl.out]; simp [tbwFine]⟩
      case round =>
        obtain ⟨j, zs, xs, f, hj, rfl, hs, hz, hx, hf⟩ := hrel
        have HS := Lib.hid hs
        have HZ := Lib.hid hz
        have HX := Lib.hid hx
        have HFl := Lib.hid hf
        obtain ⟨a0, -, -, -⟩ := facts.out wr hs.s.bel
        have hn65 : (n : Int) ≤ 64 := by have := HN.out; omega
        clear hs hz hx hf
        by_cases hlt : j < n
        · obtain ⟨i, hi⟩ : ∃ i : Nat, i = n - 1 - j := ⟨_, rfl⟩
          have hii : (n : Int) - 1 - (j : Int) = (i : Int) := by omega
          have hin : i < n := by omega
          have hini : (i : Int) < (n : Int) := Int.ofNat_lt.2 hin
          have hi1 : n - j = i + 1 := by omega
          have hij : i + 1 + j = n := by omega
          have HI := Lib.hid hi
          have HI1 := Lib.hid hi1
          have HIJ := Lib.hid hij
          have hib : (i : Int) + 1 ≤ 65 := by omega
          rw [hii]
          clear hi hi1 hii hij
          go_wp2
          go_loopw [15] (fun k wr => ∃ (m : Nat) (zs : Nat → C) (f : Bool), m ≤ j ∧ k = .int .i64 ((i + 1 + m : Nat) : Int) ∧ SvT W0 wr V1.heap.size n zs xs f ∧ (∀ q, q < n → q ≠ i → cnC (zs q) = tbw (lowE S) n Y j q) ∧ cnC (zs i) = accTo (fun k => lowE S k i) (tbw (lowE S) n Y j) (i + 1) (tbw (lowE S) n Y j i) m ∧ f = !(g0 && (tbwFine (lowE S) n Y j && accFine (fun k => lowE S k i) (tbw (lowE S) n Y j) (i + 1) (tbw (lowE S) n Y j i) m))) (fun k _ => n - (intOf k).toNat)
          case atStart => exact ⟨0, zs, f, Nat.zero_le _, by go_num, HS.out, fun q hq _ => HZ.out q hq, HZ.out i hin, by rw [HFl.out]; simp [accFine]⟩
          case round =>
            obtain ⟨m, zs, f, hm, rfl, hs, hz, hzi, hf⟩ := hrel
            have HS := Lib.hid hs
            have HZ := Lib.hid hz
            have HZi := Lib.hid hzi
            have HFl := Lib.hid hf
            obtain ⟨a0, a1, -, a3⟩ := facts.out wr hs.s.bel
            clear hs hz hzi hf
            have hcx := HS.out.s.cellX hin
            have hfx := HS.out.s.frozenX i
            by_cases hk : m < j
            · obtain ⟨k, hk'⟩ : ∃ k, k = i + 1 + m := ⟨_, rfl⟩
              rw [← hk']
              have hkn : k < n := by have := HIJ.out; omega
              have hkni : (k : Int) < (n : Int) := Int.ofNat_lt.2 hkn
              have hkb : (k : Int) + 1 ≤ 65 := by omega
              have hki : k ≠ i := by omega
              have hev := ent_get (lowE S) hkn hin
              obtain ⟨q, hq⟩ : ∃ q, q = k * n + i := ⟨_, rfl⟩
              obtain ⟨r, hr⟩ : ∃ r, r = k * n := ⟨_, rfl⟩
              have hr4 : r ≤ 4096 := by rw [hr]; exact prod_small (by have := HN.out; omega) HN.out
              have hqM : q < M := by
                rw [hq, HM.out]
                have h1 : (k + 1) * n ≤ n * n := Nat.mul_le_mul_right _ hkn
                rw [Nat.add_mul, Nat.one_mul] at h1; omega
              have hm1 : IntKind.i64.wrap ((k : Int) * (n : Int)) = (r : Int) := wrapI (by rw [hr, Int.natCast_mul]) (by omega)
              have hm2 : IntKind.i64.wrap ((r : Int) + (i : Int)) = (q : Int) := wrapI (by rw [hq, ← hr, Int.natCast_add]) (by omega)
              rw [← hq] at hev
              obtain ⟨adl, rfl, -, hcl⟩ := (HE.out.rl.below HS.out.s.bel).at_ hev
              have hqi : (q : Int) < (M : Int) := Int.ofNat_lt.2 hqM
              obtain ⟨lv, hlv⟩ : ∃ lv, lv = lowE S k i := ⟨_, rfl⟩
              rw [← hlv] at hcl
              have hx2 := HS.out.s.cellX hkn
              obtain ⟨zi, hzi⟩ : ∃ zi, zi = zs i := ⟨_, rfl⟩
              obtain ⟨zk, hzk⟩ : ∃ zk, zk = zs k := ⟨_, rfl⟩
              rw [← hzk] at hx2
              have hx1 := hcx
              rw [← hzi] at hx1
              have hval : pSub (cnC zi) (pMul (cnC lv) (cnC zk)) = accTo (fun k => lowE S k i) (tbw (lowE S) n Y j) (i + 1) (tbw (lowE S) n Y j i) (m + 1) := by
                rw [hzi, HZi.out, hlv, fin_cn (low_fin HF.out k i hkn hin), hzk, HZ.out k hkn hki, hk']
                rfl
              have HCall := Lib.hid (less_c W0.heap.size f zi lv zk wr.drew HS.out.s.look)
              have HPut := Lib.hid (fun (V : World) (d : Nat) (hV : V = (wr.drew.drewN d).setCell ⟨W0.heap.size, 0, none⟩ (.bool (f || !pFinite (pSub (cnC zi) (pMul (cnC lv) (cnC zk)))))) => (put_factsT HS.out hin hV).2)
              have HVal := Lib.hid hval
              have HK := Lib.hid hk'
              clear hev hq hr hr4 hlv hzi hzk hval hk' hcx a3
              go_wp2_with fail
              refine wp_region_K 21 (by kernel_rfl) (fun V => V = wr.drew) (by kernel_rfl) (fun hsel hcl => ?_)
              refine wpAnyK_takeFree (i := 0) (v := ?vb0) rfl hsel hcl (by kernel_rfl) (by kernel_rfl) rfl (fun _ _ _ h => h) rfl rfl ?hyb0 (fun hcl => ?hb0)
              case hyb0 => (intro w'; go_simp; first | done | with_reducible rfl)
              simp only [Act.put, List.setIfInBounds_toArray, List.set_cons_zero, List.set_cons_succ]
              refine wpAnyK_takeFree (i := 1) (v := ?vb1) rfl hsel hcl (by kernel_rfl) (by kernel_rfl) rfl (fun _ _ _ h => h) rfl rfl ?hyb1 (fun hcl => ?hb1)
              case hyb1 => (intro w'; go_simp; first | done | with_reducible rfl)
              simp only [Act.put, List.setIfInBounds_toArray, List.set_cons_zero, List.set_cons_succ]
              refine wpAnyK_takeFree (i := 2) (v := ?vb2) rfl hsel hcl (by kernel_rfl) (by kernel_rfl) rfl (fun _ _ _ h => h) rfl rfl ?hyb2 (fun hcl => ?hb2)
              case hyb2 => (intro w'; go_simp; first | done | with_reducible rfl)
              simp only [Act.put, List.setIfInBounds_toArray, List.set_cons_zero, List.set_cons_succ]
              refine wpAnyK_takeFree (i := 3) (v := ?vb3) rfl hsel hcl (by kernel_rfl) (by kernel_rfl) rfl (fun _ _ _ h => h) rfl rfl ?hyb3 (fun hcl => ?hb3)
              case hyb3 => (intro w'; go_simp; first | done | with_reducible rfl)
              simp only [Act.put, List.setIfInBounds_toArray, List.set_cons_zero, List.set_cons_succ]
              refine wpAnyK_takeFree (i := 4) (v := ?vb4) rfl hsel hcl (by kernel_rfl) (by kernel_rfl) rfl (fun _ _ _ h => h) rfl rfl ?hyb4 (fun hcl => ?hb4)
              case hyb4 => (intro w'; go_simp; first | done | with_reducible rfl)
              simp only [Act.put, List.setIfInBounds_toArray, List.set_cons_zero, List.set_cons_succ]
              refine wpAnyK_takeFree (i := 5) (v := ?vb5) rfl hsel hcl (by kernel_rfl) (by kernel_rfl) rfl (fun _ _ _ h => h) rfl rfl ?hyb5 (fun hcl => ?hb5)
              case hyb5 => (intro w'; go_simp; first | done | with_reducible rfl)
              simp only [Act.put, List.setIfInBounds_toArray, List.set_cons_zero, List.set_cons_succ]
              refine wpAnyK_takeNeed [] (i := 6) (v := ?vb6) rfl hsel hcl (by kernel_rfl) (by kernel_rfl) rfl (by decide +kernel) (fun _ _ _ h => h) rfl rfl ?hyb6 (fun hcl => ?hb6)
              case hyb6 => (rintro w' rfl; go_simp; first | done | with_reducible rfl)
              simp only [Act.put, List.setIfInBounds_toArray, List.set_cons_zero, List.set_cons_succ]
              refine wpAnyK_takeFree (i := 7) (v := ?vb7) rfl hsel hcl (by kernel_rfl) (by kernel_rfl) rfl (fun _ _ _ h => h) rfl rfl ?hyb7 (fun hcl => ?hb7)
              case hyb7 => (intro w'; go_simp; first | done | with_reducible rfl)
              simp only [Act.put, List.setIfInBounds_toArray, List.set_cons_zero, List.set_cons_succ]
              refine wpAnyK_takeNeed [16, 15] (i := 8) (v := ?vb8) rfl hsel hcl (by kernel_rfl) (by kernel_rfl) rfl (by decide +kernel) (fun _ _ _ h => h) rfl rfl ?hyb8 (fun hcl => ?hb8)
              case hyb8 => (rintro w' rfl; go_simp; first | done | with_reducible rfl)
              simp only [Act.put, List.setIfInBounds_toArray, List.set_cons_zero, List.set_cons_succ]
              refine wpAnyK_takeFree (i := 9) (v := ?vb9) rfl hsel hcl (by kernel_rfl) (by kernel_rfl) rfl (fun _ _ _ h => h) rfl rfl ?hyb9 (fun hcl => ?hb9)
              case hyb9 => (intro w'; go_simp; first | done | with_reducible rfl)
              simp only [Act.put, List.setIfInBounds_toArray, List.set_cons_zero, List.set_cons_succ]
              refine wpAnyK_takeFree (i := 10) (v := ?vb10) rfl hsel hcl (by kernel_rfl) (by kernel_rfl) rfl (fun _ _ _ h => h) rfl rfl ?hyb10 (fun hcl => ?hb10)
              case hyb10 => (intro w'; go_simp; first | done | with_reducible rfl)
              simp only [Act.put, List.setIfInBounds_toArray, List.set_cons_zero, List.set_cons_succ]
              refine wpAnyK_takeNeed [16, 15, 14, 12] (i := 11) (v := ?vb11) rfl hsel hcl (by kernel_rfl) (by kernel_rfl) rfl (by decide +kernel) (fun _ _ _ h => h) rfl rfl ?hyb11 (fun hcl => ?hb11)
              case hyb11 => (rintro w' rfl; go_simp; first | done | with_reducible rfl)
              simp only [Act.put, List.setIfInBounds_toArray, List.set_cons_zero, List.set_cons_succ]
              refine wpAnyK_takeFree (i := 12) (v := ?vb12) rfl hsel hcl (by kernel_rfl) (by kernel_rfl) rfl (fun _ _ _ h => h) rfl rfl ?hyb12 (fun hcl => ?hb12)
              case hyb12 => (intro w'; go_simp; first | done | with_reducible rfl)
              simp only [Act.put, List.setIfInBounds_toArray, List.set_cons_zero, List.set_cons_succ]
              refine wpAnyK_takeFree (i := 13) (v := ?vb13) rfl hsel hcl (by kernel_rfl) (by kernel_rfl) rfl (fun _ _ _ h => h) rfl rfl ?hyb13 (fun hcl => ?hb13)
              case hyb13 => (intro w'; go_simp; first | done | with_reducible rfl)
              simp only [Act.put, List.setIfInBounds_toArray, List.set_cons_zero, List.set_cons_succ]
              refine wpAnyK_takeFree (i := 14) (v := ?vb14) rfl hsel hcl (by kernel_rfl) (by kernel_rfl) rfl (fun _ _ _ h => h) rfl rfl ?hyb14 (fun hcl => ?hb14)
              case hyb14 => (intro w'; go_simp; first | done | with_reducible rfl)
              simp only [Act.put, List.setIfInBounds_toArray, List.set_cons_zero, List.set_cons_succ]
              refine wpAnyK_takeFree (i := 15) (v := ?vb15) rfl hsel hcl (by kernel_rfl) (by kernel_rfl) rfl (fun _ _ _ h => h) rfl rfl ?hyb15 (fun hcl => ?hb15)
              case hyb15 => (intro w'; go_simp; first | done | with_reducible rfl)
              simp only [Act.put, List.setIfInBounds_toArray, List.set_cons_zero, List.set_cons_succ]
              refine wpAnyK_takeNeed [] (i := 16) (v := ?vb16) rfl hsel hcl (by kernel_rfl) (by kernel_rfl) rfl (by decide +kernel) (fun _ _ _ h => h) rfl rfl ?hyb16 (fun hcl => ?hb16)
              case hyb16 => (rintro w' rfl; go_simp; first | done | with_reducible rfl)
              simp only [Act.put, List.setIfInBounds_toArray, List.set_cons_zero, List.set_cons_succ]
              refine wpAnyK_takeFree (i := 17) (v := ?vb17) rfl hsel hcl (by kernel_rfl) (by kernel_rfl) rfl (fun _ _ _ h => h) rfl rfl ?hyb17 (fun hcl => ?hb17)
              case hyb17 => (intro w'; go_simp; first | done | with_reducible rfl)
              simp only [Act.put, List.setIfInBounds_toArray, List.set_cons_zero, List.set_cons_succ]
              refine wpAnyK_takeFree (i := 18) (v := ?vb18) rfl hsel hcl (by kernel_rfl) (by kernel_rfl) rfl (fun _ _ _ h => h) rfl rfl ?hyb18 (fun hcl => ?hb18)
              case hyb18 => (intro w'; go_simp; first | done | with_reducible rfl)
              simp only [Act.put, List.setIfInBounds_toArray, List.set_cons_zero, List.set_cons_succ]
              refine wpAnyK_takeFree (i := 19) (v := ?vb19) rfl hsel hcl (by kernel_rfl) (by kernel_rfl) rfl (fun _ _ _ h => h) rfl rfl ?hyb19 (fun hcl => ?hb19)
              case hyb19 => (intro w'; go_simp; first | done | with_reducible rfl)
              simp only [Act.put, List.setIfInBounds_toArray, List.set_cons_zero, List.set_cons_succ]
              refine wpAnyK_takeNeed [] (i := 20) (v := ?vb20) rfl hsel hcl (by kernel_rfl) (by kernel_rfl) rfl (by decide +kernel) (fun _ _ _ h => h) rfl rfl ?hyb20 (fun hcl => ?hb20)
              case hyb20 => (rintro w' rfl; go_simp; first | done | with_reducible rfl)
              simp only [Act.put, List.setIfInBounds_toArray, List.set_cons_zero, List.set_cons_succ]
              refine wpAnyK_store (st := 21) rfl (by decide +kernel) rfl ?_
              go_simp
              refine HCall.out.mono ?_
              rintro e V ⟨z, d, rfl, hz, lz, hV⟩
              have HVe := Lib.hid hV
              obtain ⟨hcx, hfx⟩ := HPut.out V d hV
              clear hV
              refine wpAny_one (i := 22) rfl (by decide +kernel) rfl ?_
              go_simp
              refine wpAny_one (i := 23) rfl (by decide +kernel) rfl ?_
              go_simp
              refine wpAny_done (by decide +kernel) ?_ _
              all_goals
                have HV' := Lib.hid (put_factsT HS.out hin HVe.out).1
                have HZz := Lib.hid hz
                have HLz := Lib.hid lz
                clear hz lz hcx hfx hx1 hx2 hcl
                go_wp2
                go_roundw
                case rel =>
                  refine ⟨m + 1, putX zs i z, _, hk, by rw [HK.out]; go_num, HV'.out.put hin HLz.out, fun q hq hne => ?_, ?_, ?_⟩
                  · rw [putX_other hne]; exact HZ.out q hq hne
                  · rw [putX_same, HZz.out]; exact HVal.out
                  · rw [HVal.out, HFl.out, not_or, Bool.and_assoc, Bool.and_assoc]; rfl
                case measure => have := HK.out; simp [intOf]; omega
            · have e : m = j := by omega
              subst e
              rw [HIJ.out]
              obtain ⟨p, hp⟩ : ∃ p, p = S.o i := ⟨_, rfl⟩
              have hpn : p < n := by rw [hp]; exact HP.out.1 _ hin
              have hpi : (p : Int) < (n : Int) := Int.ofNat_lt.2 hpn
              have hov := ord_get S.o hin
              rw [← hp] at hov
              obtain ⟨ado, rfl, -, hco⟩ := (HE.out.ro.below HS.out.s.bel).at_ hov
              obtain ⟨zi, hzi⟩ : ∃ zi, zi = zs i := ⟨_, rfl⟩
              rw [← hzi] at hcx
              have cR := HS.out.cellR hpn
              have fR := HS.out.frozenR p
              have HS2 := Lib.hid (HS.out.drew.lay (p := p) zi)
              have HPp := Lib.hid hp
              have HZz := Lib.hid hzi
              clear hfx hp hov hzi a1
              go_wp2_with fail
              go_still_tail 11, (by kernel_rfl)
              change wpList _ _ _ _ _ wr.drew
              have d1f : wr.drew.frozen? ⟨V1.heap.size, p, none⟩ = false := fR
              obtain ⟨v1, d1⟩ : ∃ v, wr.drew.cell? ⟨V1.heap.size, p, none⟩ = some v := ⟨_, cR⟩
              go_wp2
              go_roundw
              case rel =>
                have hzz : cnC zi = tbw (lowE S) n Y (m + 1) (n - 1 - m) := by
                  show _ = putX (tbw (lowE S) n Y m) (n - 1 - m) _ (n - 1 - m)
                  rw [putX_same, HZz.out, ← HI.out, HI1.out]; exact HZi.out
                refine ⟨m + 1, zs, putX xs p zi, _, hlt, by have := HI.out; go_num, HS2.out, fun q hq => ?_, fun q => ?_, ?_⟩
                · by_cases eq : q = i
                  · subst eq
                    rw [← HZz.out, hzz, ← HI.out]
                  · show _ = putX (tbw (lowE S) n Y m) (n - 1 - m) _ q
                    rw [← HI.out, putX_other eq]; exact HZ.out q hq eq
                · show _ = putX (tpl (lowE S) S.o n Y m) (S.o (n - 1 - m)) _ q
                  rw [← HI.out, ← HPp.out]
                  by_cases eq : q = p
                  · subst eq; rw [putX_same, putX_same, hzz, ← HI.out]
                  · rw [putX_other eq, putX_other eq]; exact HX.out q
                · rw [HFl.out]
                  show _ = !(g0 && (tbwFine (lowE S) n Y m && accFine (fun k => lowE S k (n - 1 - m)) (tbw (lowE S) n Y m) (n - m) (tbw (lowE S) n Y m (n - 1 - m)) m))
                  rw [← HI.out, HI1.out]
              case measure => simp [intOf]
        · have e : j = n := by omega
          subst e
          obtain ⟨so, hso⟩ : ∃ so, so = traOk j S bl := ⟨_, rfl⟩
          have hfo : f = !so := HFl.out.trans (by rw [hso]; exact congrArg (fun b => !b) HSol.out.1.symm)
          have hlk := HS.out.s.look
          have hl0 : wr.cell? ⟨W0.heap.size, 0, none⟩ = some (.bool f) := by rw [cell_of_row wr W0.heap.size 0 _ _ _ hlk]; rfl
          have hneg : ((j : Int) - 1 - (j : Int)) = -1 := by omega
          rw [hneg]
          rw [hfo] at hl0
          have HBe := Lib.hid (B0.out.trans (HS.out.s.bel.mono B0.out.size))
          have HSo := Lib.hid hso
          clear hso hfo hlk hneg
          cases so
          · go_wp2
            go_ret2
            rw [HEr.out, HRs.out, ← HSo.out]
            exact ⟨_, rfl, World.ownsRow_nil _ _ _ _, HBe.out⟩
          · have hx : (List.range j).map xs = traL j S bl := by
              rw [HSol.out.2]
              refine List.map_congr_left fun q hq => ?_
              have hq := List.mem_range.1 hq
              have hfi : pFinite (tpl (lowE S) S.o j Y j q) = true := by
                have h := tra_fin (Lo := lowE S) (Up := uppE S) (o := S.o) (b := bOf bl) (n := j) HSo.out.symm q
                have e := congrArg (fun l : List C => l[q]?) HSol.out.2
                simp only [traL, List.getElem?_map, List.getElem?_range hq, Option.map_some, Option.some.injEq] at e
                rw [← e]; exact h
              exact like.fin (.inr (HX.out q)) hfi
            have HXx := Lib.hid hx
            clear hx
            go_wp2
            go_ret2
            rw [HEr.out, HRs.out, ← HSo.out]
            refine ⟨_, rfl, ?_, HBe.out⟩
            show World.ownsRow _ _ _ _ _ (traL j S bl).length (nums (traL j S bl))
            have hxx := HS.out.xr
            rw [HXx.out] at hxx
            have hll : (traL j S bl).length = j := by simp [traL]
            have hj64 := HN.out
            have hb0 := B0.out.size
            have hlo := HS.out.lo
            exact ⟨by simp [nums], .inr ⟨V1.heap.size, j, _, by simp [hll], by omega, hxx, by omega, by unfold maxLen; omega, by simp [nums, hll], by simp [nums, hll]; exact List.take_of_length_le (by simp [hll])⟩⟩
end Go.Proofs.YtglmmidhkpomgaaGreat
