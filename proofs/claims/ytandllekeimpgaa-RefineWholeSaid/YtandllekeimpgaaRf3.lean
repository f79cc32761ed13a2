/- Layer 11: what a solution leaves over: the good case. -/
import Derived.Test.YtandllekeimpgaaRf2
import Derived.Test.YtandllekeimpgaaRf1
import Derived.Test.YtandllekeimpgaaMX1
import Derived.Test.YtandllekeimpgaaS02
import Derived.Test.YtandllekeimpgaaExt
import Derived.Deep.DeepCutAuto
import Derived.Deep.AppendLies
import Derived.Deep.OwnRows
import Derived.Great.Walk
namespace Go.Proofs.Ytandllekeimpgaa
open Go.RowKit Fl Ieee
set_option maxRecDepth 20000
attribute [local go_sem] run_store_float run_store_complex Fl.order_self Fl.order_self' Fl.order_eq Fl.order_ne Fl.order_lt Fl.order_gt
/-- What is handed in lies in each world that has grown from W0. -/
structure LfI (w W0 : World) (r c : Nat) (A Ax Ab : Option Addr) (m x b : List C) (cap : Nat) : Prop where
  box : W0.heap[w.heap.size]? = some (.cells #[.int .i64 (r : Nat), .int .i64 (c : Nat), .slice A m.length cap] 28)
  bel : Below w.heap.size w W0
  sz : W0.heap.size = w.heap.size + 1
  rm : Reads W0 W0.heap.size A (nums m)
  rx : Reads W0 W0.heap.size Ax (nums x)
  rb : Reads W0 W0.heap.size Ab (nums b)
theorem LfI.cells {w W0 V : World} {r c : Nat} {A Ax Ab : Option Addr} {m x b : List C} {cap : Nat} (h : LfI w W0 r c A Ax Ab m x b cap) (hV : Below W0.heap.size W0 V) :
    V.cell? ⟨w.heap.size, 0, none⟩ = some (.int .i64 (r : Nat)) ∧ V.cell? ⟨w.heap.size, 1, none⟩ = some (.int .i64 (c : Nat)) ∧ V.cell? ⟨w.heap.size, 2, none⟩ = some (.slice A m.length cap) := by
  have hrow : V.heap[w.heap.size]? = some (.cells #[.int .i64 (r : Nat), .int .i64 (c : Nat), .slice A m.length cap] 28) := by
    rw [hV.block _ (by have := h.sz; omega)]; exact h.box
  obtain ⟨c0, c1, c2, -⟩ := box3 hrow
  exact ⟨c0, c1, c2⟩
theorem fin_cnT {z : C} (h : pFinite z = true) : cn .f64 z.1 = z.1 ∧ cn .f64 z.2 = z.2 := by
  unfold pFinite at h
  rw [Bool.and_eq_true] at h
  have h1 := of_decide_eq_true h.1
  have h2 := of_decide_eq_true h.2
  exact ⟨cn_of_not (k := .f64) (decide_eq_false (show ¬ double.infRung < rung double z.1 by omega)), cn_of_not (k := .f64) (decide_eq_false (show ¬ double.infRung < rung double z.2 by omega))⟩
theorem LfI.num {W0 V : World} {A : Option Addr} {l : List C} {i : Nat} (h : Reads W0 W0.heap.size A (nums l)) (hV : Below W0.heap.size W0 V) (hi : i < l.length) : ∃ ad, A = some ad ∧ V.cell? (ad.add i) = some (.complex .f64 (atL l i).1 (atL l i).2) := by
  obtain ⟨z, hz⟩ := some_of_lt (l := l) (k := i) hi
  have hv : (nums l)[i]? = some (.complex .f64 z.1 z.2) := by simp [nums, hz]
  obtain ⟨ad, e, hab, hc⟩ := h.at_ hv
  have ea : atL l i = z := by unfold atL; rw [List.getD_eq_getElem?_getD, hz]; rfl
  refine ⟨ad, e, ?_⟩
  rw [ea, hV.cell (p := ad.add i) (by
    have h2 : (ad.add i).block = ad.block := by unfold Addr.add; split <;> rfl
    rw [h2]; exact hab)]
  exact hc
/-- The lists that stand after k columns. -/
structure TlK (wr W : World) (B b : Nat) (R X : Nat → C) (r : C) (k : Nat) : Prop where
  t : ∃ V L, Tal W B b V L ∧ (∀ j, j < 4 → (L j).map (cn .f64) = colT R X r k j) ∧ (k = 0 → V 1 = .slice none 0 0 ∧ V 3 = .slice none 0 0)
  bel : Below B wr W
set_option maxHeartbeats 400000 in
theorem Left_good (r c : Nat) (A Ax Ab : Option Addr) (m x b : List C) (cap cx cb : Nat) (w : World) (hr : r ≤ 64) (hc : c ≤ 64) (hm : m.length = r * c) (hx : x.length = c) (hb : b.length = r) (hcap : m.length ≤ cap) (hcx : x.length ≤ cx) (hcb : b.length ≤ cb)
    (fm : ∀ z ∈ m, pFinite z = true) (fx : ∀ z ∈ x, pFinite z = true) (fb : ∀ z ∈ b, pFinite z = true) (lm : ltCs m) (lx : ltCs x) (lb : ltCs b) (rm : Reads w w.heap.size A (nums m)) (rx : Reads w w.heap.size Ax (nums x)) (rb : Reads w w.heap.size Ab (nums b)) :
    Calls Try.prog 12 #[mval r c (.slice A m.length cap), .slice Ax x.length cx, .slice Ab b.length cb] w (RetLf (if (leftL r c m x b).all pFinite then leftL r c m x b else []) (if (leftL r c m x b).all pFinite then 0 else 6) w) := by
  obtain ⟨i0, hi0, hz0, hz1, hz2⟩ := info_parts infoReal
  obtain ⟨j0, hj0, hy0, hy1, hy2⟩ := info_parts infoNum
  obtain ⟨W0, hW0⟩ : ∃ W0, W0 = w.alloc (.cells #[.int .i64 (r : Nat), .int .i64 (c : Nat), .slice A m.length cap] 28) := ⟨_, rfl⟩
  have HI := Lib.hid (show LfI w W0 r c A Ax Ab m x b cap from by
    have hb0 : Below w.heap.size w W0 := by rw [hW0]; exact below_new _ _
    exact ⟨by rw [hW0]; exact heap_alloc_new _ _, hb0, by rw [hW0]; simp, (rm.below hb0).more hb0.size, (rx.below hb0).more hb0.size, (rb.below hb0).more hb0.size⟩)
  have HW := Lib.hid hW0
  obtain ⟨M, hM⟩ : ∃ M, M = m.length := ⟨_, rfl⟩
  have hok : okM r c M = true := okM_iff.2 ⟨by omega, by omega, by omega, by omega, by rw [hM, hm]; simp⟩
  have HCk := Lib.hid (Check_c r c A M cap)
  rw [hok, if_pos rfl] at HCk
  have HFm := Lib.hid (finite11_c A m cap · lm (by have := Nat.mul_le_mul hr hc; omega))
  have HFx := Lib.hid (finite11_c Ax x cx · lx (by omega))
  have HFb := Lib.hid (finite11_c Ab b cb · lb (by omega))
  rw [List.all_eq_true.2 fm, ← hM] at HFm
  rw [List.all_eq_true.2 fx] at HFx
  rw [List.all_eq_true.2 fb] at HFb
  have HFin := Lib.hid (And.intro fm (And.intro fx fb))
  have HLt := Lib.hid (And.intro lm (And.intro lx lb))
  have HMc := Lib.hid (show M = r * c ∧ M ≤ cap from ⟨by rw [hM, hm], by rw [hM]; exact hcap⟩)
  have HMm := Lib.hid hM
  rw [← hM] at HW ⊢
  rw [hx] at HFx hcx ⊢
  rw [hb] at HFb hcb ⊢
  have HXl := Lib.hid hx
  have HBl := Lib.hid hb
  obtain ⟨LL, hLL⟩ : ∃ LL, LL = leftL r c m x b := ⟨_, rfl⟩
  rw [← hLL]
  have HLL := Lib.hid hLL
  obtain ⟨okL, hokL⟩ : ∃ okL, okL = LL.all pFinite := ⟨_, rfl⟩
  rw [← hokL]
  obtain ⟨RL, hRL⟩ : ∃ RL, RL = if okL then LL else [] := ⟨_, rfl⟩
  obtain ⟨RE, hRE⟩ : ∃ RE : Int, RE = if okL then 0 else 6 := ⟨_, rfl⟩
  rw [show (if okL = true then LL else []) = RL from hRL.symm, show (if okL = true then (0 : Int) else 6) = RE from hRE.symm]
  have HRes := Lib.hid (And.intro hokL (And.intro hRL hRE))
  clear hokL hRL hRE
  clear hW0 hM hm hx hb fm fx fb lm lx lb rm rx rb hok hLL hcap
  go_enter Try.func12, Try.ntmps12
  go_upto_region 1 with fail
  rw [← HW.out]
  clear HW
  obtain ⟨c0, c1, c2⟩ := HI.out.cells (Below.refl _ _)
  rw [← HMm.out] at c2
  go_wp2_with fail
  refine (HCk.out _).mono ?_
  rintro e W1 ⟨rfl, hb1⟩
  obtain ⟨c0, c1, c2⟩ := HI.out.cells hb1
  rw [← HMm.out] at c2
  have HB1 := Lib.hid hb1
  clear hb1 HCk
  go_wp2_with fail
  refine (HFm.out _ ((HI.out.rm.below HB1.out).more HB1.out.size)).mono ?_
  rintro e W2' ⟨n, rfl, W2e⟩
  obtain ⟨W2, hW2⟩ : ∃ V, V = W2' := ⟨_, rfl⟩
  have HB2 := Lib.hid (show Below W0.heap.size W0 W2 by rw [hW2, W2e]; exact below_drewN HB1.out n)
  rw [← hW2]
  clear W2e hW2 HFm
  go_wp2_with fail
  refine (HFx.out _ ((HI.out.rx.below HB2.out).more HB2.out.size)).mono ?_
  rintro e W3' ⟨n, rfl, W3e⟩
  obtain ⟨W3, hW3⟩ : ∃ V, V = W3' := ⟨_, rfl⟩
  have HB3 := Lib.hid (show Below W0.heap.size W0 W3 by rw [hW3, W3e]; exact below_drewN HB2.out n)
  rw [← hW3]
  clear W3e hW3 HFx
  go_wp2_with fail
  refine (HFb.out _ ((HI.out.rb.below HB3.out).more HB3.out.size)).mono ?_
  rintro e W4' ⟨n, rfl, W4e⟩
  obtain ⟨W4, hW4⟩ : ∃ V, V = W4' := ⟨_, rfl⟩
  have HB4 := Lib.hid (show Below W0.heap.size W0 W4 by rw [hW4, W4e]; exact below_drewN HB3.out n)
  rw [← hW4]
  clear W4e hW4 HFb
  obtain ⟨c0, c1, c2⟩ := HI.out.cells HB4.out
  clear HB1 HB2 HB3
  go_wp2
  go_loopw [8, 53] (fun sv iv wr => ∃ (i : Nat) (zs : List C), i ≤ r ∧ iv = .int .i64 (i : Nat) ∧ Hid (zs.map cnC = (List.range i).map fun i => leftAt (fun k => atL m (i * c + k)) (atL x) (atL b i) c) ∧ Hid (ltCs zs) ∧ Hid (wr.ownsRow W0.heap.size 45 1 sv i (nums zs)) ∧ Hid (Below W0.heap.size W0 wr)) (fun _ iv _ => r - (intOf iv).toNat)
  case atStart => exact ⟨0, [], Nat.zero_le _, rfl, Lib.hid rfl, Lib.hid (fun z hz => by cases hz), Lib.hid (World.ownsRow_nil _ _ _ _), HB4⟩
  case round =>
    obtain ⟨i, zs, hi, rfl, HZs, HZl, HOw, HBr⟩ := hrel
    clear HB4 c0 c1 c2
    rename World => wr
    obtain ⟨c0, c1, c2⟩ := HI.out.cells HBr.out
    rw [← HMm.out] at c2
    by_cases hir : i < r
    · have hir' : (i : Int) < r := by omega
      obtain ⟨ab, rfl, hbi⟩ := LfI.num HI.out.rb HBr.out (i := i) (by rw [HBl.out]; exact hir)
      obtain ⟨bz, hbz⟩ : ∃ bz, bz = atL b i := ⟨_, rfl⟩
      rw [← hbz] at hbi
      have HBz := Lib.hid hbz
      have HBo := Lib.hid (both11_c bz)
      clear hbz hi
      go_wp2_with fail
      refine (HBo.out _).mono ?_
      rintro e W5 ⟨rfl, rfl⟩
      clear HBo
      go_upto_region 10 with fail
      refine wp_region_lit ?_
      refine Go.Great.wpList_readTo rfl _ rfl (.float .f64 bz.1) (by kernel_rfl) ?_
      refine Go.Great.wpList_runTo rfl _ rfl (.slice (some ⟨wr.heap.size, 0, none⟩) 1 1) (wr.alloc (.cells #[.float .f64 bz.1] 47)) (by kernel_rfl) ?_
      obtain ⟨Wa, hWa⟩ : ∃ Wa, Wa = wr.alloc (.cells #[.float .f64 bz.1] 47) := ⟨_, rfl⟩
      rw [← hWa]
      refine Go.Great.wpList_readTo rfl _ rfl (.agg #[.slice (some ⟨wr.heap.size, 0, none⟩) 1 1, .slice none 0 0]) (by kernel_rfl) ?_
      refine Go.Great.wpList_readTo rfl _ rfl (.float .f64 bz.2) (by kernel_rfl) ?_
      refine Go.Great.wpList_runTo rfl _ rfl (.slice (some ⟨Wa.heap.size, 0, none⟩) 1 1) (Wa.alloc (.cells #[.float .f64 bz.2] 47)) (by kernel_rfl) ?_
      obtain ⟨Wb, hWb⟩ : ∃ Wb, Wb = Wa.alloc (.cells #[.float .f64 bz.2] 47) := ⟨_, rfl⟩
      rw [← hWb]
      refine Go.Great.wpList_readTo rfl _ rfl (.agg #[.slice (some ⟨Wa.heap.size, 0, none⟩) 1 1, .slice none 0 0]) (by kernel_rfl) ?_
      refine Go.Great.wpList_readTo rfl _ rfl (.agg #[.slice (some ⟨wr.heap.size, 0, none⟩) 1 1, .slice none 0 0, .slice (some ⟨Wa.heap.size, 0, none⟩) 1 1, .slice none 0 0]) (by kernel_rfl) ?_
      refine Go.Great.wpList_allocTo rfl _ rfl (.pointer (some ⟨Wb.heap.size, 0, none⟩)) (.cells #[.slice none 0 0, .slice none 0 0, .slice none 0 0, .slice none 0 0] 83) (by kernel_rfl) ?_
      obtain ⟨Wc, hWc⟩ : ∃ Wc, Wc = Wb.alloc (.cells #[.slice none 0 0, .slice none 0 0, .slice none 0 0, .slice none 0 0] 83) := ⟨_, rfl⟩
      rw [← hWc]
      have hrow : Wc.heap[Wb.heap.size]? = some (.cells #[.slice none 0 0, .slice none 0 0, .slice none 0 0, .slice none 0 0] 83) := by rw [hWc]; exact heap_alloc_new _ _
      refine wpList_store_row rfl 83 (.tmp 12) (.tmp 70) rfl Wb.heap.size #[.slice (some ⟨wr.heap.size, 0, none⟩) 1 1, .slice none 0 0, .slice (some ⟨Wa.heap.size, 0, none⟩) 1 1, .slice none 0 0] (by kernel_rfl) (by kernel_rfl) 83 _ hrow (by kernel_rfl) rfl (by kernel_rfl) ?_
      obtain ⟨Wd, hWd⟩ : ∃ Wd, Wd = Wc.setRow Wb.heap.size #[.slice (some ⟨wr.heap.size, 0, none⟩) 1 1, .slice none 0 0, .slice (some ⟨Wa.heap.size, 0, none⟩) 1 1, .slice none 0 0] := ⟨_, rfl⟩
      rw [← hWd]
      have hbl : bz.1 < 18446744073709551616 ∧ bz.2 < 18446744073709551616 := by
        rw [HBz.out]
        obtain ⟨z, hz⟩ := some_of_lt (l := b) (k := i) (by rw [HBl.out]; exact hir)
        have ea : atL b i = z := by unfold atL; rw [List.getD_eq_getElem?_getD, hz]; rfl
        rw [ea]; exact HLt.out.2.2 z (List.mem_of_getElem? hz)
      obtain ⟨q, hq⟩ : ∃ q, q = Wb.heap.size := ⟨_, rfl⟩
      have HT0 := Lib.hid (tal_start wr bz.1 bz.2 hbl.1 hbl.2 hWa hWb hWc hWd)
      rw [← hq] at HT0 ⊢
      obtain ⟨R, hR⟩ : ∃ R : Nat → C, R = fun k => atL m (i * c + k) := ⟨_, rfl⟩
      obtain ⟨X, hX⟩ : ∃ X : Nat → C, X = atL x := ⟨_, rfl⟩
      have hbf : pFinite bz = true := by
        rw [HBz.out]
        obtain ⟨z, hz⟩ := some_of_lt (l := b) (k := i) (by rw [HBl.out]; exact hir)
        have ea : atL b i = z := by unfold atL; rw [List.getD_eq_getElem?_getD, hz]; rfl
        rw [ea]; exact HFin.out.2.2 z (List.mem_of_getElem? hz)
      have HK0 := Lib.hid (show TlK wr Wd wr.heap.size q R X bz 0 from ⟨⟨_, _, HT0.out.1, fun j hj => by
        obtain ⟨f1, f2⟩ := fin_cnT hbf
        match j, hj with
        | 0, _ => show [cn .f64 bz.1] = [bz.1]; rw [f1]
        | 1, _ => rfl
        | 2, _ => show [cn .f64 bz.2] = [bz.2]; rw [f2]
        | 3, _ => rfl, fun _ => ⟨rfl, rfl⟩⟩, HT0.out.2⟩)
      have HR := Lib.hid (And.intro hR hX)
      clear HT0 hWa hWb hWc hWd hrow hq hbl hR hX hbf c0 c1 c2 hbi
      obtain ⟨c0, c1, c2⟩ := HI.out.cells (HBr.out.trans (HK0.out.bel.mono HBr.out.size))
      rw [← HMm.out] at c2
      go_wp2
      go_loopw [73] (fun kv wk => ∃ k : Nat, k ≤ c ∧ kv = .int .i64 (k : Nat) ∧ Hid (TlK wr wk wr.heap.size q R X bz k)) (fun kv _ => c - (intOf kv).toNat)
      case atStart => exact ⟨0, Nat.zero_le _, rfl, HK0⟩
      case round =>
        obtain ⟨k, hk, rfl, HTk⟩ := hrel
        clear HK0 c0 c1 c2
        rename World => wk
        have HBk := Lib.hid (HBr.out.trans (HTk.out.bel.mono HBr.out.size))
        obtain ⟨c0, c1, c2⟩ := HI.out.cells HBk.out
        rw [← HMm.out] at c2
        by_cases hkc : k < c
        · have hkc' : (k : Int) < c := by omega
          obtain ⟨pq, pk, hpk, hw1, hw2, hpkM, hpkc, hb1, hb2⟩ := idx11 hir hkc hr hc HMc.out.1 HMc.out.2
          have HPk := Lib.hid hpk
          clear hpk
          obtain ⟨am, rfl, hcm⟩ := LfI.num HI.out.rm HBk.out (i := pk) (by rw [← HMm.out]; exact hpkM)
          obtain ⟨ax, rfl, hcx1⟩ := LfI.num HI.out.rx HBk.out (i := k) (by rw [HXl.out]; exact hkc)
          obtain ⟨z, hz⟩ : ∃ z, z = atL m pk := ⟨_, rfl⟩
          obtain ⟨u, hu⟩ : ∃ u, u = atL x k := ⟨_, rfl⟩
          have mem : ∀ (l : List C) (j : Nat), j < l.length → atL l j ∈ l := fun l j hj => by
            obtain ⟨y, hy⟩ := some_of_lt (l := l) (k := j) hj
            have ea : atL l j = y := by unfold atL; rw [List.getD_eq_getElem?_getD, hy]; rfl
            rw [ea]; exact List.mem_of_getElem? hy
          have hzm : z ∈ m := by rw [hz]; exact mem m pk (by rw [← HMm.out]; exact hpkM)
          have hux : u ∈ x := by rw [hu]; exact mem x k (by rw [HXl.out]; exact hkc)
          have HRk := Lib.hid (show R k = z ∧ X k = u by rw [HR.out.1, HR.out.2, hz, hu, HPk.out]; exact ⟨rfl, rfl⟩)
          have HCz := Lib.hid (And.intro (fin_cnT (HFin.out.1 z hzm)) (fin_cnT (HFin.out.2.1 u hux)))
          rw [← hz] at hcm
          rw [← hu] at hcx1
          have HBz1 := Lib.hid (both11_c z)
          have HBu1 := Lib.hid (both11_c u)
          obtain ⟨V, L, hT, hcn, hnil⟩ := HTk.out.t
          have HT := Lib.hid hT
          have HCn := Lib.hid hcn
          have hlen : ∀ j, j < 4 → (L j).length ≤ 129 := fun j hj => by
            have h1 := congrArg List.length (hcn j hj)
            rw [List.length_map] at h1
            have h2 := colT_len R X bz k j
            omega
          have HLen := Lib.hid hlen
          clear hz hu mem hzm hux hT hcn hnil hlen hk
          go_wp2_with fail
          refine (HBz1.out _).mono ?_
          rintro e W5 ⟨rfl, rfl⟩
          go_wp2_with fail
          refine (HBu1.out _).mono ?_
          rintro e W5 ⟨rfl, rfl⟩
          clear HBz1 HBu1
          go_wp2_with fail
          refine (tless_c z.1 u.1 wk HT.out (by omega) (fun j hj => by have := HLen.out j hj; omega)).mono ?_
          rintro e W6 ⟨V6, x1, y1, rfl, hT6, hx1, hy1, hb6⟩
          have HT6 := Lib.hid hT6
          have HX1 := Lib.hid (And.intro hx1 hy1)
          have HB6 := Lib.hid hb6
          obtain ⟨L6, hL6⟩ : ∃ L6, L6 = pushL L 0 x1 y1 := ⟨_, rfl⟩
          rw [show setL (setL L 0 (L 0 ++ [x1])) (0 + 1) (L (0 + 1) ++ [y1]) = L6 from hL6.symm] at HT6
          have HLn6 := Lib.hid (show ∀ j, j < 4 → (L6 j).length ≤ 131 from by rw [hL6]; exact pushL_len HLen.out (by decide))
          have HL6 := Lib.hid hL6
          clear hT6 hx1 hy1 hb6 hL6
          go_wp2_with fail
          refine (TwoProd_c z.2 u.2 W6).mono ?_
          rintro e W7' ⟨p0, e0, n7, rfl, hpq, hp0, he0, W7e⟩
          obtain ⟨W7, hW7⟩ : ∃ V, V = W7' := ⟨_, rfl⟩
          have HT7 := Lib.hid (HT6.out.below (show Below W6.heap.size W6 W7 by rw [hW7, W7e]; exact below_drewN (Below.refl _ _) n7))
          have HB7 := Lib.hid (show Below wr.heap.size W6 W7 by rw [hW7, W7e]; exact below_drewN (Below.refl _ _) n7)
          rw [← hW7]
          have HPQ := Lib.hid (And.intro (show cn .f64 p0 = fmul (cn .f64 z.2) (cn .f64 u.2) from congrArg Prod.fst hpq) (show cn .f64 e0 = ffma (cn .f64 z.2) (cn .f64 u.2) (fneg (fmul (cn .f64 z.2) (cn .f64 u.2))) from congrArg Prod.snd hpq))
          have HP0 := Lib.hid hp0
          have HE0 := Lib.hid he0
          clear W7e hW7 hpq hp0 he0
          obtain ⟨v8, hv8⟩ : ∃ v8, v8 = V6 0 := ⟨_, rfl⟩
          have cc8 : W7.cell? ⟨q, 0, none⟩ = some v8 := by rw [hv8]; exact HT7.out.cell (by decide)
          have HV8 := Lib.hid hv8
          have HO8 := Lib.hid (show W7.ownsRow wr.heap.size 47 1 v8 (L6 0).length (reals (L6 0)) by rw [hv8]; exact HT7.out.own 0 (by decide))
          have HS8 := Lib.hid (len_ok (HLn6.out 0 (by decide)))
          clear hv8
          go_upto_region 19 with (at_builtin; refine wpList_append_stays _ rfl (.tmp 110) (.tmp 112) 80 rfl wr.heap.size 47 i0 (.float .f64 0) 8 Try.underlying80 hi0 hz0 hz1 hz2 rfl _ _ _ rfl (HO8.out.alloc _) ⟨W7.heap.size, 0, none⟩ 1 1 [.float .f64 p0] rfl rfl (cell_one_new _ _ _) (by intro u hu; simp at hu; subst hu; rfl) HS8.out.1 HS8.out.2 (Nat.le_trans HT7.out.BW (below_new _ _).size) ?_; intro v' w2 hown1 hgrow1 hat1; rw [HV8.out] at hgrow1 hat1; obtain ⟨cw, fw⟩ := HT7.out.mid (by decide) (below_new _ _) hgrow1; rw [← HV8.out] at cw; have HPu := Lib.hid (HT7.out.push (by decide) HP0.out (below_new _ _) hown1 hgrow1 hat1); obtain ⟨q1, cp1, ev, -, -⟩ := hown1.form (Nat.succ_pos _); subst ev; clear hown1 hgrow1 hat1 cc8)
          obtain ⟨W8, hW8⟩ : ∃ W8, W8 = w2.setCell ⟨q, 0, none⟩ (.slice (some ⟨q1, 0, none⟩) ((L6 0).length + 1) cp1) := ⟨_, rfl⟩
          have HT8 := Lib.hid HPu.out.1
          have HB8 := Lib.hid HPu.out.2
          rw [← hW8] at HT8 HB8 ⊢
          obtain ⟨V8, hV8⟩ : ∃ V8, V8 = setV V6 0 (.slice (some ⟨q1, 0, none⟩) ((L6 0).length + 1) cp1) := ⟨_, rfl⟩
          obtain ⟨L8, hL8⟩ : ∃ L8, L8 = setL L6 0 (L6 0 ++ [p0]) := ⟨_, rfl⟩
          rw [← hV8, ← hL8] at HT8
          have HLn8 := Lib.hid (show ∀ j, j < 4 → (L8 j).length ≤ 132 from by rw [hL8]; exact setL_len HLn6.out (by decide))
          have HL8 := Lib.hid hL8
          clear hW8 HPu cw fw hV8 hL8 HO8 HS8 HV8
          obtain ⟨v9, hv9⟩ : ∃ v9, v9 = V8 1 := ⟨_, rfl⟩
          have cc9 : W8.cell? ⟨q, 1, none⟩ = some v9 := by rw [hv9]; exact HT8.out.cell (by decide)
          have HV9 := Lib.hid hv9
          have HO9 := Lib.hid (show W8.ownsRow wr.heap.size 47 1 v9 (L8 1).length (reals (L8 1)) by rw [hv9]; exact HT8.out.own 1 (by decide))
          have HS9 := Lib.hid (len_ok (HLn8.out 1 (by decide)))
          clear hv9
          go_upto_region 20 with (at_builtin; refine wpList_append_stays _ rfl (.tmp 118) (.tmp 120) 80 rfl wr.heap.size 47 i0 (.float .f64 0) 8 Try.underlying80 hi0 hz0 hz1 hz2 rfl _ _ _ rfl (HO9.out.alloc _) ⟨W8.heap.size, 0, none⟩ 1 1 [.float .f64 e0] rfl rfl (cell_one_new _ _ _) (by intro u hu; simp at hu; subst hu; rfl) HS9.out.1 HS9.out.2 (Nat.le_trans HT8.out.BW (below_new _ _).size) ?_; intro v' w2 hown1 hgrow1 hat1; rw [HV9.out] at hgrow1 hat1; obtain ⟨cw, fw⟩ := HT8.out.mid (by decide) (below_new _ _) hgrow1; rw [← HV9.out] at cw; have HPu := Lib.hid (HT8.out.push (by decide) HE0.out (below_new _ _) hown1 hgrow1 hat1); obtain ⟨q1, cp1, ev, -, -⟩ := hown1.form (Nat.succ_pos _); subst ev; clear hown1 hgrow1 hat1 cc9)
          obtain ⟨W9, hW9⟩ : ∃ W9, W9 = w2.setCell ⟨q, 1, none⟩ (.slice (some ⟨q1, 0, none⟩) ((L8 1).length + 1) cp1) := ⟨_, rfl⟩
          have HT9 := Lib.hid HPu.out.1
          have HB9 := Lib.hid HPu.out.2
          rw [← hW9] at HT9 HB9 ⊢
          obtain ⟨V9, hV9⟩ : ∃ V9, V9 = setV V8 1 (.slice (some ⟨q1, 0, none⟩) ((L8 1).length + 1) cp1) := ⟨_, rfl⟩
          obtain ⟨L9, hL9⟩ : ∃ L9, L9 = setL L8 1 (L8 1 ++ [e0]) := ⟨_, rfl⟩
          rw [← hV9, ← hL9] at HT9
          have HLn9 := Lib.hid (show ∀ j, j < 4 → (L9 j).length ≤ 133 from by rw [hL9]; exact setL_len HLn8.out (by decide))
          have HL9 := Lib.hid hL9
          clear hW9 HPu cw fw hV9 hL9 HO9 HS9 HV9
          go_wp2_with fail
          refine (tless_c z.1 u.2 W9 HT9.out (by decide) (fun j hj => Nat.le_trans (HLn9.out j hj) (by decide))).mono ?_
          rintro e W10 ⟨V10, x2, y2, rfl, hT10, hx2, hy2, hb10⟩
          obtain ⟨L10, hL10⟩ : ∃ L10, L10 = pushL L9 2 x2 y2 := ⟨_, rfl⟩
          have HT10 := Lib.hid hT10
          rw [show setL (setL L9 2 (L9 2 ++ [x2])) (2 + 1) (L9 (2 + 1) ++ [y2]) = L10 from hL10.symm] at HT10
          have HLn10 := Lib.hid (show ∀ j, j < 4 → (L10 j).length ≤ 135 from by rw [hL10]; exact pushL_len HLn9.out (by decide))
          have HX2 := Lib.hid (And.intro hx2 hy2)
          have HB10 := Lib.hid hb10
          have HL10 := Lib.hid hL10
          clear hT10 hx2 hy2 hb10 hL10
          go_wp2_with fail
          refine (tless_c z.2 u.1 W10 HT10.out (by decide) (fun j hj => Nat.le_trans (HLn10.out j hj) (by decide))).mono ?_
          rintro e W11 ⟨V11, x3, y3, rfl, hT11, hx3, hy3, hb11⟩
          have HK1 := Lib.hid (show TlK wr W11 wr.heap.size q R X bz (k + 1) from by
            obtain ⟨⟨z1, z2⟩, u1, u2⟩ := HCz.out
            have g1 := HX1.out
            have g2 := HPQ.out
            have g3 := HX2.out
            rw [z1, u1] at g1
            rw [z2, u2] at g2
            rw [z1, u2] at g3
            rw [z2, u1] at hx3 hy3
            exact ⟨⟨V11, _, hT11, colT_step HCn.out HRk.out.1 HRk.out.2 g1.1 g1.2 g2.1 g2.2 g3.1 g3.2 hx3 hy3 HL6.out HL8.out HL9.out HL10.out, fun h => by cases h⟩,
              HTk.out.bel.trans (HB6.out.trans (HB7.out.trans (HB8.out.trans (HB9.out.trans (HB10.out.trans hb11)))))⟩)
          clear hT11 hx3 hy3 hb11
          go_wp2
          go_roundw
          case rel => exact ⟨k + 1, hkc, by go_num, HK1⟩
          case measure => simp [intOf]; omega
        · have hkc' : ¬ (k : Int) < c := by omega
          have e : k = c := by omega
          subst e
          obtain ⟨V, L, hT, hcn, hnil⟩ := HTk.out.t
          have hl1 := colT_l1 R X bz k
          have hlen : ∀ j, j < 4 → (L j).length ≤ 10000 := fun j hj => by
            have h1 := congrArg List.length (hcn j hj)
            rw [List.length_map] at h1
            have h2 := colT_len R X bz k j
            omega
          have hn1 : (L (0 + 1)).length = 0 → V (0 + 1) = .slice none 0 0 := fun h => by
            have h1 := congrArg List.length (hcn 1 (by decide))
            rw [List.length_map, hl1.1] at h1
            exact (hnil (by have h2 : (L 1).length = 0 := h; omega)).1
          have hn3 : (L (2 + 1)).length = 0 → V (2 + 1) = .slice none 0 0 := fun h => by
            have h1 := congrArg List.length (hcn 3 (by decide))
            rw [List.length_map, hl1.2] at h1
            exact (hnil (by have h2 : (L 3).length = 0 := h; omega)).2
          have HS0 := Lib.hid (tsum_c wk hT (i := 0) (by decide) hlen hn1)
          have HT := Lib.hid hT
          have HLen := Lib.hid hlen
          have HN3 := Lib.hid hn3
          rw [hcn 0 (by decide), hcn (0 + 1) (by decide)] at HS0
          have HCn := Lib.hid hcn
          have HOk := Lib.hid (own_below HOw.out HTk.out.bel)
          clear hT hcn hnil hl1 hlen hn1 hn3 hk
          go_wp2_with fail
          refine HS0.out.mono ?_
          rintro e W5 ⟨y1, rfl, hy1, hl1, hb5⟩
          have HT5 := Lib.hid (HT.out.below hb5)
          have HB5 := Lib.hid hb5
          have HY1 := Lib.hid (And.intro hy1 hl1)
          have HS2 := Lib.hid (tsum_c W5 HT5.out (i := 2) (by decide) HLen.out HN3.out)
          rw [HCn.out 2 (by decide), HCn.out (2 + 1) (by decide)] at HS2
          clear hy1 hl1 hb5 HS0
          go_wp2_with fail
          refine HS2.out.mono ?_
          rintro e W6 ⟨y2, rfl, hy2, hl2, hb6⟩
          have HB6 := Lib.hid (HBk.out.trans ((HB5.out.trans (hb6.mono HB5.out.size)).mono HBk.out.size))
          have HY2 := Lib.hid (And.intro hy2 hl2)
          have HO6 := Lib.hid (own_below HOk.out (HB5.out.trans (hb6.mono HB5.out.size)))
          have HS := Lib.hid (show i + 1 ≤ maxLen ∧ (i + 1) * 16 ≤ 140737488355328 from by unfold maxLen; omega)
          clear hy2 hl2 hb6 HS2
          go_wp2_with (at_builtin; refine wpList_append_stays _ rfl (.tmp 133) (.tmp 139) 26 rfl W0.heap.size 45 j0 (.complex .f64 0 0) 16 Try.underlying26 hj0 hy0 hy1 hy2 rfl _ _ _ rfl (HO6.out.alloc _) ⟨W6.heap.size, 0, none⟩ 1 1 [.complex .f64 y1 y2] rfl rfl (cell_one_new _ _ _) (by intro u hu; simp at hu; subst hu; rfl) HS.out.1 HS.out.2 (Nat.le_trans HB6.out.size (below_new _ _).size) ?_; intro v' w2 hown1 hgrow1 hat1)
          have HB7 := Lib.hid ((HB6.out.new (Nat.le_refl _) _).grown hgrow1 (Nat.le_trans HB6.out.size (below_new _ _).size) (fun g hg => (HO6.out.lt g hg).1))
          have er : nums zs ++ [.complex .f64 y1 y2] = nums (zs ++ [(y1, y2)]) := by simp [nums]
          rw [er] at hown1
          have HO7 := Lib.hid hown1
          clear hown1 hgrow1 hat1 er
          go_roundw
          case rel =>
            refine ⟨i + 1, zs ++ [(y1, y2)], hir, by go_num, Lib.hid ?_, Lib.hid ?_, HO7, HB7⟩
            · rw [List.map_append, HZs.out, List.range_succ, List.map_append]
              congr 1
              show [(cn .f64 y1, cn .f64 y2)] = [leftAt (fun k_1 => atL m (i * k + k_1)) (atL x) (atL b i) k]
              rw [HY1.out.1, HY2.out.1, HR.out.1, HR.out.2, HBz.out]
              rfl
            · intro z hz
              rcases List.mem_append.1 hz with h | h
              · exact HZl.out z h
              · rw [List.mem_singleton.1 h]; exact ⟨HY1.out.2, HY2.out.2⟩
          case measure => simp [intOf]; omega
    · have hir' : ¬ (i : Int) < r := by omega
      have e : i = r := by omega
      subst e
      have hown := HOw.out
      obtain ⟨A9, c9, rfl, r9, -, -⟩ := own_readsT hown
      have hzl : zs.length = i := by have := congrArg List.length HZs.out; simpa using this
      have hzL : zs.map cnC = LL := by rw [HZs.out, HLL.out]; rfl
      have HFz := Lib.hid (finite11_c A9 zs c9 wr HZl.out (by omega) r9)
      rw [hzl, all_fin_cn hzL, ← HRes.out.1] at HFz
      have HEx := Lib.hid (show okL = true → zs = LL from fun h => fin_exact hzL (by rw [all_fin_cn hzL, ← HRes.out.1]; exact h))
      have HZn := Lib.hid hzl
      clear r9 hzl hzL hown hi
      go_wp2_with fail
      refine HFz.out.mono ?_
      rintro e W5 ⟨n, rfl, rfl⟩
      have HB5 := Lib.hid (show Below w.heap.size w (wr.drewN n) from HI.out.bel.trans ((below_drewN HBr.out n).mono HI.out.bel.size))
      obtain ⟨-, hRL, hRE⟩ := HRes.out
      cases okL
      · have HL := Lib.hid (show RL = [] from hRL)
        have HE := Lib.hid (show RE = 6 from hRE)
        clear hRL hRE HRes
        go_wp2
        go_ret2
        refine ⟨.slice none 0 0, by rw [HE.out]; rfl, ?_, HB5.out⟩
        rw [HL.out]
        exact World.ownsRow_nil _ _ _ _
      · have HL := Lib.hid (show RL = LL from hRL)
        have HE := Lib.hid (show RE = 0 from hRE)
        clear hRL hRE HRes
        go_wp2
        go_ret2
        refine ⟨_, by rw [HE.out]; rfl, ?_, HB5.out⟩
        rw [HL.out, ← HEx.out trivial, HZn.out]
        exact own_base (own_below HOw.out (below_drewN (Below.refl _ _) n)) HI.out.bel.size
end Go.Proofs.Ytandllekeimpgaa
