/- Layer 1, RealAll: a whole list: plain law and walk. -/
import Derived.Test.YtbajeonhiaaclaaReW
import Derived.Test.YtbajeonhiaaclaaRegK
import Derived.Test.YtbajeonhiaaclaaRS
import Derived.Test.YtbajeonhiaaclaaRR
import Derived.Test.YtbajeonhiaaclaaS03
import Derived.Test.YtbajeonhiaaclaaExt
import Derived.Deep.WholeRow
import Derived.Great.Walk
import Derived.Deep.DeepCutAuto
namespace Go.Proofs.Ytbajeonhiaaclaa
open Go.RowKit Fl Ieee
set_option maxRecDepth 20000
attribute [local go_sem] Fl.order_self Fl.order_self' Fl.order_eq Fl.order_ne Fl.order_lt Fl.order_gt Fl.fle_fold Fl.fge_fold
def atF (l : List Nat) (k : Nat) : Nat := sumL (l.take k)
theorem atF_succ {l : List Nat} {k x : Nat} (h : l[k]? = some x) : atF l (k + 1) = fadd (atF l k) x := by
  have hk := lt_of_some h
  have e : l[k] = x := by rw [List.getElem?_eq_getElem hk] at h; exact Option.some.inj h
  unfold atF
  rw [List.take_succ_eq_append_getElem hk, e]
  unfold sumL
  rw [List.foldl_append]; rfl
def sumX (l : List Nat) : Int := (l.map ofX).sum
theorem sumX_snoc (l : List Nat) (x : Nat) : sumX (l ++ [x]) = sumX l + ofX x := by simp [sumX]
theorem sumX_nil : sumX [] = 0 := rfl
/-- All numbers and sums on the way are of at most 2^1022. -/
def okTo (l : List Nat) (k : Nat) : Prop := ∀ i, i < k → ∀ x, l[i]? = some x → rung double x ≤ 9209861237972664320 ∧ rung double (atF l (i + 1)) ≤ 9209861237972664320
theorem c_inf : 9209861237972664320 < double.infRung := by rw [inf_double]; decide
theorem fin_c {x : Nat} (h : rung double x ≤ 9209861237972664320) : fin double x := by have := c_inf; unfold fin; omega
theorem sv_abs (x : Nat) : (sval double x).natAbs = val double (rung double x) := by unfold sval; split <;> omega
theorem ofX_zero : ofX 0 = 0 := by
  unfold ofX
  have : sval double 0 = 0 := by decide
  rw [this, Int.zero_mul]
theorem all_exact {l : List Nat} (hw : words l) {n : Nat} (ho : okTo l n) (hn : n ≤ l.length) : ∀ k, k ≤ n → (sumErr (l.take k)).1 = atF l k ∧ (∀ e ∈ (sumErr (l.take k)).2, fin double e ∧ e < 18446744073709551616) ∧ ofX (sumErr (l.take k)).1 + sumX (sumErr (l.take k)).2 = sumX (l.take k) ∧ rung double (atF l k) ≤ 9209861237972664320 ∧ atF l k < 18446744073709551616
  | 0, _ => ⟨rfl, fun e he => by simp [sumErr] at he, by simp [sumErr, sumX_nil, ofX_zero], by show rung double 0 ≤ _; decide, by show 0 < _; decide⟩
  | k + 1, hk => by
    obtain ⟨h1, h2, h3, h4, h5⟩ := all_exact hw ho hn k (by omega)
    have hkl : k < l.length := by omega
    obtain ⟨x, hx⟩ : ∃ x, l[k]? = some x := ⟨l[k], List.getElem?_eq_getElem hkl⟩
    have e : l[k] = x := by rw [List.getElem?_eq_getElem hkl] at hx; exact Option.some.inj hx
    have hxl : x < 18446744073709551616 := hw x (List.mem_of_getElem? hx)
    obtain ⟨o1, o2⟩ := ho k (by omega) x hx
    have hS : sumErr (l.take (k + 1)) = sumStep (sumErr (l.take k)) x := by
      rw [List.take_succ_eq_append_getElem hkl, e]
      unfold sumErr
      rw [List.foldl_append]; rfl
    have hT : sumX (l.take (k + 1)) = sumX (l.take k) + ofX x := by rw [List.take_succ_eq_append_getElem hkl, e, sumX_snoc]
    obtain ⟨t1, t2, t3, -⟩ := twoSum_exact (x := atF l k) (y := x) h5 hxl (fin_c h4) (fin_c o1) (by rw [sv_abs]; exact val_le h4) (by rw [sv_abs]; exact val_le o1)
    have hs1 : (twoSum (atF l k) x).1 = atF l (k + 1) := (atF_succ hx).symm
    rw [hS, hT, ← h3]
    unfold sumStep
    rw [h1]
    refine ⟨hs1, fun y hy => ?_, ?_, o2, by rw [atF_succ hx]; exact fadd_lt _ _⟩
    · rcases List.mem_append.1 hy with hy | hy
      · exact h2 y hy
      · have e1 : y = (twoSum (atF l k) x).2 := List.mem_singleton.1 hy
        rw [e1]
        exact ⟨t2, fadd_lt _ _⟩
    · show ofX (twoSum (atF l k) x).1 + sumX ((sumErr (l.take k)).2 ++ [(twoSum (atF l k) x).2]) = _
      rw [sumX_snoc]
      have h6 : ofX (twoSum (atF l k) x).1 + ofX (twoSum (atF l k) x).2 = ofX (atF l k) + ofX x := by
        unfold ofX
        rw [← Int.add_mul, ← Int.add_mul, t3]
      omega
theorem map_cn_fin {l : List Nat} (h : ∀ x ∈ l, fin double x) : l.map (cn .f64) = l := by
  refine (List.map_congr_left (g := id) fun x hx => cn_fin (h x hx)).trans (List.map_id l)
theorem map_cn_only : ∀ {l m : List Nat}, l.map (cn .f64) = m → (∀ x ∈ m, fin double x) → l = m
  | [], [], _, _ => rfl
  | x :: l, y :: m, h, hm => by
    simp only [List.map_cons, List.cons.injEq] at h
    rw [map_cn_only h.2 (fun z hz => hm z (by simp [hz])), cn_only' h.1 (fin_no (hm y (by simp))).2]
theorem kFiniteR_c (x : Nat) (hx : x < 18446744073709551616) (hf : fin double x) (w : World) :
    Calls Try.prog 40 #[.float .f64 x] w (fun e w' => e = .returned (.bool true) ∧ Below w.heap.size w w') := by
  go_enter Try.func40, Try.ntmps40
  go_wp2_with fail
  refine upon_sub _ _ _ _ ?_
  intro r1 n1 h1
  have f1 : r1 = 0 := by
    have h5 : cn .f64 r1 = 0 := by
      rw [h1.1, cn_fin hf]
      exact fsub_self_zero hx hf
    exact cn_only' h5 (by decide)
  subst f1
  have f2 : feq .f64 0 0 = true := by decide
  go_wp2
  go_ret
  exact ⟨rfl, below_drewN (Below.refl _ _) _⟩
theorem fle_all (x : Nat) : fle .f64 (rung double x) 9209861237972664320 = decide (rung double x ≤ 9209861237972664320) := by
  by_cases h : rung double x ≤ double.infRung
  · exact fle_rungs h (by rw [inf_double]; decide)
  · have hn : isNaN FloatKind.f64.format (rung double x) = true := by
      show isNaN double (rung double x) = true
      rw [isNaN_rung]
      unfold isNaN; exact decide_eq_true (by omega)
    have h1 : fle .f64 (rung double x) 9209861237972664320 = false := by
      unfold fle
      rw [order_nan_l hn]; rfl
    rw [h1]
    have := c_inf
    exact (decide_eq_false (by omega)).symm
/-- While the list is summed exactly: two rows, the list. -/
structure AlS (w : World) (q B : Nat) (A : Option Addr) (x : List Nat) (S T : Int) (V : World) : Prop where
  a : V.heap[q]? = some (.cells (lim S) 53)
  b : V.heap[q + 1]? = some (.cells (lim T) 53)
  rd : Reads V B A (reals x)
  bel : Below w.heap.size w V
  qb : B ≤ q
  wb : w.heap.size ≤ B
theorem lt_of_row {V : World} {q : Nat} {o : Obj} (h : V.heap[q]? = some o) : q < V.heap.size := by
  rcases Nat.lt_or_ge q V.heap.size with h1 | h1
  · exact h1
  · rw [Array.getElem?_eq_none h1] at h; cases h
theorem AlS.below {w V V' : World} {q B : Nat} {A : Option Addr} {x : List Nat} {S T : Int} (h : AlS w q B A x S T V) (hb : Below V.heap.size V V') : AlS w q B A x S T V' :=
  ⟨rowE_keep hb h.a, rowE_keep hb h.b, h.rd.below (hb.mono (by have := lt_of_row h.a; have := h.qb; omega)), h.bel.trans (hb.mono h.bel.size), h.qb, h.wb⟩
theorem AlS.setA {w V : World} {q B : Nat} {A : Option Addr} {x : List Nat} {S T S' : Int} (h : AlS w q B A x S T V) : AlS w q B A x S' T (V.setRow q (lim S')) := by
  have hg : V.grownBy (V.setRow q (lim S')) (some q) := setRow_grown
  have hq := lt_of_row h.a
  have hB : Below B V (V.setRow q (lim S')) := (Below.refl B V).grown hg (by have := h.qb; omega) (fun j hj => by injection hj with hj; have := h.qb; omega)
  exact ⟨setRow_heap _ _ _ _ _ _ h.a, by rw [hg.block _ (lt_of_row h.b) (fun e => by injection e; omega)]; exact h.b, h.rd.below hB, h.bel.trans (hB.mono h.wb), h.qb, h.wb⟩
theorem AlS.setB {w V : World} {q B : Nat} {A : Option Addr} {x : List Nat} {S T T' : Int} (h : AlS w q B A x S T V) : AlS w q B A x S T' (V.setRow (q + 1) (lim T')) := by
  have hg : V.grownBy (V.setRow (q + 1) (lim T')) (some (q + 1)) := setRow_grown
  have hq := lt_of_row h.b
  have hB : Below B V (V.setRow (q + 1) (lim T')) := (Below.refl B V).grown hg (by have := h.qb; omega) (fun j hj => by injection hj with hj; have := h.qb; omega)
  exact ⟨by rw [hg.block _ (lt_of_row h.a) (fun e => by injection e; omega)]; exact h.a, setRow_heap _ _ _ _ _ _ h.b, h.rd.below hB, h.bel.trans (hB.mono h.wb), h.qb, h.wb⟩
set_option maxHeartbeats 4000000 in
set_option linter.unusedSimpArgs false in
theorem All1 (A : Option Addr) (l : List Nat) (cap : Nat) (w : World) (hr : Reads w w.heap.size A (u64s l)) (hw : words l) (hu : l.length ≤ 1048576) :
    Calls Try.prog 7 #[.slice A l.length cap] w fun e w' => e = .returned (.bool true) ∧ Below w.heap.size w w' := by
  have HR := Lib.hid hr
  have HW := Lib.hid hw
  have HU := Lib.hid hu
  clear hr hw hu
  go_enter Try.func7, Try.ntmps7
  go_wp2_with fail
  refine (awake_c _).mono ?_
  rintro e W1 ⟨rfl, hb1⟩
  have HB1 := Lib.hid hb1
  have HF := Lib.hid (Floats_c A l cap W1 (by have := HU.out; omega) ((HR.out.below hb1).more hb1.size))
  clear hb1 HR
  go_wp2_with fail
  refine HF.out.mono ?_
  rintro e W2 ⟨s0, rfl, hown, hb⟩
  obtain ⟨A1, c1, rfl, hrd, hfit, hnil⟩ := own_reads hown
  have HB2 := Lib.hid (HB1.out.trans (hb.mono HB1.out.size))
  have HRd := Lib.hid hrd
  have HNi := Lib.hid hnil
  have HFi := Lib.hid hfit
  clear hown hb hrd hnil HF HB1
  go_upto_if 17 with fail
  go_cut [4] (fun sv wz => sv = .slice A1 (min l.length 500) c1 ∧ wz = W2)
  case first =>
    by_cases h5 : l.length ≤ 500
    · have h5' : ¬ (l.length : Int) > 500 := by omega
      go_wp2
      go_meet
      case rel => exact ⟨by rw [show min l.length 500 = l.length by omega], rfl⟩
    · have h5' : (l.length : Int) > 500 := by omega
      have h7 : (500 : Int) ≤ c1 := by omega
      obtain ⟨ad, rfl, -, -⟩ := HRd.out (by simp [reals]; omega)
      go_wp2
      go_meet
      case rel => exact ⟨by rw [show min l.length 500 = 500 by omega], rfl⟩
  case rest =>
  obtain ⟨rfl, rfl⟩ := hcut
  rename World => W2
  obtain ⟨m, hm⟩ : ∃ m, m = min l.length 500 := ⟨_, rfl⟩
  rw [← hm]
  obtain ⟨x, hx⟩ : ∃ x, x = l.take m := ⟨_, rfl⟩
  have hxl : x.length = m := by rw [hx, List.length_take]; omega
  have HXw := Lib.hid (show words x from fun z hz => HW.out z (by rw [hx] at hz; exact List.mem_of_mem_take hz))
  have HXr := Lib.hid (show Reads W2 W2.heap.size A1 (reals x) from fun hn => by
    have hx0 : 0 < (reals l).length := by
      have h1 : 0 < x.length := by simpa [reals] using hn
      have h2 : 0 < l.length := by omega
      simpa [reals] using h2
    obtain ⟨ad, e1, e2, e3⟩ := HRd.out hx0
    refine ⟨ad, e1, e2, fun j u hj => e3 j u ?_⟩
    rw [hx] at hj
    simp only [reals, List.getElem?_map] at hj ⊢
    rw [List.getElem?_take] at hj
    split at hj
    · exact hj
    · cases hj)
  have hm5 : m ≤ 500 := by omega
  have hmc : m ≤ c1 := by omega
  have HXl := Lib.hid hxl
  clear hm hx hxl HRd HW hfit
  go_upto_region 6 with fail
  obtain ⟨W3, hW3⟩ : ∃ W3, W3 = (W2.alloc (.cells Try.zeroCells53 53)).alloc (.cells Try.zeroCells53 53) := ⟨_, rfl⟩
  obtain ⟨q, hq⟩ : ∃ q, q = W2.heap.size := ⟨_, rfl⟩
  have HS := Lib.hid (show AlS w q q A1 x 0 0 W3 by
    have hb3 : Below W2.heap.size W2 W3 := by rw [hW3]; exact (belowE_new W2 _).new (Nat.le_refl _) _
    rw [hq]
    refine ⟨by rw [hW3, ← zero_lim]; exact rowE_alloc (heap_alloc_last _ _), by rw [hW3, ← zero_lim]; exact rowE_new2 _ _ _, HXr.out.below hb3, HB2.out.trans (hb3.mono HB2.out.size), Nat.le_refl _, HB2.out.size⟩)
  rw [← hW3, ← hq]
  clear hW3 hq HXr HB2
  go_upto_region 8 with fail
  go_loopw [7, 8] (fun av iv wr => ∃ k : Nat, k ≤ m ∧ iv = .int .i64 (k : Nat) ∧ av = .float .f64 (atF x k) ∧ Hid (okTo x k) ∧ Hid (AlS w q q A1 x (sumX (x.take k)) 0 wr)) (fun _ iv _ => m - (intOf iv).toNat)
  case atStart => exact ⟨0, Nat.zero_le _, rfl, rfl, Lib.hid (fun i hi => by omega), HS⟩
  case round =>
    obtain ⟨k, hk, rfl, rfl, HOk, HSk⟩ := hrel
    clear HS
    rename World => wr
    by_cases hkm : k < m
    · obtain ⟨z, hz⟩ : ∃ z, x[k]? = some z := ⟨x[k]'(by rw [HXl.out]; exact hkm), List.getElem?_eq_getElem _⟩
      have hzl : z < 18446744073709551616 := HXw.out z (List.mem_of_getElem? hz)
      have hv1 : (reals x)[k]? = some (.float .f64 z) := by simp [reals, hz]
      obtain ⟨ad, rfl, hab, hcell⟩ := HSk.out.rd.at_ hv1
      have HZ := Lib.hid hz
      have hsucc := atF_succ hz
      obtain ⟨hin, hfin, hwin⟩ := all_exact HXw.out HOk.out (by rw [HXl.out]; omega) k (Nat.le_refl _) |>.2.2.2 |> fun h => (⟨h.1, fin_c h.1, h.2⟩ : rung double (atF x k) ≤ 9209861237972664320 ∧ fin double (atF x k) ∧ atF x k < 18446744073709551616)
      have HIn := Lib.hid (And.intro hfin hwin)
      have hkm' : (k : Int) < m := by omega
      have hAz := Lib.hid (mAbs_c z hzl)
      have HZl := Lib.hid hzl
      obtain ⟨a0, ha0⟩ : ∃ a0, a0 = atF x k := ⟨_, rfl⟩
      rw [← ha0] at HIn hsucc ⊢
      clear ha0 hz hv1 hin hfin hwin hk
      go_wp2_with fail
      refine upon_add _ _ _ _ ?_
      intro r1 n1 h1
      have HR1 := Lib.hid h1
      clear h1
      have hcell' : ∀ D, (wr.drewN D).cell? (ad.add k) = some (.float .f64 z) := fun _ => hcell
      have hAr := Lib.hid (mAbs_c r1 HR1.out.2)
      have fz := fle_all z
      have fr := fle_all r1
      obtain ⟨rz, hrz⟩ : ∃ rz, rz = rung double z := ⟨_, rfl⟩
      obtain ⟨rr, hrr⟩ : ∃ rr, rr = rung double r1 := ⟨_, rfl⟩
      rw [← hrz] at fz hAz
      rw [← hrr] at fr hAr
      have HRz := Lib.hid hrz
      have HRr := Lib.hid hrr
      clear hrz hrr
      have HSn := Lib.hid (show AlS w q q (some ad) x (sumX (x.take k)) 0 (wr.drewN n1) from ⟨HSk.out.a, HSk.out.b, HSk.out.rd, below_drewN HSk.out.bel _, HSk.out.qb, HSk.out.wb⟩)
      obtain ⟨wk, hwk⟩ : ∃ wk, wk = wr.drewN n1 := ⟨_, rfl⟩
      have hc := hcell' n1
      rw [← hwk] at HSn hc ⊢
      clear HSk hcell hcell' hwk
      by_cases hz1 : rz ≤ 9209861237972664320
      · rw [decide_eq_true hz1] at fz
        by_cases hr1 : rr ≤ 9209861237972664320
        · rw [decide_eq_true hr1] at fr
          have hr1e : r1 = atF x (k + 1) := by
            have h5 : cn .f64 r1 = atF x (k + 1) := by rw [HR1.out.1, cn_fin HIn.out.1, cn_fin (fin_c (by rw [← HRz.out]; exact hz1)), hsucc]
            rw [cn_fin (fin_c (by rw [← HRr.out]; exact hr1))] at h5
            exact h5
          have HOk2 := Lib.hid (show okTo x (k + 1) from fun i hi y hy => by
            rcases Nat.lt_or_ge i k with h | h
            · exact HOk.out i h y hy
            · have e : i = k := by omega
              subst e
              have h6 := HZ.out.symm.trans hy
              injection h6 with h6
              subst h6
              exact ⟨by rw [← HRz.out]; exact hz1, by rw [← hr1e, ← HRr.out]; exact hr1⟩)
          have HOz := Lib.hid (Of_c z HZl.out (fin_c (by rw [← HRz.out]; exact hz1)))
          have HPl := Lib.hid (Plus_c (sumX (x.take k)) (ofX z))
          have HRe := Lib.hid hr1e
          have HTk := Lib.hid (show sumX (x.take (k + 1)) = sumX (x.take k) + ofX z by
            have hkl : k < x.length := by rw [HXl.out]; exact hkm
            have e : x[k] = z := by have h := HZ.out; rw [List.getElem?_eq_getElem hkl] at h; exact Option.some.inj h
            rw [List.take_succ_eq_append_getElem hkl, e, sumX_snoc])
          clear hz1 hr1 hr1e hsucc
          go_upto_region 11 with fail
          go_wp2_with fail
          refine (hAz.out _).mono ?_
          rintro e W4 ⟨rfl, rfl⟩
          go_wp2_with fail
          refine (hAr.out _).mono ?_
          rintro e W4 ⟨rfl, rfl⟩
          go_upto_region 13 with fail
          have hblk : (ad.add k).block < wk.heap.size := by
            have h1 := lt_of_row HSn.out.a
            have h2 : (ad.add k).block = ad.block := by unfold Addr.add; split <;> rfl
            omega
          have hKc := Lib.hid (fun (V : World) (hV : Below wk.heap.size wk V) => (hV.cell hblk).trans hc)
          clear hblk
          have hS0 : Below wk.heap.size wk wk.drew := (Below.refl wk.heap.size wk).drew
          clear hAz hAr fz fr
          refine wp_region_K 7 (by kernel_rfl) (Below wk.heap.size wk) (by kernel_rfl) (fun hsel hcl => ?_)
          refine wpAnyK_takeNeed [6] (i := 0) (v := .agg (lim (sumX (x.take k)))) rfl hsel hcl (by kernel_rfl) (by kernel_rfl) rfl (by decide +kernel) (fun _ _ _ h => h) rfl hS0 (fun V hV => exec_load_row 53 _ rfl q rfl 53 (lim (sumX (x.take k))) (0, 0) _ (rowE_keep hV HSn.out.a) Try.underlying53 rfl (by rw [lim_size]; kernel_rfl)) (fun hcl => ?_)
          simp only [Act.put, List.setIfInBounds_toArray, List.set_cons_zero, List.set_cons_succ]
          refine wpAnyK_takeFree (i := 1) (v := ?va1) rfl hsel hcl (by kernel_rfl) (by kernel_rfl) rfl (fun _ _ _ h => h) rfl hS0 ?hya1 (fun hcl => ?ha1)
          case hya1 => (intro w'; go_simp; first | done | with_reducible rfl)
          simp only [Act.put, List.setIfInBounds_toArray, List.set_cons_zero, List.set_cons_succ]
          refine wpAnyK_takeFree (i := 2) (v := ?va2) rfl hsel hcl (by kernel_rfl) (by kernel_rfl) rfl (fun _ _ _ h => h) rfl hS0 ?hya2 (fun hcl => ?ha2)
          case hya2 => (intro w'; go_simp; first | done | with_reducible rfl)
          simp only [Act.put, List.setIfInBounds_toArray, List.set_cons_zero, List.set_cons_succ]
          refine wpAnyK_takeFree (i := 3) (v := ?va3) rfl hsel hcl (by kernel_rfl) (by kernel_rfl) rfl (fun _ _ _ h => h) rfl hS0 ?hya3 (fun hcl => ?ha3)
          case hya3 => (intro w'; go_simp; first | done | with_reducible rfl)
          simp only [Act.put, List.setIfInBounds_toArray, List.set_cons_zero, List.set_cons_succ]
          refine wpAnyK_takeNeed [6, 5] (i := 4) (v := ?va4) rfl hsel hcl (by kernel_rfl) (by kernel_rfl) rfl (by decide +kernel) (fun _ _ _ h => h) rfl hS0 ?hya4 (fun hcl => ?ha4)
          case hya4 => (intro V hV; have hcV := hKc.out V hV; go_simp; first | done | with_reducible rfl)
          simp only [Act.put, List.setIfInBounds_toArray, List.set_cons_zero, List.set_cons_succ]
          refine wpAnyK_one (i := 5) rfl (by decide +kernel) rfl rfl ?_
          go_simp
          refine (HOz.out _).mono ?_
          rintro e V1 ⟨rfl, hb⟩
          have hS1 : Below wk.heap.size wk V1 := hS0.trans (hb.mono (by simp))
          clear hb
          refine ⟨hS1, ?_⟩
          refine wpAnyK_one (i := 6) rfl (by decide +kernel) rfl rfl ?_
          go_simp
          refine (HPl.out _).mono ?_
          rintro e V2 ⟨rfl, hb⟩
          have hS2 : Below wk.heap.size wk V2 := hS1.trans (hb.mono hS1.size)
          clear hb
          refine ⟨hS2, ?_⟩
          refine wpAnyK_storeRowEnd (st := 7) 53 (.tmp 5) (.tmp 51) rfl (by decide +kernel) rfl rfl rfl q (lim (sumX (x.take k) + ofX z)) rfl rfl 53 _ (rowE_keep hS2 HSn.out.a) (by rw [lim_size]; kernel_rfl) (by rw [lim_size, lim_size]) (mixL_one _ _ _) (by decide +kernel) ?_
          have HS5 := Lib.hid (HSn.out.below hS2 |>.setA (S' := sumX (x.take k) + ofX z))
          obtain ⟨V3, hV3⟩ : ∃ V3, V3 = V2.setRow q (lim (sumX (x.take k) + ofX z)) := ⟨_, rfl⟩
          rw [← hV3] at HS5 ⊢
          clear hV3 hS0 hS1 hS2 hKc hc HOz HPl HSn
          rw [← HTk.out] at HS5
          go_wp2
          go_roundw
          case rel => exact ⟨k + 1, hkm, by go_num, by rw [HRe.out], HOk2, HS5⟩
          case measure => simp [intOf]; omega
        · rw [decide_eq_false hr1] at fr
          go_upto_region 11 with fail
          go_wp2_with fail
          refine (hAz.out _).mono ?_
          rintro e W4 ⟨rfl, rfl⟩
          go_wp2_with fail
          refine (hAr.out _).mono ?_
          rintro e W4 ⟨rfl, rfl⟩
          go_wp2
          go_ret
          exact ⟨rfl, HSn.out.bel⟩
      · rw [decide_eq_false hz1] at fz
        go_upto_region 11 with fail
        go_wp2_with fail
        refine (hAz.out _).mono ?_
        rintro e W4 ⟨rfl, rfl⟩
        go_wp2
        go_ret
        exact ⟨rfl, HSn.out.bel⟩
    · have e : k = m := by omega
      subst e
      have hkm' : ¬ (k : Int) < k := by omega
      have hfull : x.take k = x := by rw [← HXl.out]; exact List.take_length
      obtain ⟨x1, x2, x3, x4, x5⟩ := all_exact HXw.out HOk.out (by rw [HXl.out]; exact Nat.le_refl _) k (Nat.le_refl _)
      rw [hfull] at x1 x2 x3
      obtain ⟨sN, hsN⟩ : ∃ sN, sN = atF x k := ⟨_, rfl⟩
      obtain ⟨E, hE⟩ : ∃ E, E = (sumErr x).2 := ⟨_, rfl⟩
      rw [← hsN] at x1 x4 x5 ⊢
      rw [x1] at x3
      rw [← hE] at x2 x3
      have hfinx : ∀ z ∈ x, fin double z := fun z hz => by
        obtain ⟨i, hi⟩ := List.getElem?_of_mem hz
        have hik : i < k := by rw [← HXl.out]; exact lt_of_some hi
        exact fin_c (HOk.out i hik z hi).1
      have HMap := Lib.hid (map_cn_fin hfinx)
      have HFs := Lib.hid (show fin double sN ∧ sN < 18446744073709551616 from ⟨fin_c x4, x5⟩)
      have HFe := Lib.hid x2
      have HX3 := Lib.hid x3
      have HX1 := Lib.hid x1
      have HEe := Lib.hid hE
      have HSN := Lib.hid (show sumL x = sN by rw [hsN]; unfold atF; rw [hfull])
      rw [hfull] at HSk
      have HCp := Lib.hid (fun (V : World) (hV : Reads V V.heap.size A1 (reals x)) => (show Calls Try.prog 16 #[.slice A1 k c1] V (RetN1 x V) by
        have h := Copy_c A1 x c1 V (by rw [HXl.out]; omega) HNi.out hV
        rw [HXl.out] at h
        exact n1_of h))
      have HNx := Lib.hid (show isNaN double sN = false from (fin_no (fin_c x4)).2)
      have hbx : x.length * 8 ≤ 140737488355328 := by rw [HXl.out]; omega
      have HBx := Lib.hid hbx
      clear hk hkm x1 x2 x3 x4 x5 hfinx hE hsN hfull hbx HOk
      go_upto_region 14 with fail
      go_wp2_with fail
      refine (HCp.out _ (HSk.out.rd.more (by have := lt_of_row HSk.out.a; omega))).mono ?_
      rintro e W5 ⟨A2, c2, rfl, hl2, hb⟩
      have HS5 := Lib.hid (HSk.out.below hb)
      have HL2 := Lib.hid hl2
      clear hb hl2 HSk
      go_wp2_with fail
      refine (SumErr_c A2 x c2 W5 HXw.out HBx.out HL2.out.reads).mono ?_
      rintro e W6 ⟨s1, v1, errs, rfl, h1, h2, h3, h4, h5, hb⟩
      have hs1 : s1 = sN := by
        have h6 := congrArg Prod.fst h1
        rw [HMap.out, HX1.out] at h6
        exact cn_only' h6 HNx.out
      have he1 : errs = E := by
        have h6 := congrArg Prod.snd h1
        rw [HMap.out, ← HEe.out] at h6
        exact map_cn_only h6 (fun z hz => (HFe.out z hz).1)
      subst hs1 he1
      obtain ⟨A3, n3, c3, rfl, hn3⟩ := slice_of_own h5
      have hn3' : n3 = k := by rw [hn3, h4, HXl.out]
      have HLe := Lib.hid (show Lst W6 W5.heap.size W6.heap.size A3 errs c3 by
        have h7 := OwnIn.of h5
        rw [hn3] at h7
        exact h7)
      have HEl := Lib.hid (show errs.length = k by rw [h4, HXl.out])
      subst hn3'
      have HS6 := Lib.hid (HS5.out.below hb)
      have HQ := Lib.hid (show q + 1 < W5.heap.size from lt_of_row HS5.out.b)
      clear h1 h2 h3 h4 h5 hb hn3 HS5 HL2 HEe HX1
      obtain ⟨lo, hlo⟩ : ∃ lo, lo = W5.heap.size := ⟨_, rfl⟩
      obtain ⟨hi, hhi⟩ : ∃ hi, hi = W6.heap.size := ⟨_, rfl⟩
      rw [← hlo, ← hhi] at HLe
      rw [← hlo] at HQ
      clear hlo hhi
      have f3 : isNaN FloatKind.f64.format s1 = false := HNx.out
      have HFi2 := Lib.hid (kFiniteR_c s1 HFs.out.2 HFs.out.1)
      go_wp2_with fail
      refine (HFi2.out _).mono ?_
      rintro e W7 ⟨rfl, hb⟩
      have HS7 := Lib.hid (HS6.out.below hb)
      have HL7 := Lib.hid (HLe.out.below hb)
      clear hb HS6 HLe HFi2
      go_upto_region 17 with fail
      have HOs := Lib.hid (Of_c s1 HFs.out.2 HFs.out.1)
      refine wp_region_lit ?_
      refine Go.Great.wpList_readTo rfl _ rfl (.float .f64 s1) (by kernel_rfl) ?_
      go_wp2_with fail
      refine (HOs.out _).mono ?_
      rintro e W8 ⟨rfl, hb⟩
      have HS8 := Lib.hid (HS7.out.below hb)
      have HL8 := Lib.hid (HL7.out.below hb)
      clear hb HS7 HL7 HOs
      dsimp only
      rename_i hK
      refine hK _ _ ?_
      refine wpList_store_row rfl 53 _ _ rfl (q + 1) (lim (ofX s1)) rfl rfl 53 _ HS8.out.b (by rw [lim_size]; kernel_rfl) (by rw [lim_size, lim_size]) (mixL_one _ _ _) ?_
      have HS9 := Lib.hid (HS8.out.setB (T' := ofX s1))
      have HL9 := Lib.hid (HL8.out.over (V := W8.setRow (q + 1) (lim (ofX s1))) setRow_grown (.inr HQ.out))
      obtain ⟨W9, hW9⟩ : ∃ W9, W9 = W8.setRow (q + 1) (lim (ofX s1)) := ⟨_, rfl⟩
      rw [← hW9] at HS9 HL9 ⊢
      clear hW9 HS8 HL8
      go_upto_region 19 with fail
      have HS0 := Lib.hid (show AlS w q q A1 x (sumX x) (ofX s1 + sumX (errs.take 0)) W9 by
        rw [List.take_zero, sumX_nil, Int.add_zero]; exact HS9.out)
      clear HS9 hkm'
      go_loopw [11] (fun iv wr => ∃ k2 : Nat, k2 ≤ n3 ∧ iv = .int .i64 (k2 : Nat) ∧ Hid (AlS w q q A1 x (sumX x) (ofX s1 + sumX (errs.take k2)) wr) ∧ Hid (Lst wr lo hi A3 errs c3)) (fun iv _ => n3 - (intOf iv).toNat)
      case atStart => exact ⟨0, Nat.zero_le _, rfl, HS0, HL9⟩
      case round =>
        obtain ⟨k2, hk2, rfl, HSk2, HLk2⟩ := hrel
        clear HS0 HL9
        rename World => wr2
        by_cases hkm2 : k2 < n3
        · obtain ⟨z, hz⟩ : ∃ z, errs[k2]? = some z := ⟨errs[k2]'(by rw [HEl.out]; exact hkm2), List.getElem?_eq_getElem _⟩
          obtain ⟨hzf, hzl⟩ := HFe.out z (List.mem_of_getElem? hz)
          have hv1 : (reals errs)[k2]? = some (.float .f64 z) := by simp [reals, hz]
          obtain ⟨ad, rfl, hab, hcell⟩ := HLk2.out.reads.at_ hv1
          have HZl := Lib.hid hzl
          have HOz := Lib.hid (Of_c z hzl hzf)
          have HFz := Lib.hid (kFiniteR_c z hzl hzf)
          have HPl := Lib.hid (Plus_c (ofX s1 + sumX (errs.take k2)) (ofX z))
          have HTk := Lib.hid (show ofX s1 + sumX (errs.take (k2 + 1)) = ofX s1 + sumX (errs.take k2) + ofX z by
            have hkl : k2 < errs.length := by rw [HEl.out]; exact hkm2
            have e : errs[k2] = z := by rw [List.getElem?_eq_getElem hkl] at hz; exact Option.some.inj hz
            rw [List.take_succ_eq_append_getElem hkl, e, sumX_snoc, Int.add_assoc])
          have hkm3 : (k2 : Int) < n3 := by omega
          clear hz hzf hzl hv1 hk2
          go_upto_region 21 with fail
          go_wp2_with fail
          refine (HFz.out _).mono ?_
          rintro e wk ⟨rfl, hb⟩
          have hcw : wk.cell? (ad.add k2) = some (.float .f64 z) := (hb.cell (by
            have h2 : (ad.add k2).block = ad.block := by unfold Addr.add; split <;> rfl
            rw [h2]; exact hab)).trans hcell
          have hblk : (ad.add k2).block < wk.heap.size := by
            have h2 : (ad.add k2).block = ad.block := by unfold Addr.add; split <;> rfl
            rw [h2]; exact Nat.lt_of_lt_of_le hab hb.size
          have HSn := Lib.hid (HSk2.out.below hb)
          have HLn := Lib.hid (HLk2.out.below hb)
          clear HSk2 HLk2 hb hcell hab HFz
          have HSk2 := HSn
          go_upto_region 23 with fail
          have hKc := Lib.hid (fun (V : World) (hV : Below wk.heap.size wk V) => (hV.cell hblk).trans hcw)
          clear hblk hcw
          have hS0 : Below wk.heap.size wk wk.drew := (Below.refl wk.heap.size wk).drew
          refine wp_region_K 7 (by kernel_rfl) (Below wk.heap.size wk) (by kernel_rfl) (fun hsel hcl => ?_)
          refine wpAnyK_takeNeed [6] (i := 0) (v := .agg (lim (ofX s1 + sumX (errs.take k2)))) rfl hsel hcl (by kernel_rfl) (by kernel_rfl) rfl (by decide +kernel) (fun _ _ _ h => h) rfl hS0 (fun V hV => exec_load_row 53 _ rfl (q + 1) rfl 53 (lim (ofX s1 + sumX (errs.take k2))) (0, 0) _ (rowE_keep hV HSk2.out.b) Try.underlying53 rfl (by rw [lim_size]; kernel_rfl)) (fun hcl => ?_)
          simp only [Act.put, List.setIfInBounds_toArray, List.set_cons_zero, List.set_cons_succ]
          refine wpAnyK_takeFree (i := 1) (v := ?vb1) rfl hsel hcl (by kernel_rfl) (by kernel_rfl) rfl (fun _ _ _ h => h) rfl hS0 ?hyb1 (fun hcl => ?hb1)
          case hyb1 => (intro w'; go_simp; first | done | with_reducible rfl)
          simp only [Act.put, List.setIfInBounds_toArray, List.set_cons_zero, List.set_cons_succ]
          refine wpAnyK_takeFree (i := 2) (v := ?vb2) rfl hsel hcl (by kernel_rfl) (by kernel_rfl) rfl (fun _ _ _ h => h) rfl hS0 ?hyb2 (fun hcl => ?hb2)
          case hyb2 => (intro w'; go_simp; first | done | with_reducible rfl)
          simp only [Act.put, List.setIfInBounds_toArray, List.set_cons_zero, List.set_cons_succ]
          refine wpAnyK_takeFree (i := 3) (v := ?vb3) rfl hsel hcl (by kernel_rfl) (by kernel_rfl) rfl (fun _ _ _ h => h) rfl hS0 ?hyb3 (fun hcl => ?hb3)
          case hyb3 => (intro w'; go_simp; first | done | with_reducible rfl)
          simp only [Act.put, List.setIfInBounds_toArray, List.set_cons_zero, List.set_cons_succ]
          refine wpAnyK_takeNeed [6, 5] (i := 4) (v := ?vb4) rfl hsel hcl (by kernel_rfl) (by kernel_rfl) rfl (by decide +kernel) (fun _ _ _ h => h) rfl hS0 ?hyb4 (fun hcl => ?hb4)
          case hyb4 => (intro V hV; have hcV := hKc.out V hV; go_simp; first | done | with_reducible rfl)
          simp only [Act.put, List.setIfInBounds_toArray, List.set_cons_zero, List.set_cons_succ]
          refine wpAnyK_one (i := 5) rfl (by decide +kernel) rfl rfl ?_
          go_simp
          refine (HOz.out _).mono ?_
          rintro e V1 ⟨rfl, hb⟩
          have hS1 : Below wk.heap.size wk V1 := hS0.trans (hb.mono (by simp))
          clear hb
          refine ⟨hS1, ?_⟩
          refine wpAnyK_one (i := 6) rfl (by decide +kernel) rfl rfl ?_
          go_simp
          refine (HPl.out _).mono ?_
          rintro e V2 ⟨rfl, hb⟩
          have hS2 : Below wk.heap.size wk V2 := hS1.trans (hb.mono hS1.size)
          clear hb
          refine ⟨hS2, ?_⟩
          refine wpAnyK_storeRowEnd (st := 7) 53 (.tmp 6) (.tmp 93) rfl (by decide +kernel) rfl rfl rfl (q + 1) (lim (ofX s1 + sumX (errs.take k2) + ofX z)) rfl rfl 53 _ (rowE_keep hS2 HSk2.out.b) (by rw [lim_size]; kernel_rfl) (by rw [lim_size, lim_size]) (mixL_one _ _ _) (by decide +kernel) ?_
          have HS5 := Lib.hid (HSn.out.below hS2 |>.setB (T' := ofX s1 + sumX (errs.take k2) + ofX z))
          have HL5 := Lib.hid ((HLn.out.below hS2).over (V := V2.setRow (q + 1) (lim (ofX s1 + sumX (errs.take k2) + ofX z))) setRow_grown (.inr HQ.out))
          obtain ⟨V3, hV3⟩ : ∃ V3, V3 = V2.setRow (q + 1) (lim (ofX s1 + sumX (errs.take k2) + ofX z)) := ⟨_, rfl⟩
          rw [← hV3] at HS5 HL5 ⊢
          clear hV3 hS0 hS1 hS2 hKc HOz HPl HSn HLn HSk2
          rw [← HTk.out] at HS5
          go_wp2
          go_roundw
          case rel => exact ⟨k2 + 1, hkm2, by go_num, HS5, HL5⟩
          case measure => simp [intOf]; omega
        · have e : k2 = n3 := by omega
          subst e
          have hkm2' : ¬ (k2 : Int) < k2 := by omega
          have HEq := Lib.hid (show ofX s1 + sumX (errs.take k2) = sumX x by
            rw [← HEl.out, List.take_length]; exact HX3.out)
          have hsk := HSk2.out
          rw [HEq.out] at hsk
          have HS6 := Lib.hid hsk
          clear hsk HSk2 hk2
          go_upto_region 24 with fail
          refine wp_region_lit ?_
          refine Go.Great.wpList_readTo rfl _ rfl (.bool true) (by kernel_rfl) ?_
          refine Go.Great.wpList_readTo rfl _ rfl (.bool true) (by kernel_rfl) ?_
          refine wpList_load_rowW (by kernel_rfl) 53 _ rfl q rfl 53 (lim (sumX x)) (0, 0) _ HS6.out.a Try.underlying53 rfl (by rw [lim_size]; kernel_rfl) ?_
          refine wpList_load_rowW (by kernel_rfl) 53 _ rfl (q + 1) rfl 53 (lim (sumX x)) (0, 0) _ HS6.out.b Try.underlying53 rfl (by rw [lim_size]; kernel_rfl) ?_
          have heq := equal_lim (sumX x)
          go_wp2_with fail
          refine (HCp.out _ (HS6.out.rd.more (by have := lt_of_row HS6.out.a; omega))).mono ?_
          rintro e W5 ⟨A5, c5, rfl, hl5, hb⟩
          have HB5 := Lib.hid (HS6.out.bel.trans (hb.mono HS6.out.bel.size))
          have HL5 := Lib.hid hl5
          clear hb hl5
          go_wp2_with fail
          refine (Sum_c A5 x c5 W5 HBx.out HL5.out.reads).mono ?_
          rintro e W6 ⟨v, n, rfl, hv, hvl, rfl⟩
          have hsame := Same1_c v s1
          have hdec : decide (cn .f64 v = cn .f64 s1) = true := decide_eq_true (by rw [hv, HMap.out, HSN.out, cn_fin HFs.out.1])
          have HSm := Lib.hid hsame
          rw [hdec] at HSm
          have HB6 := Lib.hid (below_drewN HB5.out n)
          clear hsame hdec hv
          go_wp2_with fail
          refine (HSm.out _).mono ?_
          rintro e W7 ⟨rfl, rfl⟩
          go_wp2
          go_ret
          exact ⟨rfl, HB6.out⟩
end Go.Proofs.Ytbajeonhiaaclaa
