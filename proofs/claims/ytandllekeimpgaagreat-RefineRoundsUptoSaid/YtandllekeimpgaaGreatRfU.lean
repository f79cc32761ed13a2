/- Layer 11: the document's Once: its sizes, what fits. -/
import Derived.Test.YtandllekeimpgaaGreatRf8
import Derived.Test.YtandllekeimpgaaGreatRfS
import Derived.Test.YtandllekeimpgaaGreatRQ2
import Derived.Test.YtandllekeimpgaaGreatRC3
import Derived.Test.YtandllekeimpgaaGreatExt
import Derived.Test.YtandllekeimpgaaGreatRf9
import Derived.Deep.DeepCutAuto
import Derived.Deep.QuietTactic
import Derived.Deep.RegionHeld3
namespace Go.Proofs.YtandllekeimpgaaGreat
open Go.RowKit Fl Ieee
set_option maxRecDepth 20000
attribute [local go_sem] run_store_float run_store_complex Fl.order_self Fl.order_self' Fl.order_eq Fl.order_ne Fl.order_lt Fl.order_gt
theorem rnormV_c (A : Option Addr) (l : List C) (c : Nat) (w : World) (hlt : ltCs l) (hmax : l.length ≤ 4611686018427387904) (hA : Reads w w.heap.size A (nums l)) :
    Calls Tryz.prog 38 #[.slice A l.length c] w (RetR (normV (l.map cnC)) w) := by
  have HA := Lib.hid hA
  have HLt := Lib.hid hlt
  clear hA hlt
  go_enter Tryz.func38, Tryz.ntmps38
  go_wp2
  go_loopw [3, 4] (fun sv i wr => ∃ k d t : Nat, k ≤ l.length ∧ i = .int .i64 (k : Nat) ∧ sv = .float .f64 t ∧ Hid (cn .f64 t = normV ((l.take k).map cnC) ∧ t < 18446744073709551616) ∧ wr = w.drewN d) (fun _ i _ => l.length - (intOf i).toNat)
  case atStart => exact ⟨0, 0, 0, Nat.zero_le _, rfl, rfl, Lib.hid ⟨by show cn .f64 0 = 0; decide, by decide⟩, rfl⟩
  case round =>
    obtain ⟨k, d, t, hk, rfl, rfl, HT, rfl⟩ := hrel
    by_cases hlt : k < l.length
    · obtain ⟨x, hx⟩ := some_of_lt (l := l) (k := k) hlt
      have hxv : (nums l)[k]? = some (.complex .f64 x.1 x.2) := by simp [nums, hx]
      obtain ⟨ad, rfl, _, hc1⟩ := HA.out.at_ hxv
      have hz := HLt.out x (List.mem_of_getElem? hx)
      have HX := Lib.hid hx
      have HSc := Lib.hid (rSize1_c x.1 x.2 hz.1 hz.2)
      have hc2 : (w.drewN d).cell? (ad.add k) = some (.complex .f64 x.1 x.2) := hc1
      clear hx hxv hz hc1
      go_wp2_with fail
      refine (HSc.out _).mono ?_
      rintro e w' ⟨y, n9, rfl, hy, hyl, rfl⟩
      have HY := Lib.hid hy
      clear hy
      go_wp2_with fail
      refine upon_add _ _ _ _ ?_
      intro r1 n1 h1
      have H1 := Lib.hid (show cn .f64 r1 = normV ((l.take (k + 1)).map cnC) ∧ r1 < 18446744073709551616 from ⟨by
        have hkl := lt_of_some HX.out
        have e : l[k] = x := by have h := HX.out; rw [List.getElem?_eq_getElem hkl] at h; exact Option.some.inj h
        rw [h1.1, HY.out, HT.out.1, List.take_succ_eq_append_getElem hkl, e, List.map_append]
        unfold normV
        rw [List.foldl_append]; rfl, h1.2⟩)
      clear h1
      go_wp2
      go_roundw
      case rel => exact ⟨k + 1, d + n9 + n1, r1, hlt, by go_num, rfl, H1, by simp [Nat.add_assoc]⟩
      case measure => simp [intOf]; omega
    · have e : k = l.length := by omega
      go_wp2
      go_ret
      have h := HT.out
      rw [e, List.take_length] at h
      exact closeR h.1 h.2
theorem rfits_c {B b n : Nat} {S : El} {ti : Bool} (A : Option Addr) (k cap : Nat) (w : World) (h : rHas w B b n S ti) (hok : okM n n k = true) :
    Calls Tryz.prog 33 #[mval n n (.slice A k cap), .pointer (some ⟨b, 0, none⟩)] w (RetV (.int .i64 0) w) := by
  obtain ⟨W0, hW0⟩ : ∃ W0, W0 = w.alloc (.cells #[.int .i64 (n : Nat), .int .i64 (n : Nat), .slice A k cap] 27) := ⟨_, rfl⟩
  have hrow : W0.heap[w.heap.size]? = some (.cells #[.int .i64 (n : Nat), .int .i64 (n : Nat), .slice A k cap] 27) := by rw [hW0]; exact heap_alloc_new _ _
  have hb0 : Below w.heap.size w W0 := by rw [hW0]; exact below_new _ _
  have HB0 := Lib.hid hb0
  have H0 := Lib.hid (h.below hb0)
  have HRow := Lib.hid hrow
  have HW := Lib.hid hW0
  have HCk := Lib.hid (fun V (hV : Below W0.heap.size W0 V) => (show Calls Tryz.prog 63 #[mval n n (.slice A k cap)] V (fun e w' => e = .returned (.int .i64 0) ∧ Below W0.heap.size W0 w') from by
    have hc := rCheck_c n n A k cap V
    rw [hok, if_pos rfl] at hc
    exact hc.mono fun e w' h => ⟨h.1, hV.trans (h.2.mono hV.size)⟩))
  have HSz := Lib.hid (fun V (hV : Below W0.heap.size W0 V) => rSize_c V (H0.out.below hV))
  have HKc := Lib.hid (fun V (hV : Below W0.heap.size W0 V) => (show V.cell? ⟨w.heap.size, 0, none⟩ = some (.int .i64 (n : Nat)) ∧ V.cell? ⟨w.heap.size, 1, none⟩ = some (.int .i64 (n : Nat)) ∧ V.cell? ⟨w.heap.size, 2, none⟩ = some (.slice A k cap) from by
    obtain ⟨y0, y1, y2, -⟩ := box3 (row_keep hV HRow.out)
    exact ⟨y0, y1, y2⟩))
  have hcl := H0.out.cells
  have hb00 : Below W0.heap.size W0 W0 := Below.refl _ _
  clear hW0 hrow hb0 h hok
  go_enter Tryz.func33, Tryz.ntmps33
  go_upto_region 1 with fail
  rw [← HW.out]
  clear HW
  obtain ⟨A2, c2, A3, c3, x0, x1, x2, x3, x4⟩ := hcl
  obtain ⟨c0, c1, c2', -⟩ := box3 HRow.out
  go_upto_region 3 with fail
  go_region_held3 (fun V => V.cell? ⟨w.heap.size, 0, none⟩ = some (.int .i64 (n : Nat)) ∧ V.cell? ⟨w.heap.size, 1, none⟩ = some (.int .i64 (n : Nat)) ∧ V.cell? ⟨w.heap.size, 2, none⟩ = some (.slice A k cap))
    (exact HKc.out _ (by repeat (first | with_reducible assumption | with_reducible refine Below.drew ?_)))
    (first
    | (go_at_call 63; (refine (HCk.out _ ?_).mono ?_); (repeat (first | with_reducible assumption | with_reducible refine Below.drew ?_)); (rintro e W1 ⟨rfl, hb1⟩); (obtain ⟨z0, z1, z2⟩ := HKc.out W1 hb1))
    | (go_at_call 64; (refine (HSz.out _ ?_).mono ?_); (repeat (first | with_reducible assumption | with_reducible refine Below.drew ?_)); (rintro e W2 ⟨rfl, rfl⟩)))
  all_goals
    go_wp2
    go_ret
    exact ⟨rfl, HB0.out.trans (hb1.mono HB0.out.size)⟩
structure rOnI (w W0 V : World) (r c : Int) (A Ax Ab : Option Addr) (m x b : List C) (cap B e n : Nat) (S : El) (ti : Bool) : Prop where
  box : V.heap[w.heap.size]? = some (.cells #[.int .i64 r, .int .i64 c, .slice A m.length cap] 27)
  bel : Below w.heap.size w V
  b0 : Below W0.heap.size W0 V
  rm : Reads V V.heap.size A (nums m)
  rx : Reads V V.heap.size Ax (nums x)
  rb : Reads V V.heap.size Ab (nums b)
  h9 : rHas V B e n S ti
theorem rOnI.below {w W0 V V' : World} {r c : Int} {A Ax Ab : Option Addr} {m x b : List C} {cap B e n : Nat} {S : El} {ti : Bool} (h : rOnI w W0 V r c A Ax Ab m x b cap B e n S ti) (hb : Below V.heap.size V V') (hl : w.heap.size < V.heap.size) : rOnI w W0 V' r c A Ax Ab m x b cap B e n S ti :=
  ⟨by rw [hb.block _ hl]; exact h.box, h.bel.trans (hb.mono h.bel.size), h.b0.trans (hb.mono h.b0.size), (h.rm.below hb).more hb.size, (h.rx.below hb).more hb.size, (h.rb.below hb).more hb.size, h.h9.below hb⟩
theorem rOnI.lt {w W0 V : World} {r c : Int} {A Ax Ab : Option Addr} {m x b : List C} {cap B e n : Nat} {S : El} {ti : Bool} (h : rOnI w W0 V r c A Ax Ab m x b cap B e n S ti) : w.heap.size < V.heap.size := by
  rcases Nat.lt_or_ge w.heap.size V.heap.size with h1 | h1
  · exact h1
  · have := h.box; rw [Array.getElem?_eq_none h1] at this; cases this
theorem rOnce_c {B e n : Nat} {S : El} {ti : Bool} (r c : Int) (A Ax Ab : Option Addr) (m x b : List C) (cap cx cb : Nat) (w : World) (h9 : rHas w B e n S ti) (hsq : r = n ∧ c = n) (hok0 : okM n n m.length = true) (hf : finTo S.E n) (hp : Perm n S.o) (hn : n ≤ 64) (hcap : m.length ≤ cap) (hcx : x.length ≤ cx) (hcb : b.length ≤ cb) (lm : ltCs m) (lx : ltCs x) (lb : ltCs b)
    (rm : Reads w w.heap.size A (nums m)) (rx : Reads w w.heap.size Ax (nums x)) (rb : Reads w w.heap.size Ab (nums b)) :
    Calls Tryz.prog 11 #[mval r c (.slice A m.length cap), .pointer (some ⟨e, 0, none⟩), .slice Ax x.length cx, .slice Ab b.length cb] w (RetLf (onceR n S r c m x b) (onceE n S r c m x b) w) := by
  obtain ⟨W0, hW0⟩ : ∃ W0, W0 = w.alloc (.cells #[.int .i64 r, .int .i64 c, .slice A m.length cap] 27) := ⟨_, rfl⟩
  have hb0 : Below w.heap.size w W0 := by rw [hW0]; exact below_new _ _
  have HI0 := Lib.hid (show rOnI w W0 W0 r c A Ax Ab m x b cap B e n S ti from ⟨by rw [hW0]; exact heap_alloc_new _ _, hb0, Below.refl _ _, (rm.below hb0).more hb0.size, (rx.below hb0).more hb0.size, (rb.below hb0).more hb0.size, h9.below hb0⟩)
  have HW := Lib.hid hW0
  have HFi := Lib.hid (show Calls Tryz.prog 33 #[mval r c (.slice A m.length cap), .pointer (some ⟨e, 0, none⟩)] W0 (RetV (.int .i64 0) W0) from by
    rw [hsq.1, hsq.2]; exact rfits_c A m.length cap W0 HI0.out.h9 hok0)
  obtain ⟨OE, hOE⟩ : ∃ OE, OE = onceE n S r c m x b := ⟨_, rfl⟩
  obtain ⟨OR, hOR⟩ : ∃ OR, OR = onceR n S r c m x b := ⟨_, rfl⟩
  rw [← hOE, ← hOR]
  have HO := Lib.hid (And.intro hOE hOR)
  have HLe := Lib.hid (fun (V : World) (hV : rOnI w W0 V r c A Ax Ab m x b cap B e n S ti) => RLeft_c r c A Ax Ab m x b cap cx cb V hcap hcx hcb lm lx lb hV.rm hV.rx hV.rb)
  obtain ⟨LE, hLE⟩ : ∃ LE, LE = leftE r c m x b := ⟨_, rfl⟩
  obtain ⟨LR, hLR⟩ : ∃ LR, LR = leftR r c m x b := ⟨_, rfl⟩
  rw [← hLE, ← hLR] at HLe
  have HL := Lib.hid (And.intro hLE hLR)
  have HF := Lib.hid (And.intro hf (And.intro hp lx))
  have HRc := Lib.hid hsq
  clear hok0 hsq
  clear hW0 hb0 rm rx rb h9 hOE hOR hLE hLR lm lx lb hf hp hcap hcx hcb
  obtain ⟨Mn, hMn⟩ : ∃ Mn, Mn = m.length := ⟨_, rfl⟩
  have HMn := Lib.hid hMn
  rw [← hMn] at HW HFi HLe ⊢
  clear hMn
  go_enter Tryz.func11, Tryz.ntmps11
  go_upto_region 1 with fail
  rw [← HW.out]
  clear HW
  obtain ⟨c0, c1, c2, -⟩ := box3 HI0.out.box
  rw [← HMn.out] at c2
  go_wp2_with fail
  refine (HFi.out).mono ?_
  rintro e1 W1 ⟨rfl, hb1⟩
  have HI1 := Lib.hid (HI0.out.below hb1 HI0.out.lt)
  obtain ⟨d0, d1, d2, -⟩ := box3 HI1.out.box
  rw [← HMn.out] at d2
  clear hb1 c0 c1 c2 HFi HI0
  · skip
    go_wp2_with fail
    refine (HLe.out W1 HI1.out).mono ?_
    rintro e2 W2 ⟨s2, rfl, hown, hb2⟩
    have HI2 := Lib.hid (HI1.out.below hb2 HI1.out.lt)
    obtain ⟨A2, k2, rfl, hr2, -, -⟩ := own_readsT hown
    have HR2 := Lib.hid hr2
    clear hown hb2 hr2 d0 d1 d2 HI1 HLe
    by_cases hle : LE = 0
    · have hle' : (LE != 0) = false := by simp [hle]
      obtain ⟨g1, g2, g3, g4, g5⟩ := leftR_ok (HL.out.1 ▸ hle)
      rw [← HL.out.2] at g3 g4
      have hl2 : LR.length = n := by have := HRc.out.1; omega
      have hlx : x.length = n := by have := HRc.out.2; omega
      have HSo := Lib.hid (rSolve_run A2 LR k2 W2 HI2.out.h9 HF.out.1 HF.out.2.1 hn hl2 (List.all_eq_true.1 g4) (by rw [HL.out.2]; exact leftR_lt _ _ _ _ _) HR2.out)
      obtain ⟨ok, hok⟩ : ∃ ok, ok = solOk n S LR := ⟨_, rfl⟩
      rw [← hok] at HSo
      have HOk := Lib.hid hok
      have HLe0 := Lib.hid (And.intro hle (And.intro hl2 hlx))
      clear g1 g2 g3 g4 g5 hle hok hl2 hlx
      go_wp2_with fail
      refine HSo.out.mono ?_
      rintro e3 W3 ⟨s3, rfl, hown, hb3⟩
      have HI3 := Lib.hid (HI2.out.below hb3 HI2.out.lt)
      cases ok
      · have HOe := Lib.hid (show OE = 6 ∧ OR = [] by
          have e1 : OE = 6 := by rw [HO.out.1]; unfold onceE; rw [if_pos HRc.out, if_pos (by rw [← HL.out.1]; exact HLe0.out.1), if_neg (by rw [← HL.out.2, ← HOk.out]; decide)]
          refine ⟨e1, ?_⟩
          rw [HO.out.2]; unfold onceR; rw [← HO.out.1, e1]; rfl)
        clear hown hb3
        go_wp2
        go_ret2
        refine ⟨_, by rw [HOe.out.1]; rfl, ?_, HI3.out.bel⟩
        rw [HOe.out.2]
        exact World.ownsRow_nil _ _ _ _
      · obtain ⟨DL, hDL⟩ : ∃ DL, DL = solL n S LR := ⟨_, rfl⟩
        rw [if_pos rfl] at hown
        rw [← hDL] at hown
        have hdl : DL.length = n := by rw [hDL]; simp [solL]
        obtain ⟨A3, k3, rfl, hr3, -, -⟩ := own_readsT hown
        have HDl := Lib.hid (And.intro hDL hdl)
        have HR3 := Lib.hid hr3
        have hlx2 := HLe0.out.2.2
        obtain ⟨VL, hVL⟩ : ∃ VL, VL = vaddL x DL := ⟨_, rfl⟩
        have hvl : VL.length = n := by rw [hVL]; unfold vaddL; rw [List.length_zipWith, hlx2, hdl]; omega
        have HVl := Lib.hid (And.intro hVL hvl)
        obtain ⟨i0, hi0, hz0, hz1, hz2⟩ := info_parts infoNum
        rw [hdl]
        rw [hlx2]
        clear hown hb3 hr3 hDL hdl hlx2 HSo hVL hvl
        go_wp2
        go_loopw [13, 14] (fun sv iv wr => ∃ (i : Nat) (zs : List C), i ≤ n ∧ iv = .int .i64 (i : Nat) ∧ Hid (zs.map cnC = VL.take i) ∧ Hid (ltCs zs) ∧ Hid (wr.ownsRow W3.heap.size 60 1 sv i (nums zs)) ∧ Hid (Below W3.heap.size W3 wr)) (fun _ iv _ => n - (intOf iv).toNat)
        case atStart => exact ⟨0, [], Nat.zero_le _, rfl, Lib.hid rfl, Lib.hid (fun z hz => by cases hz), Lib.hid (World.ownsRow_nil _ _ _ _), Lib.hid (Below.refl _ _)⟩
        case round =>
          obtain ⟨i, zs, hi, rfl, HZs, HZl, HOw, HBr⟩ := hrel
          rename World => wr
          by_cases hin : i < n
          · have hin' : (i : Int) < n := by omega
            obtain ⟨xz, hxz⟩ := some_of_lt (l := x) (k := i) (by rw [HLe0.out.2.2]; exact hin)
            obtain ⟨dz, hdz⟩ := some_of_lt (l := DL) (k := i) (by rw [HDl.out.2]; exact hin)
            obtain ⟨ax, rfl, -, -⟩ := (HI3.out.rx).at_ (k := i) (u := .complex .f64 xz.1 xz.2) (by simp [nums, hxz])
            obtain ⟨ad, rfl, -, -⟩ := (HR3.out).at_ (k := i) (u := .complex .f64 dz.1 dz.2) (by simp [nums, hdz])
            have HCe := Lib.hid (fun V (hV : Below W3.heap.size W3 V) => (show V.cell? (ax.add i) = some (.complex .f64 xz.1 xz.2) ∧ V.cell? (ad.add i) = some (.complex .f64 dz.1 dz.2) from by
              obtain ⟨a1, e1, -, h1⟩ := (HI3.out.rx.below hV).at_ (k := i) (u := .complex .f64 xz.1 xz.2) (by simp [nums, hxz])
              obtain ⟨a2, e2, -, h2⟩ := (HR3.out.below hV).at_ (k := i) (u := .complex .f64 dz.1 dz.2) (by simp [nums, hdz])
              rw [Option.some.inj e1, Option.some.inj e2]; exact ⟨h1, h2⟩))
            have HAt := Lib.hid (show VL.take (i + 1) = VL.take i ++ [pAdd (cnC xz) (cnC dz)] from by
              have hkl : i < VL.length := by rw [HVl.out.2]; exact hin
              rw [List.take_succ_eq_append_getElem hkl]
              congr 2
              have h1 : VL[i]? = some (pAdd (cnC xz) (cnC dz)) := by rw [HVl.out.1]; unfold vaddL; rw [List.getElem?_zipWith, hxz, hdz]
              rw [List.getElem?_eq_getElem hkl] at h1
              exact Option.some.inj h1)
            have HAd := Lib.hid (rAdd_c xz.1 xz.2 dz.1 dz.2)
            have HSz := Lib.hid (show i + 1 ≤ maxLen ∧ (i + 1) * 16 ≤ 140737488355328 from by unfold maxLen; omega)
            have hbr := HBr.out
            clear hxz hdz hi
            go_upto_region 14 with fail
            refine wp_region_noPanic ?_
            refine wp_region_held_drew (S := fun V => V.cell? (ax.add i) = some (.complex .f64 xz.1 xz.2) ∧ V.cell? (ad.add i) = some (.complex .f64 dz.1 dz.2)) (by kernel_rfl) (HCe.out _ hbr.drew) (fun hS0 => ?_)
            refine wpAnyH_take (i := 0) (v := ?vvo0) rfl (by kernel_rfl) (by kernel_rfl) (by kernel_rfl) (fun _ _ _ h => h) (Or.inl ⟨rfl, ?yyo0⟩) hS0 ?_
            case yyo0 => (intro w' hSw; (try dsimp only at hSw); obtain ⟨s1, s2⟩ := hSw; first | (go_simp; done) | (go_simp; with_reducible rfl) | kernel_rfl)
            simp only [Act.put]
            refine wpAnyH_take (i := 1) (v := ?vvo1) rfl (by kernel_rfl) (by kernel_rfl) (by kernel_rfl) (fun _ _ _ h => h) (Or.inl ⟨rfl, ?yyo1⟩) hS0 ?_
            case yyo1 => (intro w' hSw; (try dsimp only at hSw); obtain ⟨s1, s2⟩ := hSw; first | (go_simp; done) | (go_simp; with_reducible rfl) | kernel_rfl)
            simp only [Act.put]
            refine wpAnyH_take (i := 2) (v := ?vvo2) rfl (by kernel_rfl) (by kernel_rfl) (by kernel_rfl) (fun _ _ _ h => h) (Or.inl ⟨rfl, ?yyo2⟩) hS0 ?_
            case yyo2 => (intro w' hSw; (try dsimp only at hSw); obtain ⟨s1, s2⟩ := hSw; first | (go_simp; done) | (go_simp; with_reducible rfl) | kernel_rfl)
            simp only [Act.put]
            refine wpAnyH_take (i := 3) (v := ?vvo3) rfl (by kernel_rfl) (by kernel_rfl) (by kernel_rfl) (fun _ _ _ h => h) (Or.inl ⟨rfl, ?yyo3⟩) hS0 ?_
            case yyo3 => (intro w' hSw; (try dsimp only at hSw); obtain ⟨s1, s2⟩ := hSw; first | (go_simp; done) | (go_simp; with_reducible rfl) | kernel_rfl)
            simp only [Act.put]
            refine wpAnyH_take (i := 4) (v := ?vvo4) rfl (by kernel_rfl) (by kernel_rfl) (by kernel_rfl) (fun _ _ _ h => h) (Or.inl ⟨rfl, ?yyo4⟩) hS0 ?_
            case yyo4 => (intro w' hSw; (try dsimp only at hSw); obtain ⟨s1, s2⟩ := hSw; first | (go_simp; done) | (go_simp; with_reducible rfl) | kernel_rfl)
            simp only [Act.put]
            refine wpAnyH_take (i := 5) (v := ?vvo5) rfl (by kernel_rfl) (by kernel_rfl) (by kernel_rfl) (fun _ _ _ h => h) (Or.inl ⟨rfl, ?yyo5⟩) hS0 ?_
            case yyo5 => (intro w' hSw; (try dsimp only at hSw); obtain ⟨s1, s2⟩ := hSw; first | (go_simp; done) | (go_simp; with_reducible rfl) | kernel_rfl)
            simp only [Act.put]
            refine wpAnyH_take (i := 6) (v := ?vvo6) rfl (by kernel_rfl) (by kernel_rfl) (by kernel_rfl) (fun _ _ _ h => h) (Or.inl ⟨rfl, ?yyo6⟩) hS0 ?_
            case yyo6 => (intro w' hSw; (try dsimp only at hSw); obtain ⟨s1, s2⟩ := hSw; first | (go_simp; done) | (go_simp; with_reducible rfl) | kernel_rfl)
            simp only [Act.put]
            refine wpAnyH_take (i := 7) (v := ?vvo7) rfl (by kernel_rfl) (by kernel_rfl) (by kernel_rfl) (fun _ _ _ h => h) (Or.inl ⟨rfl, ?yyo7⟩) hS0 ?_
            case yyo7 => (intro w' hSw; (try dsimp only at hSw); obtain ⟨s1, s2⟩ := hSw; first | (go_simp; done) | (go_simp; with_reducible rfl) | kernel_rfl)
            simp only [Act.put]
            refine wpAnyH_take (i := 8) (v := ?vvo8) rfl (by kernel_rfl) (by kernel_rfl) (by kernel_rfl) (fun _ _ _ h => h) (Or.inl ⟨rfl, ?yyo8⟩) hS0 ?_
            case yyo8 => (intro w' hSw; (try dsimp only at hSw); obtain ⟨s1, s2⟩ := hSw; first | (go_simp; done) | (go_simp; with_reducible rfl) | kernel_rfl)
            simp only [Act.put]
            refine wpAnyH_ready (rs := [9]) (by kernel_rfl) (by simp) ?_
            refine AllReadyH.cons rfl (fun K hK => ?_) AllReadyH.nil
            go_simp
            refine (HAd.out _).mono ?_
            rintro e W4' ⟨y1, y2, d4, rfl, hy, hy1, hy2, W4e⟩
            obtain ⟨W4, hW4⟩ : ∃ V, V = W4' := ⟨_, rfl⟩
            have hb4 : Below W3.heap.size W3 W4 := by rw [hW4, W4e]; exact below_drewN hbr.drew d4
            have hw4 : Below wr.heap.size wr W4 := by rw [hW4, W4e]; exact below_drewN (Below.refl _ _).drew d4
            rw [← hW4]
            refine hK.out _ _ (HCe.out _ hb4) (fun hS1 => ?_)
            clear hK K hS0 W4e hW4
            refine wpAnyH_ready (rs := [10]) (by kernel_rfl) (by simp) ?_
            refine AllReadyH.cons rfl (fun K hK => ?_) AllReadyH.nil
            go_simp
            refine hK.out _ _ (HCe.out _ (hb4.new (Nat.le_refl _) _)) (fun hS2 => ?_)
            clear hK K hS1
            refine wpAnyH_ready (rs := [11]) (by kernel_rfl) (by simp) ?_
            refine AllReadyH.cons rfl (fun K hK => ?_) AllReadyH.nil
            simp only [Act.put]
            refine wp_append_held rfl (.tmp 46) (.tmp 56) 25 rfl W3.heap.size 60 i0 (.complex .f64 0 0) 1 16 Tryz.underlying25 hi0 hz0 hz1 hz2 rfl (by decide) _ _ _ rfl ((own_below HOw.out hw4).alloc _) ⟨W4.heap.size, 0, none⟩ 1 1 [.complex .f64 y1 y2] rfl rfl (cell_one_new _ _ _) (by intro u hu; simp at hu; subst hu; rfl) HSz.out.1 HSz.out.2 (Nat.le_trans hb4.size (below_new _ _).size) ?_
            intro s' w2 hown1 hgrow1 hat1
            have hb5 := (hb4.new (Nat.le_refl _) (.cells #[.complex .f64 y1 y2] 60)).grown hgrow1 (Nat.le_trans hb4.size (below_new _ _).size) (fun g hg => (HOw.out.lt g hg).1)
            have HO5 := Lib.hid (show w2.ownsRow W3.heap.size 60 1 s' (i + 1) (nums (zs ++ [(y1, y2)])) from by
              have er : nums zs ++ [.complex .f64 y1 y2] = nums (zs ++ [(y1, y2)]) := by simp [nums]
              rw [← er]; exact hown1)
            refine hK.out _ _ (HCe.out _ hb5) (fun hS3 => ?_)
            clear hK K hS2 hown1 hgrow1 hat1
            refine wpAnyH_take (i := 12) (v := ?vvz) rfl (by kernel_rfl) (by kernel_rfl) (by kernel_rfl) (fun _ _ _ h => h) (Or.inl ⟨rfl, ?yyz⟩) hS3 ?_
            case yyz => (intro w' hSw; first | (go_simp; done) | (go_simp; with_reducible rfl) | kernel_rfl)
            simp only [Act.put]
            refine wpAnyH_done (by kernel_rfl) ?_ _
            refine NoPanic.normal ?_
            have HZ5 := Lib.hid (show (zs ++ [(y1, y2)]).map cnC = VL.take (i + 1) from by
              rw [HAt.out, List.map_append, HZs.out]
              congr 1
              exact congrArg (fun q => [q]) hy)
            have HL5 := Lib.hid (show ltCs (zs ++ [(y1, y2)]) from fun z hz => by
              rcases List.mem_append.1 hz with h | h
              · exact HZl.out z h
              · rw [List.mem_singleton.1 h]; exact ⟨hy1, hy2⟩)
            have HB5 := Lib.hid hb5
            clear hS3 hb5 hb4 hw4 hy hy1 hy2 hbr
            go_wp2
            go_roundw
            case rel => exact ⟨i + 1, zs ++ [(y1, y2)], hin, by go_num, HZ5, HL5, HO5, HB5⟩
            case measure => simp [intOf]; omega
          · have e : i = n := by omega
            have hzn : zs.length = n := by
              have h1 := congrArg List.length HZs.out
              rw [List.length_map, List.length_take, HVl.out.2] at h1
              omega
            obtain ⟨A4, k4, rfl, hr4, -, -⟩ := own_readsT HOw.out
            have hz := HZs.out
            rw [e, List.take_of_length_le (by rw [HVl.out.2]; exact Nat.le_refl _)] at hz
            have HFz := Lib.hid (rfinite11_c A4 zs k4 wr HZl.out (by omega) hr4)
            rw [hzn, all_fin_cn hz] at HFz
            have HZn := Lib.hid (And.intro hz hzn)
            have HI4 := Lib.hid (HI3.out.below HBr.out HI3.out.lt)
            obtain ⟨okf, hokf⟩ : ∃ okf, okf = VL.all pFinite := ⟨_, rfl⟩
            rw [← hokf] at HFz
            have HKf := Lib.hid hokf
            have hin' : ¬ (i : Int) < n := by omega
            have HE := Lib.hid e
            subst e
            clear hz hzn hr4 hokf hi
            go_wp2_with fail
            refine HFz.out.mono ?_
            rintro e5 W5 ⟨d5, rfl, rfl⟩
            have HI5 := Lib.hid (HI4.out.below (below_drewN (Below.refl _ _) d5) HI4.out.lt)
            have hv : onceV i S r c m x b = VL := by unfold onceV; rw [HVl.out.1, HDl.out.1, HL.out.2]
            cases okf
            · have HOe := Lib.hid (show OE = 6 ∧ OR = [] by
                have e1 : OE = 6 := by rw [HO.out.1]; unfold onceE; rw [if_pos HRc.out, if_pos (by rw [← HL.out.1]; exact HLe0.out.1), if_pos (by rw [← HL.out.2, ← HOk.out]), hv, ← HKf.out]; rfl
                refine ⟨e1, ?_⟩
                rw [HO.out.2]; unfold onceR; rw [← HO.out.1, e1]; rfl)
              clear hv
              go_wp2
              go_ret2
              refine ⟨.slice none 0 0, by rw [HOe.out.1]; rfl, ?_, HI5.out.bel⟩
              rw [HOe.out.2]
              exact World.ownsRow_nil _ _ _ _
            · have HOe := Lib.hid (show OE = 0 ∧ OR = VL by
                have e1 : OE = 0 := by rw [HO.out.1]; unfold onceE; rw [if_pos HRc.out, if_pos (by rw [← HL.out.1]; exact HLe0.out.1), if_pos (by rw [← HL.out.2, ← HOk.out]), hv, ← HKf.out]; rfl
                refine ⟨e1, ?_⟩
                rw [HO.out.2]; unfold onceR; rw [← HO.out.1, e1, hv]; rfl)
              have HEx := Lib.hid (fin_exact HZn.out.1 (by rw [all_fin_cn HZn.out.1, ← HKf.out]))
              clear hv
              go_wp2
              go_ret2
              refine ⟨_, by rw [HOe.out.1]; rfl, ?_, HI5.out.bel⟩
              rw [HOe.out.2, ← HEx.out, HZn.out.2]
              exact own_base (own_below HOw.out (below_drewN (Below.refl _ _) d5)) HI3.out.bel.size
    · have hle' : (LE != 0) = true := by simp [hle]
      have HOe := Lib.hid (show OE = LE ∧ OR = [] by
        have e1 : OE = LE := by rw [HO.out.1]; unfold onceE; rw [if_pos HRc.out, if_neg (by rw [← HL.out.1]; exact hle), HL.out.1]
        refine ⟨e1, ?_⟩
        rw [HO.out.2]; unfold onceR; rw [← HO.out.1, e1, if_neg hle])
      clear hle
      go_wp2
      go_ret2
      refine ⟨.slice none 0 0, by rw [HOe.out.1]; rfl, ?_, HI2.out.bel⟩
      rw [HOe.out.2]
      exact World.ownsRow_nil _ _ _ _
end Go.Proofs.YtandllekeimpgaaGreat
namespace Go.Proofs.YtandllekeimpgaaGreat
open Go.RowKit Fl Ieee
set_option maxRecDepth 20000
attribute [local go_sem] run_store_float run_store_complex Fl.order_self Fl.order_self' Fl.order_eq Fl.order_ne Fl.order_lt Fl.order_gt
structure rUnI (w W0 V : World) (r c : Int) (A Ax Ab : Option Addr) (m x b : List C) (cap cx B e n : Nat) (S : El) (ti : Bool) (Ar : Option Addr) : Prop where
  on : rOnI w W0 V r c A Ax Ab m x b cap B e n S ti
  own : V.ownsRow w.heap.size 60 1 (.slice Ax x.length cx) x.length (nums x)
  le : x.length ≤ cx
  lt : ltCs x
  lr : Reads V V.heap.size Ar (nums (leftR r c m x b))
  l0 : leftE r c m x b = 0
theorem rUnI.below {w W0 V V' : World} {r c : Int} {A Ax Ab : Option Addr} {m x b : List C} {cap cx B e n : Nat} {S : El} {ti : Bool} {Ar : Option Addr} (h : rUnI w W0 V r c A Ax Ab m x b cap cx B e n S ti Ar) (hb : Below V.heap.size V V') : rUnI w W0 V' r c A Ax Ab m x b cap cx B e n S ti Ar :=
  ⟨h.on.below hb h.on.lt, own_below h.own hb, h.le, h.lt, (h.lr.below hb).more hb.size, h.l0⟩
theorem rclose_un {w W0 V : World} {r c : Int} {A Ax Ab : Option Addr} {m x b : List C} {cap cx B e n : Nat} {S : El} {ti : Bool} {Ar : Option Addr} {k : Nat} {UR : List C} {UK : Nat} {UE : Int} (h : rUnI w W0 V r c A Ax Ab m x b cap cx B e n S ti Ar) (hk : UR = x ∧ UK = k) (he : UE = 0) :
    RetUn UR UK UE w (.returned (.tuple #[.slice Ax x.length cx, .int .i64 (k : Nat), .int .i64 0])) V := by
  obtain ⟨rfl, rfl⟩ := hk
  subst he
  exact ⟨_, rfl, h.own, h.on.bel⟩
theorem rUntil_c {B e n : Nat} {S : El} {ti : Bool} (r c : Int) (A Ax Ab : Option Addr) (m x b : List C) (cap cx cb : Nat) (most : Int) (w : World) (h9 : rHas w B e n S ti) (hsq : r = n ∧ c = n) (hok0 : okM n n m.length = true) (hf : finTo S.E n) (hp : Perm n S.o) (hn : n ≤ 64) (hcap : m.length ≤ cap) (hcx : x.length ≤ cx) (hcb : b.length ≤ cb) (hcx0 : Ax = none → cx = 0) (lm : ltCs m) (lx : ltCs x) (lb : ltCs b)
    (rm : Reads w w.heap.size A (nums m)) (rx : Reads w w.heap.size Ax (nums x)) (rb : Reads w w.heap.size Ab (nums b)) :
    Calls Tryz.prog 12 #[mval r c (.slice A m.length cap), .pointer (some ⟨e, 0, none⟩), .slice Ax x.length cx, .slice Ab b.length cb, .int .i64 most] w (RetUn (untilR n S r c m x b most).1 (untilR n S r c m x b most).2 (untilE n r c m x b most) w) := by
  obtain ⟨W0, hW0⟩ : ∃ W0, W0 = w.alloc (.cells #[.int .i64 r, .int .i64 c, .slice A m.length cap] 27) := ⟨_, rfl⟩
  have hb0 : Below w.heap.size w W0 := by rw [hW0]; exact below_new _ _
  have HI0 := Lib.hid (show rOnI w W0 W0 r c A Ax Ab m x b cap B e n S ti from ⟨by rw [hW0]; exact heap_alloc_new _ _, hb0, Below.refl _ _, (rm.below hb0).more hb0.size, (rx.below hb0).more hb0.size, (rb.below hb0).more hb0.size, h9.below hb0⟩)
  have HW := Lib.hid hW0
  have HFi := Lib.hid (show Calls Tryz.prog 33 #[mval r c (.slice A m.length cap), .pointer (some ⟨e, 0, none⟩)] W0 (RetV (.int .i64 0) W0) from by
    rw [hsq.1, hsq.2]; exact rfits_c A m.length cap W0 HI0.out.h9 hok0)
  obtain ⟨UE, hUE⟩ : ∃ UE, UE = untilE n r c m x b most := ⟨_, rfl⟩
  obtain ⟨UR, hUR⟩ : ∃ UR, UR = (untilR n S r c m x b most).1 := ⟨_, rfl⟩
  obtain ⟨UK, hUK⟩ : ∃ UK, UK = (untilR n S r c m x b most).2 := ⟨_, rfl⟩
  rw [← hUE, ← hUR, ← hUK]
  have HU := Lib.hid (And.intro hUE (And.intro hUR hUK))
  have HLf := Lib.hid (fun (V : World) (Ay : Option Addr) (cy : Nat) (y : List C) (hV : rOnI w W0 V r c A Ay Ab m y b cap B e n S ti) (h1 : y.length ≤ cy) (h2 : ltCs y) => RLeft_c r c A Ay Ab m y b cap cy cb V hcap h1 hcb lm h2 lb hV.rm hV.rx hV.rb)
  have HOn := Lib.hid (fun (V : World) (Ay : Option Addr) (cy : Nat) (y : List C) (hV : rOnI w W0 V r c A Ay Ab m y b cap B e n S ti) (h1 : y.length ≤ cy) (h2 : ltCs y) => rOnce_c r c A Ay Ab m y b cap cy cb V hV.h9 hsq hok0 hf hp hn hcap h1 hcb lm h2 lb hV.rm hV.rx hV.rb)
  obtain ⟨LE, hLE⟩ : ∃ LE, LE = leftE r c m x b := ⟨_, rfl⟩
  obtain ⟨LR, hLR⟩ : ∃ LR, LR = leftR r c m x b := ⟨_, rfl⟩
  have HL0 := Lib.hid (fun (V : World) (hV : rOnI w W0 V r c A Ax Ab m x b cap B e n S ti) => HLf.out V Ax cx x hV hcx lx)
  rw [← hLE, ← hLR] at HL0
  have HL := Lib.hid (And.intro hLE hLR)
  have HX := Lib.hid (And.intro hcx0 (And.intro lx hn))
  have HRc := Lib.hid hsq
  clear hok0 hsq
  clear hW0 hb0 rm rx rb h9 hUE hUR hUK hLE hLR lm lx lb hf hp hcap hcx hcb hcx0 hn
  obtain ⟨Mn, hMn⟩ : ∃ Mn, Mn = m.length := ⟨_, rfl⟩
  have HMn := Lib.hid hMn
  rw [← hMn] at HW HFi HL0 HLf HOn ⊢
  clear hMn
  go_enter Tryz.func12, Tryz.ntmps12
  go_upto_region 1 with fail
  rw [← HW.out]
  clear HW
  obtain ⟨c0, c1, c2, -⟩ := box3 HI0.out.box
  rw [← HMn.out] at c2
  go_wp2_with fail
  refine (HFi.out).mono ?_
  rintro e1 W1 ⟨rfl, hb1⟩
  have HI1 := Lib.hid (HI0.out.below hb1 HI0.out.lt)
  obtain ⟨d0, d1, d2, -⟩ := box3 HI1.out.box
  rw [← HMn.out] at d2
  clear hb1 c0 c1 c2 HFi HI0
  · skip
    by_cases hm1 : most < 0
    · have HUz := Lib.hid (show UE = 2 ∧ UR = [] ∧ UK = 0 by
        have e1 : UE = 2 := by rw [HU.out.1]; unfold untilE; rw [if_pos HRc.out, if_pos (by omega)]
        refine ⟨e1, ?_⟩
        rw [HU.out.2.1, HU.out.2.2]
        unfold untilR
        rw [if_neg (by rw [← HU.out.1, e1]; decide)]
        exact ⟨rfl, rfl⟩)
      go_wp2
      go_ret3
      refine ⟨.slice none 0 0, by rw [HUz.out.1, HUz.out.2.2]; rfl, ?_, HI1.out.bel⟩
      rw [HUz.out.2.1]
      exact World.ownsRow_nil _ _ _ _
    · by_cases hm2 : most > 64
      · have HUz := Lib.hid (show UE = 2 ∧ UR = [] ∧ UK = 0 by
          have e1 : UE = 2 := by rw [HU.out.1]; unfold untilE; rw [if_pos HRc.out, if_pos (by omega)]
          refine ⟨e1, ?_⟩
          rw [HU.out.2.1, HU.out.2.2]
          unfold untilR
          rw [if_neg (by rw [← HU.out.1, e1]; decide)]
          exact ⟨rfl, rfl⟩)
        go_wp2
        go_ret3
        refine ⟨.slice none 0 0, by rw [HUz.out.1, HUz.out.2.2]; rfl, ?_, HI1.out.bel⟩
        rw [HUz.out.2.1]
        exact World.ownsRow_nil _ _ _ _
      · have HMo := Lib.hid (And.intro hm1 hm2)
        go_wp2_with fail
        refine (HL0.out W1 HI1.out).mono ?_
        rintro e2 W2 ⟨s2, rfl, hown, hb2⟩
        have HI2 := Lib.hid (HI1.out.below hb2 HI1.out.lt)
        obtain ⟨A2, k2, rfl, hr2, -, -⟩ := own_readsT hown
        have HR2 := Lib.hid hr2
        clear hown hb2 hr2 d0 d1 d2 HI1 HL0 hm1 hm2
        by_cases hle : LE = 0
        · have hle' : (LE != 0) = false := by simp [hle]
          have HLe0 := Lib.hid hle
          clear hle
          obtain ⟨g1, g2, g3, g4, g5⟩ := leftR_ok (HL.out.1 ▸ HLe0.out)
          rw [← HL.out.2] at g3
          have hxl : x.length ≤ 64 := by have := HRc.out.2; have := HX.out.2.2; omega
          have HXl := Lib.hid hxl
          have HUz := Lib.hid (show UE = 0 ∧ UR = (untilF n S r c m b most.toNat x).1 ∧ UK = (untilF n S r c m b most.toNat x).2 by
            have e1 : UE = 0 := by rw [HU.out.1]; unfold untilE; rw [if_pos HRc.out, if_neg (by have := HMo.out; omega), ← HL.out.1]; exact HLe0.out
            refine ⟨e1, ?_⟩
            rw [HU.out.2.1, HU.out.2.2]
            unfold untilR
            rw [if_pos (by rw [← HU.out.1]; exact e1)]
            exact ⟨rfl, rfl⟩)
          have HA0 := Lib.hid (show Ax = none → x.length = 0 ∧ cx = 0 from fun h => ⟨(by
            rcases Nat.eq_zero_or_pos x.length with h0 | h0
            · exact h0
            · obtain ⟨u, hu⟩ := some_of_lt (l := x) (k := 0) h0
              obtain ⟨ad, e, -⟩ := HI2.out.rx.at_ (k := 0) (u := .complex .f64 u.1 u.2) (by simp [nums, hu])
              rw [h] at e; cases e), HX.out.1 h⟩)
          obtain ⟨i0, hi0, hz0, hz1, hz2⟩ := info_parts infoNum
          clear g1 g2 g3 g4 g5 hxl
          go_wp2_with (at_builtin; refine wpList_append_all rfl (.const (.slice none 0 0)) (.tmp 42) 25 rfl w.heap.size 60 i0 (.complex .f64 0 0) 16 Tryz.underlying25 hi0 hz0 hz1 hz2 rfl _ 0 [] rfl (World.ownsRow_nil _ _ _ _) Ax x.length cx (nums x) rfl HA0.out (by simp [nums]) (fun ad e => Reads.cells HI2.out.rx e) (by intro u hu; simp [nums] at hu; obtain ⟨a, b, -, rfl⟩ := hu; rfl) (by have := HXl.out; unfold maxLen; omega) (by have := HXl.out; omega) HI2.out.bel.size ?_; intro v' w3 hown1 hgrow1)
          have HB3 := Lib.hid (show Below W2.heap.size W2 w3 from (Below.refl W2.heap.size W2).grown hgrow1 (Nat.le_refl _) (fun g hg => (by cases hg)))
          rw [List.nil_append, Nat.zero_add] at hown1
          have HI3 := Lib.hid (HI2.out.below HB3.out HI2.out.lt)
          obtain ⟨A3, k3, rfl, hr3, hk3, -⟩ := own_readsT hown1
          have HU0 := Lib.hid (show rUnI w W0 w3 r c A A3 Ab m x b cap k3 B e n S ti A2 from
            ⟨⟨HI3.out.box, HI3.out.bel, HI3.out.b0, HI3.out.rm, hr3, HI3.out.rb, HI3.out.h9⟩, hown1, hk3, HX.out.2.1, by rw [← HL.out.2]; exact (HR2.out.below HB3.out).more HB3.out.size, by rw [← HL.out.1]; exact HLe0.out⟩)
          rw [HL.out.2]
          clear hown1 hgrow1 hr3 hk3
          go_wp2
          go_loopw [14, 15, 16] (fun rv nv ov wr => ∃ (k : Nat) (Ay : Option Addr) (cy : Nat) (y : List C) (Ar : Option Addr) (kr : Nat), (k : Int) ≤ most ∧ nv = .int .i64 (k : Nat) ∧ ov = .slice Ay y.length cy ∧ rv = .slice Ar (leftR r c m y b).length kr ∧ Hid (rUnI w W0 wr r c A Ay Ab m y b cap cy B e n S ti Ar) ∧ Hid (UR = (untilF n S r c m b (most.toNat - k) y).1 ∧ UK = k + (untilF n S r c m b (most.toNat - k) y).2)) (fun _ nv _ _ => most.toNat - (intOf nv).toNat)
          case atStart => exact ⟨0, A3, k3, x, A2, k2, by have := HMo.out; omega, rfl, rfl, rfl, HU0, Lib.hid ⟨HUz.out.2.1, by rw [HUz.out.2.2]; simp⟩⟩
          case round =>
            rename World => wr
            obtain ⟨k, Ay, cy, y, Ar, kr, hk, rfl, rfl, rfl, HY, HN⟩ := hrel
            obtain ⟨c0, c1, c2, -⟩ := box3 HY.out.on.box
            rw [← HMn.out] at c2
            by_cases hkm : (k : Int) < most
            · have HOc := Lib.hid (HOn.out wr Ay cy y HY.out.on HY.out.le HY.out.lt)
              obtain ⟨OE, hOE⟩ : ∃ OE, OE = onceE n S r c m y b := ⟨_, rfl⟩
              obtain ⟨OR, hOR⟩ : ∃ OR, OR = onceR n S r c m y b := ⟨_, rfl⟩
              rw [← hOE, ← hOR] at HOc
              have HO := Lib.hid (And.intro hOE hOR)
              obtain ⟨YR, hYR⟩ : ∃ YR, YR = leftR r c m y b := ⟨_, rfl⟩
              rw [← hYR]
              have HYR := Lib.hid hYR
              clear hOE hOR hYR
              go_wp2_with fail
              refine HOc.out.mono ?_
              rintro e5 W5 ⟨s5, rfl, hown, hb5⟩
              have HY5 := Lib.hid (HY.out.below hb5)
              obtain ⟨A5, k5, rfl, hr5, hk5, -⟩ := own_readsT hown
              by_cases hoe : OE = 0
              · have hoe' : (OE != 0) = false := by simp [hoe]
                have HYr := Lib.hid (show rOnI w W0 W5 r c A A5 Ab m OR b cap B e n S ti from ⟨HY5.out.on.box, HY5.out.on.bel, HY5.out.on.b0, HY5.out.on.rm, hr5, HY5.out.on.rb, HY5.out.on.h9⟩)
                have HOw := Lib.hid (And.intro (own_base hown HY.out.on.bel.size) hk5)
                have HLn := Lib.hid (HLf.out W5 A5 k5 OR HYr.out hk5 (by rw [HO.out.2]; exact onceR_lt _ _ _ _ _ _ _))
                obtain ⟨FE, hFE⟩ : ∃ FE, FE = leftE r c m OR b := ⟨_, rfl⟩
                obtain ⟨FR, hFR⟩ : ∃ FR, FR = leftR r c m OR b := ⟨_, rfl⟩
                rw [← hFE, ← hFR] at HLn
                have HF := Lib.hid (And.intro hFE hFR)
                have HOe := Lib.hid (show onceE n S r c m y b = 0 by rw [← HO.out.1]; exact hoe)
                obtain ⟨c0', c1', c2', -⟩ := box3 HYr.out.box
                rw [← HMn.out] at c2'
                clear hFE hFR hown hr5 hk5 hb5 hoe c0 c1 c2
                go_wp2_with fail
                refine HLn.out.mono ?_
                rintro e6 W6 ⟨s6, rfl, hown, hb6⟩
                have HY6 := Lib.hid (HY5.out.below hb6)
                have HYr6 := Lib.hid (HYr.out.below hb6 HYr.out.lt)
                have HOw6 := Lib.hid (And.intro (own_below HOw.out.1 hb6) HOw.out.2)
                obtain ⟨A6, k6, rfl, hr6, -, -⟩ := own_readsT hown
                by_cases hfe : FE = 0
                · have hfe' : (FE != 0) = false := by simp [hfe]
                  have HR6 := Lib.hid hr6
                  have HNn := Lib.hid (rnormV_c A6 FR k6 W6 (by rw [HF.out.2]; exact leftR_lt _ _ _ _ _) (by
                    have h1 := (leftR_ok (HF.out.1 ▸ hfe)).2.2.1
                    rw [← HF.out.2] at h1
                    have := HRc.out.1; have := HX.out.2.2; omega) hr6)
                  have HNr := Lib.hid (fun d => rnormV_c Ar YR kr (W6.drewN d) (by rw [HYR.out]; exact leftR_lt _ _ _ _ _) (by
                    have h1 := (leftR_ok HY6.out.l0).2.2.1
                    rw [← HYR.out] at h1
                    have := HRc.out.1; have := HX.out.2.2; omega) (by rw [HYR.out]; exact HY6.out.lr))
                  have HFe := Lib.hid (show leftE r c m (onceR n S r c m y b) b = 0 by rw [← HO.out.2, ← HF.out.1]; exact hfe)
                  have HFz := Lib.hid hfe
                  clear hown hb6 hr6 hfe c0' c1' c2'
                  go_wp2_with fail
                  refine HNn.out.mono ?_
                  rintro e7 W7 ⟨q7, d7, rfl, hq7, hql7, rfl⟩
                  have HQ := Lib.hid (show cn .f64 q7 = normL r c m b OR by rw [hq7, HF.out.2]; rfl)
                  clear hq7 hql7
                  go_wp2_with fail
                  refine (HNr.out _).mono ?_
                  rintro e8 W8 ⟨q8, d8, rfl, hq8, hql8, rfl⟩
                  have HQ8 := Lib.hid (show cn .f64 q8 = normL r c m b y by rw [hq8, HYR.out]; rfl)
                  have hfl : flt .f64 q7 q8 = flt .f64 (normL r c m b OR) (normL r c m b y) := by rw [← flt_cn .f64 q7 q8, HQ.out, HQ8.out]
                  obtain ⟨fb, hfb⟩ : ∃ fb, fb = flt .f64 (normL r c m b OR) (normL r c m b y) := ⟨_, rfl⟩
                  rw [← hfb] at hfl
                  have HFb := Lib.hid hfb
                  clear hfb hq8 hql8
                  have HY8 := Lib.hid (HY6.out.below (below_drewN (Below.refl _ _) (d7 + d8)))
                  have HYr8 := Lib.hid (HYr6.out.below (below_drewN (Below.refl _ _) (d7 + d8)) HYr6.out.lt)
                  have HOw8 := Lib.hid (own_below HOw6.out.1 (below_drewN (Below.refl _ _) (d7 + d8)))
                  cases fb
                  · have hst : untilF n S r c m b (most.toNat - k) y = (y, 0) := untilF_stop _ (fun h => by
                      have h1 := h.2.2
                      rw [← HO.out.2, ← HFb.out] at h1; cases h1)
                    have HC := Lib.hid (show UR = y ∧ UK = k from by have h := HN.out; rw [hst] at h; exact h)
                    clear hst
                    go_wp2_with fail
                    go_ret3
                    exact rclose_un HY8.out HC.out HUz.out.1
                  · have HR8 := Lib.hid (HR6.out.below (below_drewN (Below.refl _ _) (d7 + d8)))
                    go_wp2_with fail
                    go_roundw
                    case rel =>
                      refine ⟨k + 1, A5, k5, OR, A6, k6, by omega, by go_num, rfl, by rw [HF.out.2], Lib.hid ⟨HYr8.out, HOw8.out, HOw6.out.2, by rw [HO.out.2]; exact onceR_lt _ _ _ _ _ _ _, by rw [← HF.out.2]; exact HR8.out, by rw [← HF.out.1]; exact HFz.out⟩, Lib.hid ?_⟩
                      have hbt : better n S r c m b y := ⟨HOe.out, HFe.out, by rw [← HO.out.2]; exact HFb.out.symm⟩
                      have h := HN.out
                      have e1 : most.toNat - k = (most.toNat - (k + 1)) + 1 := by omega
                      rw [e1] at h
                      unfold untilF at h
                      rw [if_pos hbt, ← HO.out.2] at h
                      exact ⟨h.1, by rw [h.2]; show k + (_ + 1) = k + 1 + _; omega⟩
                    case measure => simp [intOf]; omega
                · have hfe' : (FE != 0) = true := by simp [hfe]
                  have hst : untilF n S r c m b (most.toNat - k) y = (y, 0) := untilF_stop _ (fun h => hfe (by rw [HF.out.1, HO.out.2]; exact h.2.1))
                  have HC := Lib.hid (show UR = y ∧ UK = k from by have h := HN.out; rw [hst] at h; exact h)
                  clear hst hown hr6 c0' c1' c2'
                  go_wp2_with fail
                  go_ret3
                  exact rclose_un HY6.out HC.out HUz.out.1
              · have hoe' : (OE != 0) = true := by simp [hoe]
                have hst : untilF n S r c m b (most.toNat - k) y = (y, 0) := untilF_stop _ (fun h => hoe (by rw [HO.out.1]; exact h.1))
                have HC := Lib.hid (show UR = y ∧ UK = k from by have h := HN.out; rw [hst] at h; exact h)
                clear hst hown hr5 hk5 c0 c1 c2
                go_wp2_with fail
                go_ret3
                exact rclose_un HY5.out HC.out HUz.out.1
            · have e : most.toNat - k = 0 := by omega
              have HC := Lib.hid (show UR = y ∧ UK = k from by have h := HN.out; rw [e] at h; exact h)
              clear e
              go_wp2_with fail
              go_ret3
              exact rclose_un HY.out HC.out HUz.out.1
        · have hle' : (LE != 0) = true := by simp [hle]
          have HUz := Lib.hid (show UE = LE ∧ UR = [] ∧ UK = 0 by
            have e1 : UE = LE := by rw [HU.out.1]; unfold untilE; rw [if_pos HRc.out, if_neg (by have := HMo.out; omega), ← HL.out.1]
            refine ⟨e1, ?_⟩
            rw [HU.out.2.1, HU.out.2.2]
            unfold untilR
            rw [if_neg (by rw [← HU.out.1, e1]; exact hle)]
            exact ⟨rfl, rfl⟩)
          clear hle
          go_wp2
          go_ret3
          refine ⟨.slice none 0 0, by rw [HUz.out.1, HUz.out.2.2]; rfl, ?_, HI2.out.bel⟩
          rw [HUz.out.2.1]
          exact World.ownsRow_nil _ _ _ _
end Go.Proofs.YtandllekeimpgaaGreat
