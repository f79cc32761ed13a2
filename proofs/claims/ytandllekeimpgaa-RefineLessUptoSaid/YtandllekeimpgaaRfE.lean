/- Layer 11: no more is left: the walk. -/
import Derived.Test.YtandllekeimpgaaRfC
import Derived.Test.YtandllekeimpgaaRfD
import Derived.Test.YtandllekeimpgaaRf5
import Derived.Test.YtandllekeimpgaaRfA
import Derived.Test.YtandllekeimpgaaExt
import Derived.Deep.DeepCutAuto
import Derived.Deep.QuietTactic
import Derived.Deep.RegionHeld3
namespace Go.Proofs.Ytandllekeimpgaa
open Go.RowKit Fl Ieee
set_option maxRecDepth 20000
attribute [local go_sem] run_store_float run_store_complex Fl.order_self Fl.order_self' Fl.order_eq Fl.order_ne Fl.order_lt Fl.order_gt
theorem untilF_lt (n : Nat) (S : El) (r c : Int) (m b : List C) : ∀ (k : Nat) (x : List C), ltCs x → ltCs (untilF n S r c m b k x).1
  | 0, x, hx => hx
  | k + 1, x, hx => by
    by_cases h : better n S r c m b x
    · rw [untilF_yes k h]
      exact untilF_lt n S r c m b k _ (onceR_lt _ _ _ _ _ _ _)
    · rw [untilF_stop _ h]; exact hx
/-- Two lists in memory. -/
def TwoL (W : World) (x b : List C) (s9 s10 : Value) (wx : World) : Prop := ∃ A k A' k', s9 = .slice A x.length k ∧ s10 = .slice A' b.length k' ∧ x.length ≤ k ∧ (A = none → k = 0) ∧ b.length ≤ k' ∧ (A' = none → k' = 0) ∧ Reads wx wx.heap.size A (nums x) ∧ Reads wx wx.heap.size A' (nums b) ∧ Below W.heap.size W wx
def RetNu (W : World) (l : List C) (Z : World) (e : Ending) (w' : World) : Prop := ∃ A k, e = .returned (.slice A l.length k) ∧ l.length ≤ k ∧ (A = none → k = 0) ∧ Reads w' w'.heap.size A (nums l) ∧ Below Z.heap.size Z w' ∧ Below W.heap.size W w'
theorem nu_c {W : World} {A : Option Addr} {l : List C} {k : Nat} (hl : l.length ≤ 1000000) (hr : Reads W W.heap.size A (zcells l)) (Z : World) (hZ : Below W.heap.size W Z) :
    Calls Try.prog 10 #[.slice A l.length k] Z (RetNu W l Z) :=
  (Numbers_c A l k Z hl ((hr.below hZ).more hZ.size)).mono fun e w' ⟨s, he, hown, hb⟩ => by
    obtain ⟨A', k', rfl, h1, h2, h3⟩ := own_readsT hown
    exact ⟨A', k', he, h2, h3, h1, hb, hZ.trans (hb.mono hZ.size)⟩
set_option maxHeartbeats 1600000 in
theorem Less_walk (n : Int) (A Ax Ab : Option Addr) (l x b : List C) (k kx kb : Nat) (most : Nat) (hmost : most < 256) (w : World) (hr : Reads w w.heap.size A (zcells l)) (hrx : Reads w w.heap.size Ax (zcells x)) (hrb : Reads w w.heap.size Ab (zcells b)) (hlt : ltCs l) (hx : ltCs x) (hb : ltCs b) (ux : x.length ≤ 1000000) (ub : b.length ≤ 1000000) :
    Calls Try.prog 5 #[.agg #[.int .i64 n, .slice A l.length k, .slice Ax x.length kx, .slice Ab b.length kb], .int .u8 (most : Nat)] w (RetV (.bool true) w) := by
  obtain ⟨N, hN⟩ : ∃ N, N = sqN (n % 9) := ⟨_, rfl⟩
  have hN64 : N ≤ 64 := by rw [hN]; exact sqN_le _
  obtain ⟨L, hL⟩ : ∃ L, L = sqL l (N * N) := ⟨_, rfl⟩
  have hLL : L.length = N * N := by rw [hL]; exact sqL_len _ _
  have hLt : ltCs L := by rw [hL]; exact sqL_lt hlt _
  obtain ⟨W0, hW0⟩ : ∃ W0, W0 = w.alloc (.cells #[.int .i64 n, .slice A l.length k, .slice Ax x.length kx, .slice Ab b.length kb] 52) := ⟨_, rfl⟩
  have hb0 : Below w.heap.size w W0 := by rw [hW0]; exact below_new _ _
  have hs0 : W0.heap[w.heap.size]? = some (.cells #[.int .i64 n, .slice A l.length k, .slice Ax x.length kx, .slice Ab b.length kb] 52) := by rw [hW0]; exact heap_alloc_new _ _
  have HSy := Lib.hid (system_c n A l k (.slice Ax x.length kx) (.slice Ab b.length kb) W0 ((hr.below hb0).more hb0.size) hlt)
  rw [← hN, ← hL] at HSy
  have HW0 := Lib.hid hW0
  have HS0 := Lib.hid hs0
  have HB0 := Lib.hid hb0
  have HRx := Lib.hid (And.intro hrx hrb)
  have HLt := Lib.hid (And.intro hLt (And.intro hx (And.intro hb (And.intro hN64 hLL))))
  have HU := Lib.hid (And.intro ux ub)
  have HM := Lib.hid hmost
  clear hN hL hLL hLt hW0 hb0 hs0 hr hrx hrb hlt hx hb ux ub hN64 hmost
  go_enter Try.func5, Try.ntmps5
  go_upto_region 1 with fail
  rw [← HW0.out]
  clear HW0
  obtain ⟨s0, s1, s2, s3, -⟩ := box4 HS0.out
  go_wp2_with fail
  refine HSy.out.mono ?_
  rintro e V1 ⟨A1, c1, va, vb, ok, rfl, hle, hno, hrd, hb, hok⟩
  obtain ⟨W2, hW2⟩ : ∃ W2, W2 = V1.alloc (.cells #[.int .i64 (N : Nat), .int .i64 (N : Nat), .slice A1 L.length c1] 28) := ⟨_, rfl⟩
  have hbn : Below V1.heap.size V1 W2 := by rw [hW2]; exact below_new _ _
  have hB := hb.trans (hbn.mono hb.size)
  have HX2 := Lib.hid (show W2.heap[V1.heap.size]? = some (.cells #[.int .i64 (N : Nat), .int .i64 (N : Nat), .slice A1 L.length c1] 28) by rw [hW2]; exact heap_alloc_new _ _)
  have HB2 := Lib.hid (HB0.out.trans (hB.mono HB0.out.size))
  have HS2 := Lib.hid (row_keep hB HS0.out)
  have HR2 := Lib.hid ((hrd.below hbn).more hbn.size)
  have HOk := Lib.hid hok
  have HLe := Lib.hid (And.intro hle hno)
  have HBn := Lib.hid hbn
  have hp0 : ∀ Z, Below W2.heap.size W2 Z → Calls Try.prog 10 #[.slice Ax x.length kx] Z (RetNu W2 x Z) := fun Z hZ => nu_c HU.out.1 ((HRx.out.1.below HB2.out).more HB2.out.size) Z hZ
  have hp1 : ∀ Z, Below W2.heap.size W2 Z → Calls Try.prog 10 #[.slice Ab b.length kb] Z (RetNu W2 b Z) := fun Z hZ => nu_c HU.out.2 ((HRx.out.2.below HB2.out).more HB2.out.size) Z hZ
  have HP0 := Lib.hid hp0
  have HP1 := Lib.hid hp1
  have hk : ∀ V, Below W2.heap.size W2 V → V.cell? ⟨w.heap.size, 2, none⟩ = some (.slice Ax x.length kx) ∧ V.cell? ⟨w.heap.size, 3, none⟩ = some (.slice Ab b.length kb) := fun V hV => by
    obtain ⟨-, -, c, d, -⟩ := box4 (row_keep hV HS2.out)
    exact ⟨c, d⟩
  have HK := Lib.hid hk
  clear s0 s1 s2 s3 hk hp0 hp1 hle hno hrd hb hok hbn hB HSy HS0 HB0
  obtain ⟨t2, t3⟩ := HK.out W2 (Below.refl _ _)
  have hbr : Below W2.heap.size W2 W2 := Below.refl _ _
  go_upto_region 2 with fail
  rw [← hW2]
  clear hW2
  go_cut [9, 10] (fun s9 s10 wx => TwoL W2 x b s9 s10 wx)
  case first =>
    go_region_held3 (fun V => V.cell? ⟨w.heap.size, 2, none⟩ = some (.slice Ax x.length kx) ∧ V.cell? ⟨w.heap.size, 3, none⟩ = some (.slice Ab b.length kb))
      (exact HK.out _ (by repeat (first | with_reducible assumption | with_reducible refine Below.drew ?_)))
      (first
      | (go_at_call 10; (with_reducible refine (HP0.out _ ?_).mono ?_); (repeat (first | with_reducible assumption | with_reducible refine Below.drew ?_)); (rintro e V ⟨Ay, ky, rfl, y1, y2, y3, y4, hV⟩); (obtain ⟨z1, z2⟩ := HK.out V hV))
      | (go_at_call 10; (with_reducible refine (HP1.out _ ?_).mono ?_); (repeat (first | with_reducible assumption | with_reducible refine Below.drew ?_)); (rintro e V' ⟨Az, kz, rfl, y5, y6, y7, y8, hV'⟩); (obtain ⟨z3, z4⟩ := HK.out V' hV')))
    all_goals
      go_wp2
      go_meet
      exact ⟨Ay, ky, Az, kz, rfl, rfl, y1, y2, y5, y6, (y3.below y8).more y8.size, y7, hV'⟩
  case rest =>
    obtain ⟨Ay, ky, Az, kz, rfl, rfl, h1, h2, h3, h4, h5, h6, hB⟩ := hcut
    rename World => V3
    have HB3 := Lib.hid (HB2.out.trans (hB.mono HB2.out.size))
    have HX3 := Lib.hid (row_keep hB HX2.out)
    have HR3 := Lib.hid ((HR2.out.below hB).more hB.size)
    have HLi := Lib.hid (And.intro h5 h6)
    have HLn := Lib.hid (And.intro h1 (And.intro h2 (And.intro h3 h4)))
    have HBw := Lib.hid (HBn.out.trans (hB.mono HBn.out.size))
    have HBd := Lib.hid hB
    have HB2' := HB2
    clear h1 h2 h3 h4 h5 h6 hB HX2 HB2 HR2 HS2 HK HP0 HP1 t2 t3 hbr
    cases ok
    · go_wp2_with fail
      refine (lives_c _).mono ?_
      rintro e V4 ⟨rfl, hb⟩
      have HB4 := Lib.hid (HB3.out.trans (hb.mono HB3.out.size))
      clear hb
      go_wp2
      go_ret
      exact ⟨rfl, HB4.out⟩
    · obtain ⟨hf0, B, B', c, c', ti, rfl, rfl, h9, hr9⟩ := HOk.out rfl
      have H9 := Lib.hid ((h9.below HBn.out).below HBd.out)
      obtain ⟨hfin, hrun⟩ := of_fin11 HLt.out.2.2.2.1 HLt.out.2.2.2.2 hf0
      obtain ⟨S, hS⟩ : ∃ S, S = ofS (N : Int) L := ⟨_, rfl⟩
      rw [← hS] at H9
      have HF := Lib.hid (show finTo S.E N ∧ Perm N S.o from by
        have eS : S = (elRun N (S0 L N) N).2 := by rw [hS]; unfold ofS; simp only [Int.toNat_natCast]
        rw [eS]
        exact ⟨elRun_fin (matE_fin HLt.out.2.2.2.2 hfin) N (Nat.le_refl _), run_perm (S := S0 L N) ⟨fun _ h => h, fun _ _ _ _ e => e⟩ N (Nat.le_refl _)⟩)
      have HOn := Lib.hid (show OnI V1 W2 V3 N N A1 Ay Az L x b c1 B c N S from ⟨HX3.out, HBw.out, HBd.out, HR3.out, HLi.out.1, HLi.out.2, H9.out⟩)
      have HLf := Lib.hid (fun (V : World) (Au : Option Addr) (cu : Nat) (u : List C) (hV : OnI V1 W2 V N N A1 Au Az L u b c1 B c N S) (h1 : u.length ≤ cu) (h2 : ltCs u) => Left_c N N A1 Au Az L u b c1 cu kz V HLe.out.1 h1 HLn.out.2.2.1 HLt.out.1 h2 HLt.out.2.2.1 hV.rm hV.rx hV.rb)
      have HUt := Lib.hid (fun (V : World) (most : Int) (hV : OnI V1 W2 V N N A1 Ay Az L x b c1 B c N S) => Until_c N N A1 Ay Az L x b c1 ky kz most V hV.h9 HF.out.1 HF.out.2 HLt.out.2.2.2.1 HLe.out.1 HLn.out.1 HLn.out.2.2.1 HLn.out.2.1 HLt.out.1 HLt.out.2.1 HLt.out.2.2.1 hV.rm hV.rx hV.rb)
      have HBz := Lib.hid HB2'.out
      clear h9 hr9 hfin hrun hS hf0 HOk HX3 HR3 HLi HBw HBd HBn H9
      go_wp2_with fail
      refine (lives_c _).mono ?_
      rintro e V4 ⟨rfl, hb⟩
      have HO4 := Lib.hid (HOn.out.below hb HOn.out.lt)
      have HB4 := Lib.hid (HB3.out.trans (hb.mono HB3.out.size))
      obtain ⟨Mn, hMn⟩ : ∃ Mn, Mn = L.length := ⟨_, rfl⟩
      have HMn := Lib.hid hMn
      have HLx := Lib.hid (HLf.out V4 Ay ky x HO4.out HLn.out.1 HLt.out.2.1)
      obtain ⟨LE, hLE⟩ : ∃ LE, LE = leftE N N L x b := ⟨_, rfl⟩
      obtain ⟨LR, hLR⟩ : ∃ LR, LR = leftR N N L x b := ⟨_, rfl⟩
      rw [← hLE, ← hLR] at HLx
      have HLq := Lib.hid (And.intro hLE hLR)
      rw [← hMn] at HLf HUt HLx
      obtain ⟨c0, c1', c2, -⟩ := box3 HO4.out.box
      rw [← hMn] at c2
      clear hb hMn HOn HB3 hLE hLR
      go_wp2_with fail
      refine HLx.out.mono ?_
      rintro e V5 ⟨s5, rfl, hown, hb⟩
      have HO5 := Lib.hid (HO4.out.below hb HO4.out.lt)
      have HB5 := Lib.hid (HB4.out.trans (hb.mono HB4.out.size))
      obtain ⟨A5, k5, rfl, hr5, -, -⟩ := own_readsT hown
      by_cases hle : LE = 0
      · have hle' : (LE != 0) = false := by simp [hle]
        have HLe0 := Lib.hid (show leftE N N L x b = 0 by rw [← HLq.out.1]; exact hle)
        have HNm := Lib.hid (normV_c A5 LR k5 V5 (by rw [HLq.out.2]; exact leftR_lt _ _ _ _ _) (by
          have h1 := (leftR_ok HLe0.out).2.2.1
          rw [← HLq.out.2] at h1
          have := HLt.out.2.2.2.1; omega) hr5)
        clear hown hb hr5 c0 c1' c2 hle
        go_wp2_with fail
        refine HNm.out.mono ?_
        rintro e V6 ⟨q0, d0, rfl, hq, hql, rfl⟩
        have HO6 := Lib.hid (HO5.out.below (below_drewN (Below.refl _ _) d0) HO5.out.lt)
        have HQ0 := Lib.hid (show cn .f64 q0 = normL N N L b x by rw [hq, HLq.out.2]; rfl)
        have HU5 := Lib.hid (fun (V : World) (i : Nat) (hi : i ≤ 5) (hV : OnI V1 W2 V N N A1 Ay Az L x b c1 B c N S) => (show Calls Try.prog 24 #[mval N N (.slice A1 Mn c1), .pointer (some ⟨c, 0, none⟩), .slice Ay x.length ky, .slice Az b.length kz, .int .i64 (i : Nat)] V (RetUn (untilF N S N N L b i x).1 (untilF N S N N L b i x).2 0 V) from by
          have h := HUt.out V i hV
          have e : untilE N N N L x b (i : Nat) = 0 := by
            unfold untilE
            rw [if_pos ⟨rfl, rfl⟩, if_neg (by omega)]; exact HLe0.out
          have e2 : untilR N S N N L x b (i : Nat) = untilF N S N N L b i x := by
            unfold untilR
            rw [if_pos e, Int.toNat_natCast]
          rw [e, e2] at h
          exact h))
        clear hq hql HUt HLx HNm HO5 HO4 HB4
        go_wp2_with fail
        go_loopw [13, 14] (fun sv kv wr => ∃ (i q : Nat), i ≤ most % 6 + 1 ∧ kv = .int .i64 (i : Nat) ∧ sv = .float .f64 q ∧ Hid (cn .f64 q = normL N N L b (untilF N S N N L b (i - 1) x).1) ∧ Hid (OnI V1 W2 wr N N A1 Ay Az L x b c1 B c N S)) (fun _ kv _ => 7 - (intOf kv).toNat)
        case atStart => exact ⟨0, q0, by omega, rfl, rfl, HQ0, HO6⟩
        case round =>
          rename World => wr
          obtain ⟨i, q, hi, rfl, rfl, HQ, HO⟩ := hrel
          obtain ⟨c0, c1', c2, -⟩ := box3 HO.out.box
          rw [← HMn.out] at c2
          by_cases him : i ≤ most % 6
          · go_wp2_with fail
            obtain ⟨Y, hY⟩ : ∃ Y, Y = (untilF N S N N L b i x).1 := ⟨_, rfl⟩
            obtain ⟨m2, hm2⟩ : ∃ m2, m2 = (untilF N S N N L b i x).2 := ⟨_, rfl⟩
            have hi5 : i ≤ 5 := by omega
            have HUi := Lib.hid (HU5.out wr i hi5 HO.out)
            rw [← hY, ← hm2] at HUi
            have hm2i : m2 ≤ i := by rw [hm2]; exact untilF_le _ _ _ _ _ _ _ _
            have hYe : leftE N N L Y b = 0 := by rw [hY]; exact untilF_left _ _ _ _ _ _ _ _ HLe0.out
            have hYl : Y.length = x.length := by
              have h1 := (leftR_ok hYe).1
              have h2 := (leftR_ok HLe0.out).1
              omega
            have hlaw := less_law N S N N L b x i
            rw [← hY, ← hm2] at hlaw
            have hYx : i = 0 → Y = x := fun h => by rw [hY, h]; rfl
            have HYl := Lib.hid hYl
            have HYx := Lib.hid hYx
            have HLaw := Lib.hid hlaw
            have HYe := Lib.hid hYe
            have HY := Lib.hid hY
            have HYt := Lib.hid (show ltCs Y by rw [hY]; exact untilF_lt _ _ _ _ _ _ _ _ HLt.out.2.1)
            clear hY hm2 hYe hYl hlaw hYx
            refine HUi.out.mono ?_
            rintro e W1 ⟨s1, rfl, hown, hb⟩
            have HO1 := Lib.hid (HO.out.below hb HO.out.lt)
            obtain ⟨Au, ku, rfl, hru, hku, -⟩ := own_readsT hown
            have HOu := Lib.hid (show OnI V1 W2 W1 N N A1 Au Az L Y b c1 B c N S from ⟨HO1.out.box, HO1.out.bel, HO1.out.b0, HO1.out.rm, hru, HO1.out.rb, HO1.out.h9⟩)
            have HLu := Lib.hid (HLf.out W1 Au ku Y HOu.out hku HYt.out)
            obtain ⟨FE, hFE⟩ : ∃ FE, FE = leftE N N L Y b := ⟨_, rfl⟩
            obtain ⟨FR, hFR⟩ : ∃ FR, FR = leftR N N L Y b := ⟨_, rfl⟩
            rw [← hFE, ← hFR] at HLu
            have hFE0 : FE = 0 := hFE.trans HYe.out
            have HFR := Lib.hid hFR
            obtain ⟨e0, e1, e2, -⟩ := box3 HO1.out.box
            rw [← HMn.out] at e2
            clear hFE hFR hown hb hru hku HUi c0 c1' c2
            subst hFE0
            go_wp2_with fail
            refine HLu.out.mono ?_
            rintro e W3 ⟨s3, rfl, hown, hb⟩
            have HO3 := Lib.hid (HO1.out.below hb HO1.out.lt)
            have HOv := Lib.hid (HOu.out.below hb HOu.out.lt)
            obtain ⟨Aw, kw, rfl, hrw, -, -⟩ := own_readsT hown
            have HNu := Lib.hid (normV_c Aw FR kw W3 (by rw [HFR.out]; exact leftR_lt _ _ _ _ _) (by
              have h1 := (leftR_ok HYe.out).2.2.1
              rw [← HFR.out] at h1
              have := HLt.out.2.2.2.1; omega) hrw)
            have hlen : ((Y.length : Int) != (x.length : Int)) = false := by rw [HYl.out]; simp
            have hng : decide ((m2 : Int) > (i : Int)) = false := by simp; omega
            clear hown hb hrw e0 e1 e2
            go_wp2_with fail
            refine HNu.out.mono ?_
            rintro e W4 ⟨q', d', rfl, hq, hql, rfl⟩
            have HQ' := Lib.hid (show cn .f64 q' = normL N N L b Y by rw [hq, HFR.out]; rfl)
            have g1 : flt .f64 q q' = false := by rw [← flt_cn .f64 q q', HQ.out, HQ'.out]; exact HLaw.out.1
            have HG2 := Lib.hid (show 0 < i → m2 = i → flt .f64 q' q = true from fun h h' => by rw [← flt_cn .f64 q' q, HQ.out, HQ'.out]; exact HLaw.out.2 h h')
            clear hq hql
            have HOz := Lib.hid (HO3.out.below (below_drewN (Below.refl _ _) d') HO3.out.lt)
            have HOy := Lib.hid (HOv.out.below (below_drewN (Below.refl _ _) d') HOv.out.lt)
            by_cases hi0 : i = 0
            · subst hi0
              have hm0 : m2 = 0 := by omega
              subst hm0
              have hYx : Y = x := HYx.out rfl
              have HSn := Lib.hid (SameNumbers_t Au Ay Y x x.length ku ky (W3.drewN d') HYl.out rfl (by rw [hYx]) (by have := HU.out.1; omega) HOy.out.rx HOz.out.rx)
              rw [HYl.out]
              go_wp2_with fail
              refine HSn.out.mono ?_
              rintro e W5 ⟨d5, rfl, rfl⟩
              have HOz5 := Lib.hid (HO3.out.below (below_drewN (Below.refl _ _) (d' + d5)) HO3.out.lt)
              go_wp2
              go_roundw
              case rel => exact ⟨0 + 1, q', by omega, by go_num, rfl, Lib.hid (by rw [Nat.add_sub_cancel, HQ'.out, HY.out]), HOz5⟩
              case measure => simp [intOf]
            · have hi0' : ((i : Int) == 0) = false := by simp; omega
              by_cases hmi : m2 = i
              · have g2 := HG2.out (by omega) hmi
                have g3 := feq_of_flt _ _ g2
                have hmi' : ((m2 : Int) == (i : Int)) = true := by simp; omega
                have hip : decide ((i : Int) > 0) = true := by simp; omega
                go_wp2
                go_roundw
                case rel => exact ⟨i + 1, q', by omega, by go_num, rfl, Lib.hid (by rw [Nat.add_sub_cancel, HQ'.out, HY.out]), HOz⟩
                case measure => simp [intOf]; omega
              · have hmi' : ((m2 : Int) == (i : Int)) = false := by simp; omega
                go_wp2
                go_roundw
                case rel => exact ⟨i + 1, q', by omega, by go_num, rfl, Lib.hid (by rw [Nat.add_sub_cancel, HQ'.out, HY.out]), HOz⟩
                case measure => simp [intOf]; omega
          · go_wp2_with fail
            go_ret
            exact ⟨rfl, HBz.out.trans (HO.out.b0.mono HBz.out.size)⟩
      · have hle' : (LE != 0) = true := by simp [hle]
        clear hown hb hr5 c0 c1' c2 hle
        go_wp2
        go_ret
        exact ⟨rfl, HB5.out⟩
end Go.Proofs.Ytandllekeimpgaa
