/- Layer 11: rounds, as the document does, whatever is handed in: the law's walk. -/
import Derived.Test.YtandllekeimpgaaGreatRfT
import Derived.Test.YtandllekeimpgaaGreatRfU
import Derived.Test.YtandllekeimpgaaGreatRfC
import Derived.Test.YtandllekeimpgaaGreatRf5
import Derived.Test.YtandllekeimpgaaGreatApB
import Derived.Test.YtandllekeimpgaaGreatMX21
import Derived.Great.BuildSlice
import Derived.Deep.DeepCutAuto
import Derived.Deep.CutBlock
import Derived.Deep.RegionHeld3
namespace Go.Proofs.YtandllekeimpgaaGreat
open Go.RowKit Fl Ieee
set_option maxRecDepth 20000
attribute [local go_sem] run_store_float run_store_complex
/-- Two lists in memory. -/
def TwoL (W : World) (x b : List C) (s9 s10 : Value) (wx : World) : Prop := ∃ A k A' k', s9 = .slice A x.length k ∧ s10 = .slice A' b.length k' ∧ x.length ≤ k ∧ (A = none → k = 0) ∧ b.length ≤ k' ∧ (A' = none → k' = 0) ∧ Reads wx wx.heap.size A (nums x) ∧ Reads wx wx.heap.size A' (nums b) ∧ Below W.heap.size W wx
def RetNu (W : World) (l : List C) (Z : World) (e : Ending) (w' : World) : Prop := ∃ A k, e = .returned (.slice A l.length k) ∧ l.length ≤ k ∧ (A = none → k = 0) ∧ Reads w' w'.heap.size A (nums l) ∧ Below Z.heap.size Z w' ∧ Below W.heap.size W w'
theorem nu_c {W : World} {A : Option Addr} {l : List C} {k : Nat} (hl : l.length ≤ 1000000) (hr : Reads W W.heap.size A (zcells l)) (Z : World) (hZ : Below W.heap.size W Z) :
    Calls Tryz.prog 6 #[.slice A l.length k] Z (RetNu W l Z) :=
  (Numbers_c A l k Z hl ((hr.below hZ).more hZ.size)).mono fun e w' ⟨s, he, hown, hb⟩ => by
    obtain ⟨A', k', rfl, h1, h2, h3⟩ := own_readsT hown
    exact ⟨A', k', he, h2, h3, h1, hb, hZ.trans (hb.mono hZ.size)⟩
theorem left_same {r c : Int} {m m' x x' b b' : List C} (hm : m'.map cnC = m.map cnC) (hx : x'.map cnC = x.map cnC) (hb : b'.map cnC = b.map cnC) (h0 : leftE r c m x b = 0) : m' = m ∧ x' = x ∧ b' = b := by
  have hn : num11 m x b = true := by
    unfold leftE at h0
    by_cases h1 : shape11 r c m x b = true
    · rw [if_pos h1] at h0
      by_cases h2 : num11 m x b = true
      · exact h2
      · rw [if_neg h2] at h0; cases h0
    · rw [if_neg h1] at h0; cases h0
  unfold num11 at hn
  simp only [Bool.and_eq_true] at hn
  obtain ⟨⟨h1, h2⟩, h3⟩ := hn
  have key : ∀ {l l' : List C}, l'.map cnC = l.map cnC → l.all pFinite = true → l' = l := fun {l l'} h hf =>
    (fin_exact h (by rw [(all_fin_cn h).trans (all_fin_cn rfl).symm]; exact hf)).trans (fin_exact (zs := l) rfl hf).symm
  exact ⟨key hm h1, key hx h2, key hb h3⟩
theorem once_cn {n : Nat} {S : El} {r c : Int} {m m' x x' b b' : List C} (hm : m'.map cnC = m.map cnC) (hx : x'.map cnC = x.map cnC) (hb : b'.map cnC = b.map cnC) : onceE n S r c m' x' b' = onceE n S r c m x b ∧ onceR n S r c m' x' b' = onceR n S r c m x b := by
  obtain ⟨he, hr⟩ := left_cn (r := r) (c := c) hm hx hb
  by_cases h0 : leftE r c m x b = 0
  · obtain ⟨rfl, rfl, rfl⟩ := left_same hm hx hb h0
    exact ⟨rfl, rfl⟩
  · have e1 : onceE n S r c m' x' b' = onceE n S r c m x b := by
      unfold onceE
      rw [he, if_neg h0, if_neg h0]
    have e2 : onceE n S r c m x b ≠ 0 := by
      unfold onceE
      by_cases h1 : r = n ∧ c = n
      · rw [if_pos h1, if_neg h0]; exact h0
      · rw [if_neg h1]; decide
    refine ⟨e1, ?_⟩
    unfold onceR
    rw [e1, if_neg e2, if_neg e2]
theorem until_cn {n : Nat} {S : El} {r c : Int} {m m' x x' b b' : List C} {most : Int} (hm : m'.map cnC = m.map cnC) (hx : x'.map cnC = x.map cnC) (hb : b'.map cnC = b.map cnC) : untilE n r c m' x' b' most = untilE n r c m x b most ∧ untilR n S r c m' x' b' most = untilR n S r c m x b most := by
  obtain ⟨he, hr⟩ := left_cn (r := r) (c := c) hm hx hb
  have e1 : untilE n r c m' x' b' most = untilE n r c m x b most := by unfold untilE; rw [he]
  refine ⟨e1, ?_⟩
  by_cases h0 : untilE n r c m x b most = 0
  · have h1 : leftE r c m x b = 0 := by
      unfold untilE at h0
      by_cases h2 : r = n ∧ c = n
      · rw [if_pos h2] at h0
        by_cases h3 : most < 0 ∨ 64 < most
        · rw [if_pos h3] at h0; cases h0
        · rw [if_neg h3] at h0; exact h0
      · rw [if_neg h2] at h0; cases h0
    obtain ⟨rfl, rfl, rfl⟩ := left_same hm hx hb h1
    rfl
  · unfold untilR
    rw [e1, if_neg h0, if_neg h0]
theorem once_len {n : Nat} {S : El} {r c : Int} {m x b : List C} (hn : n ≤ 64) : (onceR n S r c m x b).length ≤ 64 := by
  unfold onceR
  split
  · unfold onceV vaddL
    rw [List.length_zipWith]
    have : (solL n S (leftR r c m x b)).length = n := by simp [solL]
    omega
  · exact Nat.zero_le _
theorem untilF_len {n : Nat} {S : El} {r c : Int} {m b : List C} (hn : n ≤ 64) : ∀ (k : Nat) (x : List C), x.length ≤ 1000000 → (untilF n S r c m b k x).1.length ≤ 1000000
  | 0, x, h => h
  | k + 1, x, h => by
    unfold untilF
    split
    · exact untilF_len hn k _ (Nat.le_trans (once_len hn) (by decide))
    · exact h
theorem until_len {n : Nat} {S : El} {r c : Int} {m x b : List C} {most : Int} (hn : n ≤ 64) (h : x.length ≤ 1000000) : (untilR n S r c m x b most).1.length ≤ 1000000 := by
  unfold untilR
  split
  · exact untilF_len hn _ _ h
  · exact Nat.zero_le _
def RetUt (L : List C) (k : Nat) (er : Int) (w : World) (e : Ending) (w' : World) : Prop :=
  ∃ A c, e = .returned (.tuple #[.slice A L.length c, .int .i64 (k : Nat), .int .i64 er]) ∧ Lst w' w.heap.size w'.heap.size A L c ∧ Below w.heap.size w w'
theorem ut_of {P : Program} {f : FuncId} {args : Array Value} {w : World} {L : List C} {k : Nat} {er : Int} (h : Calls P f args w (RetUn L k er w)) : Calls P f args w (RetUt L k er w) := by
  refine h.mono ?_
  rintro e w' ⟨s, rfl, hown, hb⟩
  obtain ⟨A, m, c, rfl, rfl⟩ := slice_of_own hown
  exact ⟨A, c, rfl, OwnIn.of hown, hb⟩
set_option maxHeartbeats 16000000 in
theorem Rounds_walk (n : Int) (A Ax Ab : Option Addr) (l x b : List C) (k kx kb : Nat) (most : Int) (w : World) (hr : Reads w w.heap.size A (zcells l)) (hrx : Reads w w.heap.size Ax (zcells x)) (hrb : Reads w w.heap.size Ab (zcells b)) (hlt : ltCs l) (hx : ltCs x) (hb : ltCs b) (ux : x.length ≤ 1000000) (ub : b.length ≤ 1000000) :
    Calls Tryz.prog 3 #[.agg #[.int .i64 n, .slice A l.length k, .slice Ax x.length kx, .slice Ab b.length kb], .int .i64 most] w (RetBB true w) := by
  obtain ⟨N, hN⟩ : ∃ N, N = sqN (n % 9) := ⟨_, rfl⟩
  have hN64 : N ≤ 64 := by rw [hN]; exact sqN_le _
  obtain ⟨L, hL⟩ : ∃ L, L = sqL l (N * N) := ⟨_, rfl⟩
  have hLL : L.length = N * N := by rw [hL]; exact sqL_len _ _
  have hLt : ltCs L := by rw [hL]; exact sqL_lt hlt _
  obtain ⟨W0, hW0⟩ : ∃ W0, W0 = w.alloc (.cells #[.int .i64 n, .slice A l.length k, .slice Ax x.length kx, .slice Ab b.length kb] 24) := ⟨_, rfl⟩
  have hb0 : Below w.heap.size w W0 := by rw [hW0]; exact below_new _ _
  have hs0 : W0.heap[w.heap.size]? = some (.cells #[.int .i64 n, .slice A l.length k, .slice Ax x.length kx, .slice Ab b.length kb] 24) := by rw [hW0]; exact heap_alloc_new _ _
  have HSy := Lib.hid (system_c n A l k (.slice Ax x.length kx) (.slice Ab b.length kb) W0 ((hr.below hb0).more hb0.size) hlt)
  rw [← hN, ← hL] at HSy
  have HW0 := Lib.hid hW0
  have HS0 := Lib.hid hs0
  have HB0 := Lib.hid hb0
  have HRx := Lib.hid (And.intro hrx hrb)
  have HLt := Lib.hid (And.intro hLt (And.intro hx (And.intro hb (And.intro hN64 hLL))))
  have HU := Lib.hid (And.intro ux ub)
  have HL4 := Lib.hid (show L.length ≤ 4096 by rw [hLL]; exact prod_small hN64 hN64)
  clear hN hL hLL hLt hW0 hb0 hs0 hr hrx hrb hlt hx hb ux ub hN64
  go_enter Tryz.func3, Tryz.ntmps3
  go_upto_region 1 with fail
  rw [← HW0.out]
  clear HW0
  obtain ⟨s0, s1, s2, s3, -⟩ := box4 HS0.out
  go_wp2_with fail
  refine HSy.out.mono ?_
  rintro e V1 ⟨A1, c1, va, vb, ok, rfl, hle, hno, hrd, hb, hok⟩
  obtain ⟨W2, hW2⟩ : ∃ W2, W2 = V1.alloc (.cells #[.int .i64 (N : Nat), .int .i64 (N : Nat), .slice A1 L.length c1] 27) := ⟨_, rfl⟩
  have hbn : Below V1.heap.size V1 W2 := by rw [hW2]; exact below_new _ _
  have hB := hb.trans (hbn.mono hb.size)
  have HX2 := Lib.hid (show W2.heap[V1.heap.size]? = some (.cells #[.int .i64 (N : Nat), .int .i64 (N : Nat), .slice A1 L.length c1] 27) by rw [hW2]; exact heap_alloc_new _ _)
  have HB2 := Lib.hid (HB0.out.trans (hB.mono HB0.out.size))
  have HS2 := Lib.hid (row_keep hB HS0.out)
  have HR2 := Lib.hid ((hrd.below hbn).more hbn.size)
  have HOk := Lib.hid hok
  have HLe := Lib.hid (And.intro hle hno)
  have HBn := Lib.hid hbn
  clear s0 s1 s2 s3 hle hno hrd hb hok hbn hB HSy HS0 HB0
  go_upto_region 2 with fail
  rw [← hW2]
  clear hW2
  cases ok
  · go_wp2_with fail
    refine (lives_c _).mono ?_
    rintro e V4 ⟨rfl, hb⟩
    have HB4 := Lib.hid (HB2.out.trans (hb.mono HB2.out.size))
    clear hb
    go_wp2
    go_ret
    exact ⟨rfl, HB4.out⟩
  · obtain ⟨hf0, B, B', b1, b2, ti, rfl, rfl, h9, hr9⟩ := HOk.out rfl
    obtain ⟨hfin, hrun⟩ := of_fin11 HLt.out.2.2.2.1 HLt.out.2.2.2.2 hf0
    obtain ⟨S, hS⟩ : ∃ S, S = ofS (N : Int) L := ⟨_, rfl⟩
    rw [← hS] at h9 hr9
    have HF := Lib.hid (show finTo S.E N ∧ Perm N S.o from by
      have eS : S = (elRun N (S0 L N) N).2 := by rw [hS]; unfold ofS; simp only [Int.toNat_natCast]
      rw [eS]
      exact ⟨elRun_fin (matE_fin HLt.out.2.2.2.2 hfin) N (Nat.le_refl _), run_perm (S := S0 L N) ⟨fun _ h => h, fun _ _ _ _ e => e⟩ N (Nat.le_refl _)⟩)
    have HE2 := Lib.hid (And.intro (h9.below HBn.out) (hr9.below HBn.out))
    clear hf0 h9 hr9 hfin hrun hS HOk HBn
    go_wp2_with fail
    refine (lives_c _).mono ?_
    rintro e V4 ⟨rfl, hb⟩
    have HB4 := Lib.hid (HB2.out.trans (hb.mono HB2.out.size))
    have HX4 := Lib.hid (row_keep hb HX2.out)
    have HS4 := Lib.hid (row_keep hb HS2.out)
    have HR4 := Lib.hid ((HR2.out.below hb).more hb.size)
    have HE4 := Lib.hid (And.intro (HE2.out.1.below hb) (HE2.out.2.below hb))
    clear hb HB2 HX2 HS2 HR2 HE2
    have HP0 := Lib.hid (fun Z (hZ : Below V4.heap.size V4 Z) => (show Calls Tryz.prog 6 #[.slice Ax x.length kx] Z (RetNu V4 x Z) from nu_c HU.out.1 ((HRx.out.1.below HB4.out).more HB4.out.size) Z hZ))
    have HP1 := Lib.hid (fun Z (hZ : Below V4.heap.size V4 Z) => (show Calls Tryz.prog 6 #[.slice Ab b.length kb] Z (RetNu V4 b Z) from nu_c HU.out.2 ((HRx.out.2.below HB4.out).more HB4.out.size) Z hZ))
    have HK := Lib.hid (fun V (hV : Below V4.heap.size V4 V) => (show V.cell? ⟨w.heap.size, 2, none⟩ = some (.slice Ax x.length kx) ∧ V.cell? ⟨w.heap.size, 3, none⟩ = some (.slice Ab b.length kb) from by
      obtain ⟨-, -, c, d, -⟩ := box4 (row_keep hV HS4.out)
      exact ⟨c, d⟩))
    obtain ⟨t2, t3⟩ := HK.out V4 (Below.refl _ _)
    have hbr : Below V4.heap.size V4 V4 := Below.refl _ _
    go_upto_region 4 with fail
    go_cut [9, 10] (fun s9 s10 wx => TwoL V4 x b s9 s10 wx)
    case first =>
      go_region_held3 (fun V => V.cell? ⟨w.heap.size, 2, none⟩ = some (.slice Ax x.length kx) ∧ V.cell? ⟨w.heap.size, 3, none⟩ = some (.slice Ab b.length kb))
        (exact HK.out _ (by repeat (first | with_reducible assumption | with_reducible refine Below.drew ?_)))
        (first
        | (go_at_call 6; (with_reducible refine (HP0.out _ ?_).mono ?_); (repeat (first | with_reducible assumption | with_reducible refine Below.drew ?_)); (rintro e V ⟨Ay, ky, rfl, y1, y2, y3, y4, hV⟩); (obtain ⟨z1, z2⟩ := HK.out V hV))
        | (go_at_call 6; (with_reducible refine (HP1.out _ ?_).mono ?_); (repeat (first | with_reducible assumption | with_reducible refine Below.drew ?_)); (rintro e V' ⟨Az, kz, rfl, y5, y6, y7, y8, hV'⟩); (obtain ⟨z3, z4⟩ := HK.out V' hV')))
      all_goals
        go_wp2
        go_meet
        exact ⟨Ay, ky, Az, kz, rfl, rfl, y1, y2, y5, y6, (y3.below y8).more y8.size, y7, hV'⟩
    case rest =>
    obtain ⟨xA, xc, bA, bc, rfl, rfl, h1, h2, h3, h4, h5, h6, hB⟩ := hcut
    rename World => W5
    have HLn := Lib.hid (And.intro (And.intro h1 h2) (And.intro h3 h4))
    have HXb := Lib.hid (And.intro h5 h6)
    have B5 := Lib.hid (HB4.out.trans (hB.mono HB4.out.size))
    have M5 := Lib.hid (row_keep hB HX4.out)
    have R5 := Lib.hid ((HR4.out.below hB).more hB.size)
    have E5 := Lib.hid (And.intro (HE4.out.1.below hB) (HE4.out.2.below hB))
    clear h1 h2 h3 h4 h5 h6 hB t2 t3 hbr HP0 HP1 HK HB4 HX4 HS4 HR4 HE4 HRx
    obtain ⟨OE, hOE⟩ : ∃ OE, OE = onceE N S N N L x b := ⟨_, rfl⟩
    obtain ⟨OL, hOL⟩ : ∃ OL, OL = onceR N S N N L x b := ⟨_, rfl⟩
    obtain ⟨UE, hUE⟩ : ∃ UE, UE = untilE N N N L x b most := ⟨_, rfl⟩
    obtain ⟨UL, hUL⟩ : ∃ UL, UL = (untilR N S N N L x b most).1 := ⟨_, rfl⟩
    obtain ⟨UK, hUK⟩ : ∃ UK, UK = (untilR N S N N L x b most).2 := ⟨_, rfl⟩
    have HEr := Lib.hid (And.intro (And.intro hOE hOL) (And.intro hUE (And.intro hUL hUK)))
    have HLL := Lib.hid (show OL.length ≤ 64 ∧ UL.length ≤ 1000000 by rw [hOL, hUL]; exact ⟨once_len HLt.out.2.2.2.1, until_len HLt.out.2.2.2.1 HU.out.1⟩)
    have hok := Lib.hid (show okM (N : Int) (N : Int) L.length = true from okM_iff.2 ⟨by omega, by have := HLt.out.2.2.2.1; omega, by omega, by have := HLt.out.2.2.2.1; omega, by rw [HLt.out.2.2.2.2, Int.natCast_mul]⟩)
    clear hOE hOL hUE hUL hUK
    obtain ⟨x0, x1, x2, -⟩ := box3 M5.out
    go_wp2_with fail
    refine (Lentq_c N N A1 L c1 W5 (by have := HL4.out; omega) ⟨R5.out, HLe.out.2, HLe.out.1, HLt.out.1⟩).mono ?_
    rintro e W6 ⟨g, zt, zf, capf, rfl, hzt, hlt, hown, hzf, hlst, hb⟩
    obtain ⟨W7, hW7⟩ : ∃ W7, W7 = W6.alloc (.cells #[.int .i64 (N : Nat), .int .i64 (N : Nat), .slice (some ⟨g, 0, none⟩) zt.length capf] 27) := ⟨_, rfl⟩
    obtain ⟨q, hq⟩ : ∃ q, q = W6.heap.size := ⟨_, rfl⟩
    have hbn : Below W6.heap.size W6 W7 := by rw [hW7]; exact below_new _ _
    have hb2 := hb.trans (hbn.mono hb.size)
    have B7 := Lib.hid (B5.out.trans (hb2.mono B5.out.size))
    have M7 := Lib.hid (row_keep hb2 M5.out)
    have R7 := Lib.hid ((R5.out.below hb2).more hb2.size)
    have E7 := Lib.hid (And.intro (E5.out.1.below hb2) (E5.out.2.below hb2))
    have XB7 := Lib.hid (And.intro ((HXb.out.1.below hb2).more hb2.size) ((HXb.out.2.below hb2).more hb2.size))
    have X7 := Lib.hid (show W7.heap[q]? = some (.cells #[.int .i64 (N : Nat), .int .i64 (N : Nat), .slice (some ⟨g, 0, none⟩) zt.length capf] 27) by rw [hW7, hq]; exact heap_alloc_new _ _)
    have K7 := Lib.hid ((show LsK w W7 [] from ⟨B7.out, fun _ h => (List.not_mem_nil h).elim⟩).add (hlst.below hbn))
    have HZt := Lib.hid (And.intro hzt hlt)
    have HZf := Lib.hid hzf
    have T7 := Lib.hid (own_below hown hbn)
    have S7 := Lib.hid (show w.heap.size ≤ W5.heap.size ∧ W5.heap.size ≤ W6.heap.size ∧ W7.heap.size = W6.heap.size + 1 ∧ q = W6.heap.size from ⟨B5.out.size, hb.size, by rw [hW7]; simp, hq⟩)
    have HW7 := Lib.hid (And.intro hW7 hq)
    clear hzt hlt hown hzf hlst hb hbn hb2 hW7 hq B5 M5 R5 E5 HXb x0 x1 x2
    go_upto_region 6 with fail
    rw [← HW7.out.1, ← HW7.out.2]
    clear HW7
    go_wp2_with fail
    refine (lg_of (Lent_c xA x xc W7 HU.out.1 HLt.out.2.1 HLn.out.1.2 XB7.out.1)).mono ?_
    rintro e W8 ⟨gq, zq, qc, rfl, hzq, hlq, hL, hb⟩
    have B8 := Lib.hid (B7.out.trans (hb.mono B7.out.size))
    have M8 := Lib.hid (row_keep hb M7.out)
    have R8 := Lib.hid ((R7.out.below hb).more hb.size)
    have E8 := Lib.hid (And.intro (E7.out.1.below hb) (E7.out.2.below hb))
    have XB8 := Lib.hid (And.intro ((XB7.out.1.below hb).more hb.size) ((XB7.out.2.below hb).more hb.size))
    have X8 := Lib.hid (row_keep hb X7.out)
    have K8 := Lib.hid ((K7.out.below hb).add hL)
    have T8 := Lib.hid (own_below T7.out hb)
    have S8 := Lib.hid (show W7.heap.size ≤ W8.heap.size from hb.size)
    have HZq := Lib.hid (And.intro hzq hlq)
    clear hL hb hzq hlq B7 M7 R7 E7 XB7 X7 K7 T7
    go_wp2_with fail
    refine (lg_of (Lent_c bA b bc W8 HU.out.2 HLt.out.2.2.1 HLn.out.2.2 XB8.out.2)).mono ?_
    rintro e W9 ⟨gr, zr, rc, rfl, hzr, hlr, hL, hb⟩
    have B9 := Lib.hid (B8.out.trans (hb.mono B8.out.size))
    have M9 := Lib.hid (row_keep hb M8.out)
    have R9 := Lib.hid ((R8.out.below hb).more hb.size)
    have E9 := Lib.hid (And.intro (E8.out.1.below hb) (E8.out.2.below hb))
    have XB9 := Lib.hid (And.intro ((XB8.out.1.below hb).more hb.size) ((XB8.out.2.below hb).more hb.size))
    have X9 := Lib.hid (row_keep hb X8.out)
    have K9 := Lib.hid ((K8.out.below hb).add hL)
    have T9 := Lib.hid (own_below T8.out hb)
    have S9 := Lib.hid (show W8.heap.size ≤ W9.heap.size from hb.size)
    have HZr := Lib.hid (And.intro hzr hlr)
    clear hL hb hzr hlr B8 M8 R8 E8 XB8 X8 K8 T8
    have hfq := (K9.out.get 1 rfl).fits
    have hfr := (K9.out.get 0 rfl).fits
    have hnq := lent_len HZq.out.1
    have hnr := lent_len HZr.out.1
    have HLo := Lib.hid (fun V (hV : Below W9.heap.size W9 V) => (show Calls Tryz.prog 9 #[mval N N (.slice (some ⟨g, 0, none⟩) zt.length capf), .pointer (some ⟨b1, 0, none⟩), .slice (some ⟨gq, 0, none⟩) x.length qc, .slice (some ⟨gr, 0, none⟩) b.length rc] V (RetLt OL OE V) from by
      have e1 : (zq.take x.length).length = x.length := by rw [List.length_take]; omega
      have e2 : (zr.take b.length).length = b.length := by rw [List.length_take]; omega
      have hcn := once_cn (n := N) (S := S) (r := N) (c := N) HZt.out.1 (lent_take HZq.out.1) (lent_take HZr.out.1)
      have h := Once_c N N (some ⟨g, 0, none⟩) (some ⟨gq, 0, none⟩) (some ⟨gr, 0, none⟩) zt (zq.take x.length) (zr.take b.length) capf qc rc V (E9.out.1.below hV) HF.out.1 HF.out.2 HLt.out.2.2.2.1 (own_slice T9.out).2.1 (by omega) (by omega) HZt.out.2
        (fun z hz => HZq.out.2 z (List.mem_of_mem_take hz)) (fun z hz => HZr.out.2 z (List.mem_of_mem_take hz)) (Reads.of_own (own_below T9.out hV))
        (Reads.of_own (own_take (((K9.out.get 1 rfl).below hV).own (Nat.le_refl _)) (by omega))) (Reads.of_own (own_take (((K9.out.get 0 rfl).below hV).own (Nat.le_refl _)) (by omega)))
      rw [e1, e2, hcn.1, hcn.2, ← HEr.out.1.1, ← HEr.out.1.2] at h
      exact lt_of h))
    have HLu := Lib.hid (fun V (hV : Below W9.heap.size W9 V) => (show Calls Tryz.prog 10 #[mval N N (.slice (some ⟨g, 0, none⟩) zt.length capf), .pointer (some ⟨b1, 0, none⟩), .slice (some ⟨gq, 0, none⟩) x.length qc, .slice (some ⟨gr, 0, none⟩) b.length rc, .int .i64 most] V (RetUt UL UK UE V) from by
      have e1 : (zq.take x.length).length = x.length := by rw [List.length_take]; omega
      have e2 : (zr.take b.length).length = b.length := by rw [List.length_take]; omega
      have hcn := until_cn (n := N) (S := S) (r := N) (c := N) (most := most) HZt.out.1 (lent_take HZq.out.1) (lent_take HZr.out.1)
      have h := Until_c N N (some ⟨g, 0, none⟩) (some ⟨gq, 0, none⟩) (some ⟨gr, 0, none⟩) zt (zq.take x.length) (zr.take b.length) capf qc rc most V (E9.out.1.below hV) HF.out.1 HF.out.2 HLt.out.2.2.2.1 (own_slice T9.out).2.1 (by omega) (by omega) (fun h => (by cases h)) HZt.out.2
        (fun z hz => HZq.out.2 z (List.mem_of_mem_take hz)) (fun z hz => HZr.out.2 z (List.mem_of_mem_take hz)) (Reads.of_own (own_below T9.out hV))
        (Reads.of_own (own_take (((K9.out.get 1 rfl).below hV).own (Nat.le_refl _)) (by omega))) (Reads.of_own (own_take (((K9.out.get 0 rfl).below hV).own (Nat.le_refl _)) (by omega)))
      rw [e1, e2, hcn.1, hcn.2, ← HEr.out.2.1, ← HEr.out.2.2.1, ← HEr.out.2.2.2] at h
      exact ut_of h))
    have hsq : (x.length : Int) ≤ (qc : Int) := by omega
    have hsr : (b.length : Int) ≤ (rc : Int) := by omega
    have HKP := Lib.hid (fun V (hV : Below W9.heap.size W9 V) => (show V.cell? ⟨q, 0, none⟩ = some (.int .i64 (N : Nat)) ∧ V.cell? ⟨q, 1, none⟩ = some (.int .i64 (N : Nat)) ∧ V.cell? ⟨q, 2, none⟩ = some (.slice (some ⟨g, 0, none⟩) zt.length capf) from by
      obtain ⟨y0, y1, y2, -⟩ := box3 (row_keep hV X9.out)
      exact ⟨y0, y1, y2⟩))
    clear hfq hfr hnq hnr
    go_wp2_with fail
    go_cut [15, 16] (fun s13 s14 wx => ∃ (A : Option Addr) (c : Nat), s13 = .slice A OL.length c ∧ s14 = .int .i64 OE ∧ Lst wx W9.heap.size wx.heap.size A OL c ∧ Below W9.heap.size W9 wx)
    case first =>
      go_region_held3 (fun V => V.cell? ⟨q, 0, none⟩ = some (.int .i64 (N : Nat)) ∧ V.cell? ⟨q, 1, none⟩ = some (.int .i64 (N : Nat)) ∧ V.cell? ⟨q, 2, none⟩ = some (.slice (some ⟨g, 0, none⟩) zt.length capf))
        (with_reducible refine HKP.out _ ?_; (repeat (first | with_reducible assumption | with_reducible refine Below.drew ?_ | with_reducible exact Below.refl _ _)))
        (first
        | (go_at_call 9; (with_reducible refine (HLo.out _ ?_).mono ?_); (repeat (first | with_reducible assumption | with_reducible refine Below.drew ?_ | with_reducible exact Below.refl _ _)); (rintro e V ⟨tA, tc, rfl, hL, hb⟩); (have hV : Below W9.heap.size W9 V := Below.trans (by repeat (first | with_reducible assumption | with_reducible refine Below.drew ?_ | with_reducible exact Below.refl _ _)) (Below.mono hb (by first | exact Nat.le_refl _)))))
      all_goals
        go_wp2_with fail
        go_meet
        exact ⟨tA, tc, rfl, rfl, Lst.weak hL (by first | exact Nat.le_refl _), hV⟩
    case rest =>
    obtain ⟨oA, oc, rfl, rfl, hL, hb⟩ := hcut
    rename World => W10
    have B9a := Lib.hid hb
    have Ka := Lib.hid ((K9.out.below hb).add hL)
    have Sa := Lib.hid (show W9.heap.size ≤ W10.heap.size from hb.size)
    have HLv := Lib.hid (fun V (hV : Below W10.heap.size W10 V) => HLu.out V (B9a.out.trans (hV.mono B9a.out.size)))
    have HKQ := Lib.hid (fun V (hV : Below W10.heap.size W10 V) => HKP.out V (B9a.out.trans (hV.mono B9a.out.size)))
    clear hL hb HLo HLu HKP
    go_wp2_with fail
    go_cut [17, 18, 19] (fun s17 s18 s19 wx => ∃ (A : Option Addr) (c : Nat), s17 = .slice A UL.length c ∧ s18 = .int .i64 (UK : Nat) ∧ s19 = .int .i64 UE ∧ Lst wx W10.heap.size wx.heap.size A UL c ∧ Below W10.heap.size W10 wx)
    case first =>
      go_region_held3 (fun V => V.cell? ⟨q, 0, none⟩ = some (.int .i64 (N : Nat)) ∧ V.cell? ⟨q, 1, none⟩ = some (.int .i64 (N : Nat)) ∧ V.cell? ⟨q, 2, none⟩ = some (.slice (some ⟨g, 0, none⟩) zt.length capf))
        (with_reducible refine HKQ.out _ ?_; (repeat (first | with_reducible assumption | with_reducible refine Below.drew ?_ | with_reducible exact Below.refl _ _)))
        (first
        | (go_at_call 10; (with_reducible refine (HLv.out _ ?_).mono ?_); (repeat (first | with_reducible assumption | with_reducible refine Below.drew ?_ | with_reducible exact Below.refl _ _)); (rintro e V ⟨tA, tc, rfl, hL, hb⟩); (have hV : Below W10.heap.size W10 V := Below.trans (by repeat (first | with_reducible assumption | with_reducible refine Below.drew ?_ | with_reducible exact Below.refl _ _)) (Below.mono hb (by first | exact Nat.le_refl _)))))
      all_goals
        go_wp2_with fail
        go_meet
        exact ⟨tA, tc, rfl, rfl, rfl, Lst.weak hL (by first | exact Nat.le_refl _), hV⟩
    case rest =>
    obtain ⟨pA, pc, rfl, rfl, rfl, hL, hb⟩ := hcut
    rename World => W11
    have hb9 := B9a.out.trans (hb.mono B9a.out.size)
    have Bb := Lib.hid (B9.out.trans (hb9.mono B9.out.size))
    have Mb := Lib.hid (row_keep hb9 M9.out)
    have Rb := Lib.hid ((R9.out.below hb9).more hb9.size)
    have Eb := Lib.hid (E9.out.2.below hb9)
    have XBb := Lib.hid (And.intro ((XB9.out.1.below hb9).more hb9.size) ((XB9.out.2.below hb9).more hb9.size))
    have Kb := Lib.hid ((Ka.out.below hb).add hL)
    have Sb := Lib.hid (show W10.heap.size ≤ W11.heap.size from hb.size)
    clear hL hb hb9 HLv HKQ B9a Ka X9 T9 B9 M9 R9 E9 XB9 K9 hsq hsr
    have HRo := Lib.hid (show Calls Tryz.prog 11 #[mval N N (.slice A1 L.length c1), .pointer (some ⟨b2, 0, none⟩), .slice xA x.length xc, .slice bA b.length bc] W11 (RetLt OL OE W11) from by
      have h := rOnce_c N N A1 xA bA L x b c1 xc bc W11 Eb.out ⟨rfl, rfl⟩ hok.out HF.out.1 HF.out.2 HLt.out.2.2.2.1 HLe.out.1 HLn.out.1.1 HLn.out.2.1 HLt.out.1 HLt.out.2.1 HLt.out.2.2.1 Rb.out XBb.out.1 XBb.out.2
      rw [← HEr.out.1.1, ← HEr.out.1.2] at h
      exact lt_of h)
    obtain ⟨x0, x1, x2, -⟩ := box3 Mb.out
    go_wp2_with fail
    refine HRo.out.mono ?_
    rintro e W12 ⟨wA, wc, rfl, hL, hb⟩
    have Bc := Lib.hid (Bb.out.trans (hb.mono Bb.out.size))
    have Mc := Lib.hid (row_keep hb Mb.out)
    have Rc := Lib.hid ((Rb.out.below hb).more hb.size)
    have XBc := Lib.hid (And.intro ((XBb.out.1.below hb).more hb.size) ((XBb.out.2.below hb).more hb.size))
    have Kc := Lib.hid ((Kb.out.below hb).add hL)
    have Sc := Lib.hid (show W11.heap.size ≤ W12.heap.size from hb.size)
    have HRu := Lib.hid (show Calls Tryz.prog 12 #[mval N N (.slice A1 L.length c1), .pointer (some ⟨b2, 0, none⟩), .slice xA x.length xc, .slice bA b.length bc, .int .i64 most] W12 (RetUt UL UK UE W12) from by
      have h := rUntil_c N N A1 xA bA L x b c1 xc bc most W12 (Eb.out.below hb) ⟨rfl, rfl⟩ hok.out HF.out.1 HF.out.2 HLt.out.2.2.2.1 HLe.out.1 HLn.out.1.1 HLn.out.2.1 HLn.out.1.2 HLt.out.1 HLt.out.2.1 HLt.out.2.2.1 Rc.out XBc.out.1 XBc.out.2
      rw [← HEr.out.2.1, ← HEr.out.2.2.1, ← HEr.out.2.2.2] at h
      exact ut_of h)
    clear hL hb Bb Mb Rb Eb XBb Kb HRo x0 x1 x2
    obtain ⟨x0, x1, x2, -⟩ := box3 Mc.out
    go_wp2_with fail
    refine HRu.out.mono ?_
    rintro e W13 ⟨vA, vc, rfl, hL, hb⟩
    have Bd := Lib.hid (Bc.out.trans (hb.mono Bc.out.size))
    have Md := Lib.hid (row_keep hb Mc.out)
    have Rd := Lib.hid ((Rc.out.below hb).more hb.size)
    have XBd := Lib.hid (And.intro ((XBc.out.1.below hb).more hb.size) ((XBc.out.2.below hb).more hb.size))
    have Kd := Lib.hid ((Kc.out.below hb).add hL)
    have Sd := Lib.hid (show W12.heap.size ≤ W13.heap.size from hb.size)
    have HKp := Lib.hid (Kept_t A1 (some ⟨g, 0, none⟩) L zf c1 capf W13 (by have := HL4.out; omega) HLt.out.1 HLe.out.2 Rd.out HZf.out (Kd.out.get 6 rfl).reads)
    clear hL hb Bc Mc Rc XBc Kc HRu x0 x1 x2
    obtain ⟨x0, x1, x2, -⟩ := box3 Md.out
    go_wp2_with fail
    refine HKp.out.mono ?_
    rintro e W14 ⟨rfl, hb⟩
    have Be := Lib.hid (Bd.out.trans (hb.mono Bd.out.size))
    have XBe := Lib.hid (And.intro ((XBd.out.1.below hb).more hb.size) ((XBd.out.2.below hb).more hb.size))
    have Ke := Lib.hid (Kd.out.below hb)
    have Se := Lib.hid (show W13.heap.size ≤ W14.heap.size from hb.size)
    have HKq := Lib.hid (Kept_t xA (some ⟨gq, 0, none⟩) x zq xc qc W14 HU.out.1 HLt.out.2.1 HLn.out.1.2 XBe.out.1 HZq.out.1 (Ke.out.get 5 rfl).reads)
    clear hb Bd XBd Kd Rd Md HKp x0 x1 x2
    go_wp2_with fail
    refine HKq.out.mono ?_
    rintro e W15 ⟨rfl, hb⟩
    have Bf := Lib.hid (Be.out.trans (hb.mono Be.out.size))
    have XBf := Lib.hid ((XBe.out.2.below hb).more hb.size)
    have Kf := Lib.hid (Ke.out.below hb)
    have Sf := Lib.hid (show W14.heap.size ≤ W15.heap.size from hb.size)
    have HKr := Lib.hid (Kept_t bA (some ⟨gr, 0, none⟩) b zr bc rc W15 HU.out.2 HLt.out.2.2.1 HLn.out.2.2 XBf.out HZr.out.1 (Kf.out.get 4 rfl).reads)
    clear hb Be XBe Ke HKq
    go_wp2_with fail
    refine HKr.out.mono ?_
    rintro e W16 ⟨rfl, hb⟩
    have Kg := Lib.hid (Kf.out.below hb)
    have Sg := Lib.hid (show W15.heap.size ≤ W16.heap.size from hb.size)
    clear hb Bf XBf Kf HKr
    have SZ := Lib.hid (show w.heap.size ≤ W5.heap.size ∧ W5.heap.size ≤ W6.heap.size ∧ W6.heap.size ≤ W7.heap.size ∧ W7.heap.size ≤ W8.heap.size ∧ W8.heap.size ≤ W9.heap.size ∧ W9.heap.size ≤ W10.heap.size ∧ W10.heap.size ≤ W11.heap.size ∧ W11.heap.size ≤ W12.heap.size ∧ W12.heap.size ≤ W13.heap.size ∧ W11.heap.size ≤ W16.heap.size from by
      have h1 := S7.out; have h2 := S8.out; have h3 := S9.out; have h4 := Sa.out; have h5 := Sb.out; have h6 := Sc.out; have h7 := Sd.out; have h8 := Se.out; have h9 := Sf.out; have ha := Sg.out
      omega)
    have HG := Lib.hid (show (W5.heap.size ≤ g ∧ g < W6.heap.size) ∧ (W7.heap.size ≤ gq ∧ gq < W8.heap.size) ∧ (W8.heap.size ≤ gr ∧ gr < W9.heap.size) from ⟨(Kg.out.get 6 rfl).blk g rfl, (Kg.out.get 5 rfl).blk gq rfl, (Kg.out.get 4 rfl).blk gr rfl⟩)
    clear S7 S8 S9 Sa Sb Sc Sd Se Sf Sg
    have HO1 := Lib.hid (Over_big W5.heap.size g capf zf.length zf W16 rfl (by have h1 := lent_len HZf.out; have h2 := HL4.out; omega) (Kg.out.get 6 rfl).1)
    go_wp2_with fail
    refine HO1.out.mono ?_
    rintro e W17 ⟨y0, rfl, hy, hown, hgr⟩
    have Kh := Lib.hid (show LsK w W17 [(some ⟨g, 0, none⟩, y0, capf, W5.heap.size, W6.heap.size), (vA, UL, vc, W12.heap.size, W13.heap.size), (wA, OL, wc, W11.heap.size, W12.heap.size), (pA, UL, pc, W10.heap.size, W11.heap.size), (oA, OL, oc, W9.heap.size, W10.heap.size), (some ⟨gr, 0, none⟩, zr, rc, W8.heap.size, W9.heap.size), (some ⟨gq, 0, none⟩, zq, qc, W7.heap.size, W8.heap.size)] from
      ((Kg.out.sub (fun t ht => by
        simp only [List.mem_cons, List.not_mem_nil, or_false] at ht ⊢
        rcases ht with h | h | h | h | h | h <;> simp [h])).over2 hgr (by have h1 := SZ.out; have h2 := HG.out; omega) (fun t ht => by
        have h1 := SZ.out
        have h2 := HG.out
        simp only [List.mem_cons, List.not_mem_nil, or_false] at ht
        rcases ht with rfl | rfl | rfl | rfl | rfl | rfl <;> (simp only; omega))).add ⟨by rw [hy]; exact hown, fun j hj => (Kg.out.get 6 rfl).2 j hj⟩)
    have HY0 := Lib.hid (show y0.length ≤ 1500000 ∧ W16.heap.size ≤ W17.heap.size ∧ y0.length = zf.length from ⟨by have h1 := lent_len HZf.out; have h2 := HL4.out; omega, hgr.size, hy⟩)
    clear hy hown hgr HO1 Kg HZf
    have HO2 := Lib.hid (Over_big W7.heap.size gq qc zq.length zq W17 rfl (by have h1 := lent_len HZq.out.1; have h2 := HU.out.1; omega) (Kh.out.get 6 rfl).1)
    go_wp2_with fail
    refine HO2.out.mono ?_
    rintro e W18 ⟨y1, rfl, hy, hown, hgr⟩
    have Ki := Lib.hid (show LsK w W18 [(some ⟨gq, 0, none⟩, y1, qc, W7.heap.size, W8.heap.size), (some ⟨g, 0, none⟩, y0, capf, W5.heap.size, W6.heap.size), (vA, UL, vc, W12.heap.size, W13.heap.size), (wA, OL, wc, W11.heap.size, W12.heap.size), (pA, UL, pc, W10.heap.size, W11.heap.size), (oA, OL, oc, W9.heap.size, W10.heap.size), (some ⟨gr, 0, none⟩, zr, rc, W8.heap.size, W9.heap.size)] from
      ((Kh.out.sub (fun t ht => by
        simp only [List.mem_cons, List.not_mem_nil, or_false] at ht ⊢
        rcases ht with h | h | h | h | h | h <;> simp [h])).over2 hgr (by have h1 := SZ.out; have h2 := HG.out; omega) (fun t ht => by
        have h1 := SZ.out
        have h2 := HG.out
        simp only [List.mem_cons, List.not_mem_nil, or_false] at ht
        rcases ht with rfl | rfl | rfl | rfl | rfl | rfl <;> (simp only; omega))).add ⟨by rw [hy]; exact hown, fun j hj => (Kh.out.get 6 rfl).2 j hj⟩)
    have HY1 := Lib.hid (show y1.length ≤ 1500000 ∧ W17.heap.size ≤ W18.heap.size ∧ y1.length = zq.length from ⟨by have h1 := lent_len HZq.out.1; have h2 := HU.out.1; omega, hgr.size, hy⟩)
    clear hy hown hgr HO2 Kh HZq
    have HO3 := Lib.hid (Over_big W8.heap.size gr rc zr.length zr W18 rfl (by have h1 := lent_len HZr.out.1; have h2 := HU.out.2; omega) (Ki.out.get 6 rfl).1)
    go_wp2_with fail
    refine HO3.out.mono ?_
    rintro e W19 ⟨y2, rfl, hy, hown, hgr⟩
    have Kj := Lib.hid (show LsK w W19 [(some ⟨gr, 0, none⟩, y2, rc, W8.heap.size, W9.heap.size), (some ⟨gq, 0, none⟩, y1, qc, W7.heap.size, W8.heap.size), (some ⟨g, 0, none⟩, y0, capf, W5.heap.size, W6.heap.size), (vA, UL, vc, W12.heap.size, W13.heap.size), (wA, OL, wc, W11.heap.size, W12.heap.size), (pA, UL, pc, W10.heap.size, W11.heap.size), (oA, OL, oc, W9.heap.size, W10.heap.size)] from
      ((Ki.out.sub (fun t ht => by
        simp only [List.mem_cons, List.not_mem_nil, or_false] at ht ⊢
        rcases ht with h | h | h | h | h | h <;> simp [h])).over2 hgr (by have h1 := SZ.out; have h2 := HG.out; omega) (fun t ht => by
        have h1 := SZ.out
        have h2 := HG.out
        simp only [List.mem_cons, List.not_mem_nil, or_false] at ht
        rcases ht with rfl | rfl | rfl | rfl | rfl | rfl <;> (simp only; omega))).add ⟨by rw [hy]; exact hown, fun j hj => (Ki.out.get 6 rfl).2 j hj⟩)
    have HY2 := Lib.hid (show y2.length ≤ 1500000 ∧ W18.heap.size ≤ W19.heap.size ∧ y2.length = zr.length from ⟨by have h1 := lent_len HZr.out.1; have h2 := HU.out.2; omega, hgr.size, hy⟩)
    clear hy hown hgr HO3 Ki HZr
    have HSm := Lib.hid (SameNumbers_t oA wA OL OL OL.length oc wc W19 rfl rfl rfl (by have := HLL.out; omega) (Kj.out.get 6 rfl).reads (Kj.out.get 4 rfl).reads)
    go_wp2_with fail
    refine HSm.out.mono ?_
    rintro e W20' ⟨n, rfl, W20e⟩
    obtain ⟨W20, hW20⟩ : ∃ V, V = W20' := ⟨_, rfl⟩
    have hb : Below W19.heap.size W19 W20 := by rw [hW20, W20e]; exact below_drewN (Below.refl _ _) n
    have Kk := Lib.hid (Kj.out.below hb)
    have HSn := Lib.hid (SameNumbers_t pA vA UL UL UL.length pc vc W20 rfl rfl rfl (by have := HLL.out; omega) (Kk.out.get 5 rfl).reads (Kk.out.get 3 rfl).reads)
    have S20 := Lib.hid hb.size
    rw [← hW20]
    clear W20e hW20 hb HSm Kj
    go_wp2_with fail
    refine HSn.out.mono ?_
    rintro e W21' ⟨n, rfl, W21e⟩
    obtain ⟨W21, hW21⟩ : ∃ V, V = W21' := ⟨_, rfl⟩
    have hb : Below W20.heap.size W20 W21 := by rw [hW21, W21e]; exact below_drewN (Below.refl _ _) n
    have Kl := Lib.hid (Kk.out.below hb)
    have SZ2 := Lib.hid (show W11.heap.size ≤ W21.heap.size from by
      have h1 := SZ.out; have h2 := HY0.out.2.1; have h3 := HY1.out.2.1; have h4 := HY2.out.2.1; have h5 := S20.out; have h6 := hb.size; omega)
    rw [← hW21]
    clear W21e hW21 hb HSn Kk S20
    have hFam := fam5 (W := W21.alloc (.cells #[.slice oA OL.length oc, .slice pA UL.length pc, .slice (some ⟨g, 0, none⟩) y0.length capf, .slice (some ⟨gq, 0, none⟩) y1.length qc, .slice (some ⟨gr, 0, none⟩) y2.length rc] 25)) (B := w.heap.size) (q := W21.heap.size)
      (((Kl.out.get 6 rfl).own (by have := SZ.out; omega)).alloc _) (((Kl.out.get 5 rfl).own (by have := SZ.out; omega)).alloc _) (((Kl.out.get 2 rfl).own (by have := SZ.out; omega)).alloc _) (((Kl.out.get 1 rfl).own (by have := SZ.out; omega)).alloc _) (((Kl.out.get 0 rfl).own (by have := SZ.out; omega)).alloc _) (heap_alloc_new _ _)
    have hApt := apt5' (q := W21.heap.size) (Kl.out.get 6 rfl).blk (Kl.out.get 5 rfl).blk (Kl.out.get 2 rfl).blk (Kl.out.get 1 rfl).blk (Kl.out.get 0 rfl).blk (by have := SZ.out; omega) (Nat.le_refl _) (Nat.le_refl _) (Nat.le_refl _) SZ2.out (by have := SZ.out; omega) (by have := SZ.out; omega) (by have := SZ.out; omega) (by have := SZ.out; omega) (by have := SZ.out; omega)
    have hAp := (AB.Apart_keep w.heap.size W21.heap.size 5 5 _ _ _ _ rfl (by omega) hApt hFam rfl (Nat.le_trans Kl.out.bel.size (below_new _ _).size) (by
      intro k hk
      have h1 := HLL.out
      have h2 := HY0.out.1
      have h3 := HY1.out.1
      have h4 := HY2.out.1
      simp only [List.map_cons, List.map_nil, List.mem_cons, List.not_mem_nil, or_false] at hk
      rcases hk with rfl | rfl | rfl | rfl | rfl <;> omega))
    rw [HY0.out.2.2, HY1.out.2.2, HY2.out.2.2] at hAp
    have HAp := Lib.hid hAp
    clear hFam hApt hAp
    go_wp2_with fail
    refine HAp.out.mono ?_
    rintro e W22 ⟨rfl, bk⟩
    have BEF := Lib.hid ((Kl.out.bel.new (Nat.le_refl _) _).trans bk.bel)
    clear bk
    go_wp2
    go_ret
    exact ⟨rfl, BEF.out⟩
end Go.Proofs.YtandllekeimpgaaGreat
