/- Layer 1: RealSums: the reals of their bits; what is told of a list; the walk. -/
import Derived.Test.YtbajeonhiaaclaaRR
import Derived.Test.YtbajeonhiaaclaaExt
namespace Go.Proofs.Ytbajeonhiaaclaa
open Go.RowKit Fl Ieee
set_option maxRecDepth 20000
attribute [local go_sem] run_store_float run_store_complex x_f64frombits Fl.order_self Fl.order_self' Fl.order_eq Fl.order_ne Fl.order_lt Fl.order_gt
/-- Bits' cells. -/
abbrev u64s (l : List Nat) : List Value := l.map fun x => .int .u64 (x : Nat)
def FloatsR (l : List Nat) (w : World) (s i : Value) (wr : World) : Prop :=
  ∃ k : Nat, k ≤ l.length ∧ i = .int .i64 (k : Nat) ∧ wr.ownsRow w.heap.size 29 1 s k (reals (l.take k)) ∧ Below w.heap.size w wr
set_option maxHeartbeats 1000000 in
theorem Floats_c (A : Option Addr) (l : List Nat) (c : Nat) (w : World) (hl : l.length ≤ 1100000) (hr : Reads w w.heap.size A (u64s l)) :
    Calls Try.prog 10 #[.slice A l.length c] w (RetL l w) := by
  obtain ⟨i0, hi, hz0, hz1, hz2⟩ := info_parts infoFlt
  have HR := Lib.hid hr
  clear hr
  go_enter Try.func10, Try.ntmps10
  go_wp2
  go_loopw [3, 4] (fun s i wr => FloatsR l w s i wr) (fun _ i _ => l.length - (intOf i).toNat)
  case atStart => exact ⟨0, Nat.zero_le _, rfl, World.ownsRow_nil _ _ _ _, Below.refl _ _⟩
  case round =>
    obtain ⟨k, hk, rfl, hown, hb⟩ := hrel
    have HB := Lib.hid hb
    have HO := Lib.hid hown
    clear hb hown
    by_cases hlt : k < l.length
    · obtain ⟨z, hz⟩ : ∃ z, l[k]? = some z := ⟨l[k], List.getElem?_eq_getElem hlt⟩
      have h1 : (u64s l)[k]? = some (.int .u64 (z : Nat)) := by simp [u64s, hz]
      obtain ⟨ad, rfl, hab, hc1⟩ := (HR.out.below HB.out).at_ h1
      have HZ := Lib.hid hz
      clear hz h1
      have hsz := HB.out.size
      have htn : ((z : Int)).toNat = z := Int.toNat_natCast z
      go_wp2_with (at_builtin; refine wpList_append_own _ rfl (.tmp 11) (.tmp 17) 23 rfl w.heap.size 29 i0 (.float .f64 0) 1 8 Try.underlying23 hi hz0 hz1 hz2 rfl (by decide) _ _ _ rfl (HO.out.alloc _) ⟨wr.heap.size, 0, none⟩ 1 1 [.float .f64 z] rfl rfl (cell_one_new _ _ _) (by intro u hu; simp at hu; subst hu; rfl) (by unfold maxLen; omega) (by omega) (Nat.le_trans hsz (below_new wr _).size) ?_; intro v' w1 hown1 hgrow1 hnil1)
      clear hnil1
      have hlen : (l.take (k + 1)) = l.take k ++ [z] := by
        have hk2 : l[k] = z := by have := HZ.out; rw [List.getElem?_eq_getElem hlt] at this; exact Option.some.inj this
        rw [List.take_succ_eq_append_getElem hlt, hk2]
      have H5 : w1.ownsRow w.heap.size 29 1 v' (k + 1) (reals (l.take (k + 1))) := by
        rw [hlen]
        have e : reals (l.take k ++ [z]) = reals (l.take k) ++ [.float .f64 z] := by simp [reals]
        rw [e]; exact hown1
      have H4 : Below w.heap.size w w1 := (HB.out.new (Nat.le_refl _) _).grown hgrow1 (Nat.le_trans hsz (below_new wr _).size) (fun j hj => (HO.out.lt j hj).1)
      go_roundw
      case rel => exact ⟨k + 1, hlt, by go_num, H5, H4⟩
      case measure => simp [intOf]; omega
    · have e : k = l.length := by omega
      subst e
      go_wp2
      go_ret
      refine ⟨_, rfl, ?_, HB.out⟩
      have h := HO.out
      rwa [List.take_length] at h
theorem great_congr {l m : List Nat} (h : l.map cnR = m.map cnR) : ∀ k, great l k = great m k
  | 0 => rfl
  | k + 1 => by
    have ih := great_congr h k
    have h1 := congrArg (fun t : List Nat => t[k]?) h
    simp only [List.getElem?_map] at h1
    unfold great
    rw [← ih]
    cases hl : l[k]? with
    | none => rw [hl] at h1; cases hm : m[k]? with
      | none => rfl
      | some y => rw [hm] at h1; cases h1
    | some x => rw [hl] at h1; cases hm : m[k]? with
      | none => rw [hm] at h1; cases h1
      | some y =>
        rw [hm] at h1
        have e : cnR x = cnR y := by simpa using h1
        have en : isNaN double x = isNaN double y := by
          have a := isNaN_cn .f64 x
          have b := isNaN_cn .f64 y
          exact a.symm.trans ((congrArg (isNaN double) e).trans b)
        cases hx : isNaN double x with
        | true => rw [hx] at en; simp [hx, ← en]
        | false =>
          rw [hx] at en
          have e1 : x = y := by
            have a := cn_of_not (k := .f64) hx
            have b := cn_of_not (k := .f64) en.symm
            exact a.symm.trans (e.trans b)
          rw [e1]
def RetSums (l : List Nat) (w : World) (e : Ending) (w' : World) : Prop :=
  ∃ (A : Option Addr) (errs : List Nat) (c : Nat), e = .returned (.tuple #[.slice A errs.length c, .bool true]) ∧ errs.map cnR = (sumErr (l.map (cn .f64))).2 ∧ words errs ∧ errs.length = l.length ∧ Lst w' w.heap.size w'.heap.size A errs c ∧ Below w.heap.size w w'
set_option maxHeartbeats 2000000 in
theorem sums_c (A B : Option Addr) (la lb : List Nat) (ca cb : Nat) (w : World) (hwa : words la) (hwb : words lb) (hla : la.length ≤ 1100000) (h : la.map cnR = lb.map cnR) (hra : Reads w w.heap.size A (reals la)) (hrb : Reads w w.heap.size B (reals lb)) :
    Calls Try.prog 12 #[.slice A la.length ca, .slice B lb.length cb] w (RetSums lb w) := by
  have hll := map_len h
  have HLL := Lib.hid hll
  have HMap := Lib.hid h
  have HG := Lib.hid (great_congr h la.length)
  have HWa := Lib.hid hwa
  have HWb := Lib.hid hwb
  have HLa := Lib.hid hla
  have HRa := Lib.hid hra
  have HRb := Lib.hid hrb
  clear h hll hwa hwb hla hra hrb
  go_enter Try.func12, Try.ntmps12
  go_wp2_with fail
  refine (SumErr_c A la ca w HWa.out (by have := HLa.out; omega) HRa.out).mono ?_
  rintro e W1 ⟨s, v, errs, rfl, hse, hs, hwe, hle, hown, hb⟩
  obtain ⟨Ae, m, c1, rfl, rfl⟩ := slice_of_own hown
  have HSe := Lib.hid hse
  have HWe := Lib.hid hwe
  have HLe := Lib.hid hle
  have HB1 := Lib.hid hb
  have HO1 := Lib.hid (OwnIn.of hown)
  have HRa1 := Lib.hid ((HRa.out.below hb).more hb.size)
  have HRb1 := Lib.hid ((HRb.out.below hb).more hb.size)
  clear hse hs hwe hle hb hown
  go_wp2_with fail
  refine (RSumErr_c B lb cb W1 HWb.out (by have := HLa.out; have := HLL.out; omega) HRb1.out).mono ?_
  rintro e W2 ⟨t, v2, errs2, rfl, hse2, ht, hwe2, hle2, hown2, hb2⟩
  obtain ⟨A2, m2, c2, rfl, rfl⟩ := slice_of_own hown2
  have HSe2 := Lib.hid hse2
  have HLe2 := Lib.hid hle2
  have HB2 := Lib.hid (HB1.out.trans (hb2.mono HB1.out.size))
  have HO2 := Lib.hid (HO1.out.below hb2)
  have HR2 := Lib.hid (Reads.of_own hown2)
  have HRa2 := Lib.hid ((HRa1.out.below hb2).more hb2.size)
  have HRb2 := Lib.hid ((HRb1.out.below hb2).more hb2.size)
  have HZ2 := Lib.hid hb2.size
  have HGr := Lib.hid (Greatest_c A la ca W2 (by have := HLa.out; omega) HRa2.out)
  have HRg := Lib.hid (RGreatest_c B lb cb W2 (by have := HLa.out; have := HLL.out; omega) HRb2.out)
  have hgg : great lb lb.length = great la la.length := by rw [← HLL.out]; exact HG.out.symm
  rw [hgg] at HRg
  obtain ⟨g1, g2, hg⟩ : ∃ g1 g2, great la la.length = (g1, g2) := ⟨_, _, rfl⟩
  rw [hg] at HGr HRg
  clear hse2 ht hwe2 hle2 hown2 hb2 hgg hg
  go_wp2_with fail
  refine HGr.out.mono ?_
  rintro e w' ⟨rfl, rfl⟩
  go_wp2_with fail
  refine HRg.out.mono ?_
  rintro e W3 ⟨n3, rfl, hW3⟩
  have hb3 : Below W2.heap.size W2 W3 := by rw [hW3]; exact below_drewN (Below.refl _ _) n3
  have HZ3 := Lib.hid hb3.size
  have HB3 := Lib.hid (HB2.out.trans (hb3.mono HB2.out.size))
  have HO3 := Lib.hid (HO2.out.below hb3)
  have HR3 := Lib.hid ((HR2.out.below hb3).more hb3.size)
  have HRa3 := Lib.hid ((HRa2.out.below hb3).more hb3.size)
  have HRb3 := Lib.hid ((HRb2.out.below hb3).more hb3.size)
  have hst : cn .f64 s = cn .f64 t := (congrArg Prod.fst HSe.out).trans ((by rw [show la.map (cn .f64) = lb.map (cn .f64) from HMap.out] : (sumErr (la.map (cn .f64))).1 = (sumErr (lb.map (cn .f64))).1).trans (congrArg Prod.fst HSe2.out).symm)
  have HS1 := Lib.hid (fun V => RSame1_c s t V)
  rw [decide_eq_true hst] at HS1
  have hee : errs.map (cn .f64) = errs2.map (cn .f64) := (congrArg Prod.snd HSe.out).trans ((by rw [show la.map (cn .f64) = lb.map (cn .f64) from HMap.out] : (sumErr (la.map (cn .f64))).2 = (sumErr (lb.map (cn .f64))).2).trans (congrArg Prod.snd HSe2.out).symm)
  have he2 : errs2.length = errs.length := by rw [HLe.out, HLe2.out, HLL.out]
  have HSm := Lib.hid (SameReals_t Ae A2 errs errs2 errs.length c1 c2 W3 rfl he2 hee (by have := HLe.out; have := HLa.out; omega) (Reads.of_own HO3.out.1) HR3.out)
  rw [he2]
  clear hW3 hb3 hst hee he2
  go_wp2_with fail
  refine (HS1.out _).mono ?_
  rintro e w' ⟨rfl, rfl⟩
  go_wp2_with fail
  refine HSm.out.mono ?_
  rintro e W4 ⟨n4, rfl, hW4⟩
  have hb4 : Below W3.heap.size W3 W4 := by rw [hW4]; exact below_drewN (Below.refl _ _) n4
  have HZ4 := Lib.hid hb4.size
  have HB4 := Lib.hid (HB3.out.trans (hb4.mono HB3.out.size))
  have HO4 := Lib.hid (HO3.out.below hb4)
  have HRa4 := Lib.hid ((HRa3.out.below hb4).more hb4.size)
  have HRb4 := Lib.hid ((HRb3.out.below hb4).more hb4.size)
  clear hW4 hb4
  go_wp2_with fail
  refine (Sum_c A la ca W4 (by have := HLa.out; omega) HRa4.out).mono ?_
  rintro e W5 ⟨x5, n5, rfl, hx5, -, hW5⟩
  have hb5 : Below W4.heap.size W4 W5 := by rw [hW5]; exact below_drewN (Below.refl _ _) n5
  have HZ5 := Lib.hid hb5.size
  have HB5 := Lib.hid (HB4.out.trans (hb5.mono HB4.out.size))
  have HO5 := Lib.hid (HO4.out.below hb5)
  have HRb5 := Lib.hid ((HRb4.out.below hb5).more hb5.size)
  have HX5 := Lib.hid hx5
  clear hx5 hW5 hb5
  go_wp2_with fail
  refine (RSum_c B lb cb W5 (by have := HLa.out; have := HLL.out; omega) HRb5.out).mono ?_
  rintro e W6 ⟨x6, n6, rfl, hx6, -, hW6⟩
  have hb6 : Below W5.heap.size W5 W6 := by rw [hW6]; exact below_drewN (Below.refl _ _) n6
  have HZ6 := Lib.hid hb6.size
  have HB6 := Lib.hid (HB5.out.trans (hb6.mono HB5.out.size))
  have HO6 := Lib.hid (HO5.out.below hb6)
  have h56 : cn .f64 x5 = cn .f64 x6 := by rw [HX5.out, hx6, show la.map (cn .f64) = lb.map (cn .f64) from HMap.out]
  have HS2 := Lib.hid (fun V => RSame1_c x5 x6 V)
  rw [decide_eq_true h56] at HS2
  have HS3 := Lib.hid (fun V => RSame1_c g2 g2 V)
  rw [decide_eq_true (rfl : cn .f64 g2 = cn .f64 g2)] at HS3
  clear hx6 hW6 hb6 h56
  go_wp2_with fail
  refine (HS2.out _).mono ?_
  rintro e w' ⟨rfl, rfl⟩
  go_wp2_with fail
  refine (HS3.out _).mono ?_
  rintro e w' ⟨rfl, rfl⟩
  go_wp2
  go_ret2
  refine ⟨Ae, errs, c1, rfl, ?_, HWe.out, by rw [HLe.out, HLL.out], HO6.out |> fun h => ⟨h.1, fun g hg => Nat.lt_of_lt_of_le (h.2 g hg) ?_⟩, HB6.out⟩
  · rw [show errs.map cnR = errs.map (cn .f64) from rfl, show errs.map (cn .f64) = (sumErr (la.map (cn .f64))).2 from congrArg Prod.snd HSe.out, show la.map (cn .f64) = lb.map (cn .f64) from HMap.out]
  · exact Nat.le_trans HZ2.out (Nat.le_trans HZ3.out (Nat.le_trans HZ4.out (Nat.le_trans HZ5.out HZ6.out)))
/-- A row that is written over: words of one's own; all else stays. -/
def RetOw (B g cap n : Nat) (w : World) (e : Ending) (w' : World) : Prop :=
  ∃ zs : List Nat, e = .returned (.tuple #[]) ∧ zs.length = n ∧ words zs ∧ w'.ownsRow B 29 1 (.slice (some ⟨g, 0, none⟩) n cap) n (reals zs) ∧ w.grownBy w' (some g)
theorem Over_w (B g cap n : Nat) (zs : List Nat) (w : World) (hz : zs.length = n) (hn : n ≤ 1100006) (hw : words zs) (h : w.ownsRow B 29 1 (.slice (some ⟨g, 0, none⟩) n cap) n (reals zs)) :
    Calls Try.prog 15 #[.slice (some ⟨g, 0, none⟩) n cap] w (RetOw B g cap n w) := by
  have HO := Lib.hid h
  have HL := Lib.hid hz
  have HN := Lib.hid hn
  have HW := Lib.hid hw
  clear h hz hn hw
  go_enter Try.func15, Try.ntmps15
  go_wp2
  go_loopw [2] (fun i wr => ∃ (k : Nat) (ys : List Nat), k ≤ n ∧ i = .int .i64 (k : Nat) ∧ ys.length = n ∧ words ys ∧ wr.ownsRow B 29 1 (.slice (some ⟨g, 0, none⟩) n cap) n (reals ys) ∧ w.grownBy wr (some g)) (fun i _ => n - (intOf i).toNat)
  case atStart => exact ⟨0, zs, Nat.zero_le _, rfl, HL.out, HW.out, HO.out, grown_refl _ _⟩
  case round =>
    obtain ⟨k, ys, hk, rfl, hy, hwy, hown, hgr⟩ := hrel
    have HWy := Lib.hid hwy
    have HOw := Lib.hid hown
    have HGr := Lib.hid hgr
    have HY := Lib.hid hy
    have hkb : k < 4611686018427387904 := by have := HN.out; omega
    clear hown hgr hy hwy
    by_cases hlt : k < n
    · have hlti : (k : Int) < (n : Int) := Int.ofNat_lt.2 hlt
      have hM := mark_c 9 k (by omega) (by have := HN.out; omega) wr
      have HM := Lib.hid hM
      clear hM
      go_wp2_with fail
      refine HM.out.mono ?_
      rintro e w' ⟨x, m, rfl, hv, hx, rfl⟩
      obtain ⟨u, hu⟩ := some_of_lt (l := ys) (k := k) (by rw [HY.out]; exact hlt)
      have hc : wr.cell? ⟨g, k, none⟩ = some (.float .f64 u) := by
        rw [HOw.out.cellAt k (by omega)]; simp [reals, hu]
      have hf := HOw.out.frozenAt k
      have HX := Lib.hid hx
      clear hu hv hx
      go_wp2
      go_roundw
      case rel =>
        have hs := (show (wr.drewN m).ownsRow B 29 1 (.slice (some ⟨g, 0, none⟩) n cap) n (reals ys) from HOw.out).stored k (.float .f64 x)
        rw [show (reals ys).set k (.float .f64 x) = reals (ys.set k x) from reals_set ys k x] at hs
        exact ⟨k + 1, _, hlt, by go_num, by rw [List.length_set]; exact HY.out, fun u hu => (by rcases List.mem_or_eq_of_mem_set hu with h | h; exact HWy.out u h; rw [h]; exact HX.out), hs.1, HGr.out.trans ((show wr.grownBy (wr.drewN m) (some g) from ⟨rfl, rfl, rfl, Nat.le_refl _, fun _ _ _ => rfl⟩).trans hs.2)⟩
      case measure => simp [intOf]; omega
    · have e : k = n := by omega
      subst e
      have hlti : ((k : Int) < (k : Int)) = False := by simp
      go_wp2
      go_end0
      exact ⟨ys, rfl, HY.out, HWy.out, HOw.out, HGr.out⟩
/-- Lists that are kept while the world grows. -/
structure Kl (w W : World) (ls : List (Nat × Nat × Option Addr × List Nat × Nat)) : Prop where
  bel : Below w.heap.size w W
  l : ∀ t ∈ ls, Lst W t.1 t.2.1 t.2.2.1 t.2.2.2.1 t.2.2.2.2
namespace Kl
variable {w W V : World} {ls : List (Nat × Nat × Option Addr × List Nat × Nat)}
theorem below (h : Kl w W ls) (hb : Below W.heap.size W V) : Kl w V ls := ⟨h.bel.trans (hb.mono h.bel.size), fun t ht => (h.l t ht).below hb⟩
theorem add {lo hi : Nat} {A : Option Addr} {zs : List Nat} {c : Nat} (h : Kl w W ls) (h9 : Lst W lo hi A zs c) : Kl w W ((lo, hi, A, zs, c) :: ls) := ⟨h.bel, fun t ht => by
  rcases List.mem_cons.1 ht with rfl | ht
  · exact h9
  · exact h.l t ht⟩
theorem get {lo hi : Nat} {A : Option Addr} {zs : List Nat} {c : Nat} (h : Kl w W ls) (i : Nat) (e : ls[i]? = some (lo, hi, A, zs, c)) : Lst W lo hi A zs c := h.l _ (List.mem_of_getElem? e)
theorem over {g : Nat} (h : Kl w W ls) (hg : W.grownBy V (some g)) (hw : w.heap.size ≤ g) (hd : ∀ t ∈ ls, t.2.1 ≤ g ∨ g < t.1) : Kl w V ls :=
  ⟨h.bel.grown hg h.bel.size (fun j hj => by injection hj with hj; subst hj; exact hw), fun t ht => (h.l t ht).over hg (hd t ht)⟩
end Kl
set_option maxHeartbeats 4000000 in
theorem Sums1 (A : Option Addr) (l : List Nat) (cap : Nat) (w : World) (hr : Reads w w.heap.size A (u64s l)) (hw : words l) (hu : l.length ≤ 1048576) :
    Calls Try.prog 3 #[.slice A l.length cap] w fun e w' => e = .returned (.bool true) ∧ Below w.heap.size w w' := by
  have HF := Lib.hid (n1_of (Floats_c A l cap w (by omega) hr))
  have HW := Lib.hid hw
  have HU := Lib.hid hu
  obtain ⟨E, hE⟩ : ∃ E, E = (sumErr (l.map (cn .f64))).2 := ⟨_, rfl⟩
  have HE := Lib.hid hE
  clear hr hw hu hE
  go_enter Try.func3, Try.ntmps3
  go_wp2_with fail
  refine HF.out.mono ?_
  rintro e W1 ⟨A1, c1, rfl, hl1, hb⟩
  have K1 := Lib.hid ((show Kl w w [] from ⟨Below.refl _ _, fun _ h => (List.not_mem_nil h).elim⟩).below hb |>.add hl1)
  have S1 := Lib.hid hb.size
  clear hl1 hb HF
  go_wp2_with fail
  refine (lg_of (Lent_c A1 l c1 W1 (by have := HU.out; omega) HW.out (K1.out.get 0 rfl).none (K1.out.get 0 rfl).reads)).mono ?_
  rintro e W2 ⟨g, zs, c2, rfl, hz, hlz, hL, hb⟩
  have K2 := Lib.hid ((K1.out.below hb).add hL)
  have S2 := Lib.hid hb.size
  have HZ := Lib.hid hz
  have HLz := Lib.hid hlz
  have hzl := lent_len hz
  have hfit := hL.fits
  have HZl := Lib.hid hzl
  have hle : (l.length : Int) ≤ (c2 : Int) := by omega
  have hu1 : l.length ≤ 1048576 := HU.out
  have hzt : (zs.take l.length).length = l.length := by rw [List.length_take]; omega
  have hT := own_take (n := l.length) hL.1 (by omega)
  have HS1 := Lib.hid (sums_c (some ⟨g, 0, none⟩) A1 (zs.take l.length) l c2 c1 W2 (fun z hz => hlz z (List.mem_of_mem_take hz)) HW.out (by omega) (lent_take hz) (Reads.of_own hT) (K2.out.get 1 rfl).reads)
  rw [hzt] at HS1
  clear hz hlz hL hb hzl hfit hT K1
  go_wp2_with fail
  refine HS1.out.mono ?_
  rintro e W3 ⟨Aa, ea, ca, rfl, ha, hwa, hla, hLa, hb⟩
  have K3 := Lib.hid ((K2.out.below hb).add hLa)
  have S3 := Lib.hid hb.size
  have HEa := Lib.hid ha
  have HLa := Lib.hid hla
  have hT := own_take (n := l.length) (K3.out.get 1 rfl).1 (by have := HZl.out; omega)
  have HS2 := Lib.hid (sums_c (some ⟨g, 0, none⟩) A1 (zs.take l.length) l c2 c1 W3 (fun z hz => HLz.out z (List.mem_of_mem_take hz)) HW.out (by omega) (lent_take HZ.out) (Reads.of_own hT) (K3.out.get 2 rfl).reads)
  rw [hzt] at HS2
  clear ha hwa hla hLa hb hT K2 HS1
  go_wp2_with fail
  refine HS2.out.mono ?_
  rintro e W4 ⟨Ab, eb, cb, rfl, ha, hwa, hla, hLa, hb⟩
  have K4 := Lib.hid ((K3.out.below hb).add hLa)
  have S4 := Lib.hid hb.size
  have HEb := Lib.hid ha
  have HLb := Lib.hid hla
  have HK := Lib.hid (Kept_t A1 (some ⟨g, 0, none⟩) l zs c1 c2 W4 (by have := HU.out; omega) HW.out (K4.out.get 3 rfl).none (K4.out.get 3 rfl).reads HZ.out (K4.out.get 2 rfl).reads)
  clear ha hwa hla hLa hb K3 HS2
  go_wp2_with fail
  refine HK.out.mono ?_
  rintro e W5 ⟨rfl, hb⟩
  have K5 := Lib.hid (K4.out.below hb)
  have S5 := Lib.hid hb.size
  have HR := Lib.hid (RSumErr_c A1 l c1 W5 HW.out (by have := HU.out; omega) (K5.out.get 3 rfl).reads)
  clear hb K4 HK
  go_wp2_with fail
  refine HR.out.mono ?_
  rintro e W6 ⟨s, v, er, rfl, hse, hs, hwe, hle2, hown, hb⟩
  obtain ⟨Ar, m, cr, rfl, rfl⟩ := slice_of_own hown
  have K6 := Lib.hid ((K5.out.below hb).add (show Lst W6 W5.heap.size W6.heap.size Ar er cr from OwnIn.of hown))
  have S6 := Lib.hid hb.size
  have HEr := Lib.hid (show er.map cnR = E from (congrArg Prod.snd hse).trans HE.out.symm)
  have HLr := Lib.hid hle2
  have HOv := Lib.hid (Over_w W1.heap.size g c2 zs.length zs W6 rfl (by have := HZl.out; have := HU.out; omega) HLz.out (K6.out.get 3 rfl).1)
  clear hse hs hwe hle2 hown hb K5 HR
  go_wp2_with fail
  refine HOv.out.mono ?_
  rintro e W7 ⟨zo, rfl, hzo, hwo, hown, hg⟩
  obtain ⟨hg1, hg2⟩ := (K6.out.get 3 rfl).blk g rfl
  have hT := own_take (n := l.length) (zs := zo) (show W7.ownsRow W1.heap.size 29 1 (.slice (some ⟨g, 0, none⟩) zo.length c2) zo.length (reals zo) by rw [hzo]; exact hown) (by have := HZl.out; omega)
  have hto : (zo.take l.length).length = l.length := by rw [List.length_take]; have := HZl.out; omega
  have K7 := Lib.hid (show Kl w W7 [(W5.heap.size, W6.heap.size, Ar, er, cr), (W3.heap.size, W4.heap.size, Ab, eb, cb), (W2.heap.size, W3.heap.size, Aa, ea, ca)] from
    Kl.over (W := W6) ⟨K6.out.bel, fun t ht => K6.out.l t (by
      simp only [List.mem_cons, List.not_mem_nil, or_false] at ht ⊢
      rcases ht with h | h | h
      · exact .inl h
      · exact .inr (.inl h)
      · exact .inr (.inr (.inl h)))⟩ hg (by have := S1.out; omega) (by
      intro t ht
      have a3 := S3.out
      have a4 := S4.out
      have a5 := S5.out
      simp only [List.mem_cons, List.not_mem_nil, or_false] at ht
      rcases ht with rfl | rfl | rfl <;> (right; simp only; omega)))
  have S7 := Lib.hid hg.size
  have HT := Lib.hid hT
  have HWo := Lib.hid (show words (zo.take l.length) from fun z hz => hwo z (List.mem_of_mem_take hz))
  have HCo := Lib.hid (n1_of (Copy_c (some ⟨g, 0, none⟩) (zo.take l.length) c2 W7 (by have := HU.out; omega) (fun h => by cases h) (Reads.of_own hT)))
  rw [hto] at HCo
  clear hzo hwo hown hg hg1 hg2 hT K6 HOv
  go_wp2_with fail
  refine HCo.out.mono ?_
  rintro e W8 ⟨A8, c8, rfl, hl8, hb⟩
  rw [hto]
  have K8 := Lib.hid ((K7.out.below hb).add hl8)
  have S8 := Lib.hid hb.size
  have HS3 := Lib.hid (sums_c (some ⟨g, 0, none⟩) A8 (zo.take l.length) (zo.take l.length) c2 c8 W8 HWo.out HWo.out (by omega) rfl ((Reads.of_own HT.out).below hb |>.more hb.size) (K8.out.get 0 rfl).reads)
  rw [hto] at HS3
  clear hl8 hb K7 HCo
  go_wp2_with fail
  refine HS3.out.mono ?_
  rintro e W9 ⟨Ac, ec, cc, rfl, ha, hwa, hla, hLa, hb⟩
  have K9 := Lib.hid ((K8.out.below hb).add hLa)
  have S9 := Lib.hid hb.size
  have HLc := Lib.hid (hla.trans hto)
  have hEE : ea.map cnR = er.map cnR := HEa.out.trans (HE.out.symm.trans HEr.out.symm)
  have HSa := Lib.hid (same_of (K9.out.get 4 rfl) (K9.out.get 2 rfl) hEE (by have := HLa.out; omega))
  clear ha hwa hla hLa hb K8 HS3 hEE
  go_wp2_with fail
  refine HSa.out.mono ?_
  rintro e W10 ⟨rfl, hb⟩
  have K10 := Lib.hid (K9.out.below hb)
  have S10 := Lib.hid hb.size
  have hEE : eb.map cnR = er.map cnR := HEb.out.trans (HE.out.symm.trans HEr.out.symm)
  have HSb := Lib.hid (same_of (K10.out.get 3 rfl) (K10.out.get 2 rfl) hEE (by have := HLb.out; omega))
  clear hb K9 HSa hEE
  go_wp2_with fail
  refine HSb.out.mono ?_
  rintro e W11 ⟨rfl, hb⟩
  have K11 := Lib.hid (K10.out.below hb)
  have S11 := Lib.hid hb.size
  have BS := K11.out.bel
  have a1 := S1.out
  have a2 := S2.out
  have a3 := S3.out
  have a4 := S4.out
  have a5 := S5.out
  have a6 := S6.out
  have a7 := S7.out
  have a8 := S8.out
  have a9 := S9.out
  have a10 := S10.out
  have a11 := S11.out
  have hFam : Fam (W11.alloc (.cells #[.slice Aa ea.length ca, .slice Ab eb.length cb, .slice Ac ec.length cc] 23)) w.heap.size W11.heap.size [.slice Aa ea.length ca, .slice Ab eb.length cb, .slice Ac ec.length cc] [ea, eb, ec] :=
    fam3 (((K11.out.get 4 rfl).own (by omega)).alloc _) (((K11.out.get 3 rfl).own (by omega)).alloc _) (((K11.out.get 0 rfl).own (by omega)).alloc _) (heap_alloc_new _ _)
  have hApt : Apt W11.heap.size [.slice Aa ea.length ca, .slice Ab eb.length cb, .slice Ac ec.length cc] :=
    apt3 (K11.out.get 4 rfl).blk (K11.out.get 3 rfl).blk (K11.out.get 0 rfl).blk (by omega) (by omega) (by omega) (by omega) (by omega) (by omega)
  have HAp := Lib.hid (Apart_try w.heap.size W11.heap.size 3 3 [.slice Aa ea.length ca, .slice Ab eb.length cb, .slice Ac ec.length cc] [ea.length, eb.length, ec.length] [ea, eb, ec] (W11.alloc (.cells #[.slice Aa ea.length ca, .slice Ab eb.length cb, .slice Ac ec.length cc] 23)) rfl (by omega) hApt hFam rfl (Nat.le_trans BS.size (below_new _ _).size)
    (by intro k hk; simp only [List.mem_cons, List.not_mem_nil, or_false] at hk; have h1 := HLa.out; have h2 := HLb.out; have h3 := HLc.out; rcases hk with rfl | rfl | rfl <;> omega))
  clear hb K10 HSb BS a1 a2 a3 a4 a5 a6 a7 a8 a9 a10 a11 hFam hApt
  go_wp2_with fail
  refine HAp.out.mono ?_
  rintro e W12 ⟨rfl, hb⟩
  have BEF := Lib.hid ((K11.out.bel.new (Nat.le_refl _) _).trans hb)
  clear hb
  go_wp2
  go_ret
  exact ⟨rfl, BEF.out⟩
end Go.Proofs.Ytbajeonhiaaclaa
