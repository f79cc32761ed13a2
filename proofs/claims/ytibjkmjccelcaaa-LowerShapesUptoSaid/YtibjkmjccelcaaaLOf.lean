/- Layer 9: any matrix is eliminated as the document does (of; LowerOf, LowerShapes). -/
import Derived.Test.YtibjkmjccelcaaaLOw
import Derived.Test.YtibjkmjccelcaaaOvB
namespace Go.Proofs.Ytibjkmjccelcaaa
open Go.RowKit Fl Ieee
set_option maxRecDepth 20000
attribute [local go_sem] run_store_float run_store_complex
/-- The answer hangs on the numbers up to NaN alone. -/
theorem of_cn {r c : Int} {l m : List C} (h : m.map cnC = l.map cnC) : ofF r c m = ofF r c l ∧ ((ofF r c l).1 = 0 → m = l) := by
  have hlen : m.length = l.length := by have := congrArg List.length h; simpa using this
  have hbad : ∀ k : List C, badAt k = (k.map cnC).findIdx fun z => !pFinite z := fun k => by
    unfold badAt
    rw [List.findIdx_map]
    congr 1
    funext z
    show (!pFinite z) = (!pFinite (cnC z))
    rw [show pFinite (cnC z) = pFinite z from pFin_cn z]
  have hb : badAt m = badAt l := by rw [hbad m, hbad l, h]
  have hself : ∀ k : List C, ¬ badAt k < k.length → k.map cnC = k := fun k hk =>
    (List.map_congr_left fun z hz => fin_cn (badAt_all hk z hz)).trans (List.map_id k)
  have heq : ¬ badAt l < l.length → m = l := fun hk => by
    rw [← hself m (by rw [hb, hlen]; exact hk), h, hself l hk]
  by_cases hk : badAt l < l.length
  · unfold ofF
    rw [hlen]
    refine ⟨by rw [hb, if_pos hk, if_pos hk], fun h0 => ?_⟩
    rw [if_pos hk] at h0
    split at h0
    · exact absurd h0 (by show ¬ ((5 : Int) = 0); decide)
    · exact absurd h0 (by show ¬ ((4 : Int) = 0); decide)
  · rw [heq hk]
    exact ⟨rfl, fun _ => rfl⟩
theorem RetROf.ok {n : Nat} {f : Int × Int} {S0' S : El} {w w' : World} {e : Ending} (h : RetROf f n S0' S w e w') (hf : f = (0, 0)) : ∃ b ti, e = .returned (.tuple #[.pointer (some ⟨b, 0, none⟩), .agg #[.int .i64 0, .int .i64 0]]) ∧ rHas w' w.heap.size b n S ti ∧ Below w.heap.size w w' ∧ (ti = false → NoTies n S0' n) := by
  subst hf
  obtain ⟨v, rfl, hb, h1, -⟩ := h
  obtain ⟨-, b, ti, rfl, h9, ht⟩ := h1 rfl
  exact ⟨b, ti, rfl, h9, hb, ht⟩
theorem RetROf.bad {n : Nat} {f : Int × Int} {S0' S : El} {w w' : World} {e : Ending} (h : RetROf f n S0' S w e w') (hf : f.1 ≠ 0) : e = .returned (.tuple #[.pointer none, .agg #[.int .i64 f.1, .int .i64 f.2]]) ∧ Below w.heap.size w w' := by
  obtain ⟨v, rfl, hb, -, h1⟩ := h
  rw [h1 hf]
  exact ⟨rfl, hb⟩
/-- What an elimination that went well was given. -/
theorem ofF_zero {r c : Int} {l : List C} (h : (ofF r c l).1 = 0) : ∃ n : Nat, r = n ∧ c = n ∧ n ≤ 64 ∧ l.length = n * n ∧ ofF r c l = (0, 0) ∧ finTo (ofS r l).E n := by
  by_cases hk : (okM r c l.length && (r == c)) = true
  · have hk' := hk
    rw [Bool.and_eq_true] at hk
    have e : r = c := by simpa using hk.2
    subst e
    obtain ⟨h3, h4, -, -, h5⟩ := okM_iff.1 hk.1
    obtain ⟨n, rfl⟩ : ∃ n : Nat, r = (n : Int) := ⟨r.toNat, by omega⟩
    rw [← Int.natCast_mul] at h5
    have hl : l.length = n * n := by omega
    have hn : n ≤ 64 := by omega
    obtain ⟨q1, q2, -⟩ := of_fin (n := n) hn hl h
    refine ⟨n, rfl, rfl, hn, hl, q2, ?_⟩
    unfold ofS
    simp only [Int.toNat_natCast]
    exact elRun_fin (matE_fin hl q1) n (Nat.le_refl _)
  · have : ofF r c l = (4, -1) := by unfold ofF; rw [if_neg hk]
    rw [this] at h
    exact absurd h (by decide)
/-- What stands from the list's being lent on. -/
structure OfW (w : World) (W : World) (g b1 b3 : Nat) (r c : Int) (A : Option Addr) (l : List C) (cap : Nat) (zt zf : List C) (capf : Nat) (B : Nat) : Prop where
  bel : Below w.heap.size w W
  x1 : W.heap[b1]? = some (.cells #[.int .i64 r, .int .i64 c, .slice A l.length cap] 26)
  rd : Reads W W.heap.size A (nums l)
  own : W.ownsRow w.heap.size 51 1 (.slice (some ⟨g, 0, none⟩) zf.length capf) zf.length (nums zf)
  gB : g < B
  BW : B ≤ W.heap.size
theorem OfW.below {w W V : World} {g b1 b3 : Nat} {r c : Int} {A : Option Addr} {l : List C} {cap : Nat} {zt zf : List C} {capf B : Nat} (h : OfW w W g b1 b3 r c A l cap zt zf capf B) (hb : Below W.heap.size W V) : OfW w V g b1 b3 r c A l cap zt zf capf B :=
  ⟨h.bel.trans (hb.mono h.bel.size), row_keep hb h.x1, (h.rd.below hb).more hb.size, own_below h.own hb, h.gB, Nat.le_trans h.BW hb.size⟩
set_option maxHeartbeats 8000000 in
theorem of_c9 (r c : Int) (A : Option Addr) (l : List C) (cap : Nat) (w : World) (hX : Lies w A l cap) (hl : l.length ≤ 1000000) :
    Calls Try.prog 24 #[mval r c (.slice A l.length cap)] w fun e w' => e = .returned (.bool true) ∧ Below w.heap.size w w' := by
  obtain ⟨f1, f2, hf⟩ : ∃ f1 f2, ofF r c l = (f1, f2) := ⟨_, _, rfl⟩
  have hb0 := below_new w (.cells #[.int .i64 r, .int .i64 c, .slice A l.length cap] 26)
  have HLq := Lib.hid (Lentq_c r c A l cap _ hl ⟨(hX.reads.below hb0).more hb0.size, hX.none, hX.fits, hX.lt⟩)
  have HB0 := Lib.hid hb0
  have HF := Lib.hid hf
  have HX := Lib.hid hX
  have HLe := Lib.hid hl
  have HRow := Lib.hid (heap_alloc_new w (.cells #[.int .i64 r, .int .i64 c, .slice A l.length cap] 26))
  clear hf hb0 hX hl
  go_enter Try.func24, Try.ntmps24
  go_wp2_with fail
  refine HLq.out.mono ?_
  rintro e W1 ⟨g, zt, zf, capf, rfl, hzt, hlt, hown, hzf, hlst, hb⟩
  have hbn := below_new W1 (.cells #[.int .i64 r, .int .i64 c, .slice (some ⟨g, 0, none⟩) zt.length capf] 26)
  have hs0 := HB0.out.size
  have K1 := Lib.hid (show OfW w (W1.alloc (.cells #[.int .i64 r, .int .i64 c, .slice (some ⟨g, 0, none⟩) zt.length capf] 26)) g w.heap.size W1.heap.size r c A l cap zt zf capf (W1.heap.size + 1) from
    { bel := (HB0.out.trans (hb.mono hs0)).trans (hbn.mono (Nat.le_trans hs0 hb.size))
      x1 := row_keep hbn (row_keep hb HRow.out)
      rd := by
        have h1 := (HB0.out.trans (hb.mono hs0)).trans (hbn.mono (Nat.le_trans hs0 hb.size))
        exact (HX.out.reads.below h1).more h1.size
      own := own_below (hlst.own (B := w.heap.size) hs0) hbn
      gB := Nat.lt_succ_of_lt (hown.lt g rfl).2
      BW := by simp })
  have HZf := Lib.hid hzf
  obtain ⟨hofe, hofl⟩ := of_cn (r := r) (c := c) hzt
  have HOf := Lib.hid (Of_c r c (some ⟨g, 0, none⟩) zt capf _ (own_slice hown).2.1 (Reads.of_own (own_below hown hbn)) hlt)
  rw [hofe, HF.out] at HOf
  have HOl := Lib.hid hofl
  clear hzt hlt hown hzf hlst hb hbn hs0 HLq HB0 HRow hofe hofl
  by_cases h0 : f1 = 0
  · subst h0
    obtain ⟨n, hr, hc, hn, hln, hf0, hfin⟩ := ofF_zero (r := r) (c := c) (l := l) (by rw [HF.out])
    have hf2 : f2 = 0 := by have h3 := HF.out; rw [hf0] at h3; exact (Prod.mk.inj h3).2.symm
    subst hf2
    have hzl := HOl.out (by rw [HF.out])
    rw [hzl] at HOf
    obtain ⟨S, hS⟩ : ∃ S, S = ofS r l := ⟨_, rfl⟩
    have hrn : r.toNat = n := by rw [hr]; rfl
    rw [← hS, hrn] at HOf
    rw [← hS] at hfin
    have HFin := Lib.hid hfin
    have HNn := Lib.hid hn
    have HRf := Lib.hid (fun (V : World) (h : Reads V V.heap.size A (nums l)) => rOf_c r c A l cap V h HX.out.lt)
    rw [← hS, hrn, HF.out] at HRf
    clear hr hc hn hln hf0 hfin hS hrn HOl
    rw [hzl] at K1
    go_wp2_with fail
    refine HOf.out.mono ?_
    rintro e W2 hr
    obtain ⟨b2, rfl, h9, hb⟩ := hr.ok rfl
    have hbn := below_new W2 (.cells #[.int .i64 0, .int .i64 0] 31)
    have HF2 := Lib.hid (heap_alloc_new W2 (.cells #[.int .i64 0, .int .i64 0] 31))
    have K2 := Lib.hid ((K1.out.below hb).below hbn)
    have H9 := Lib.hid ((h9.base (B' := W1.heap.size + 1) (by simp)).below hbn)
    clear hr h9 hb hbn HOf
    obtain ⟨y0, y1, y2, -⟩ := box3 K2.out.x1
    go_wp2_with fail
    refine (HRf.out _ K2.out.rd).mono ?_
    rintro e W3 hr
    obtain ⟨b3, ti, rfl, h9, hb, -⟩ := hr.ok rfl
    have hbn := below_new W3 (.cells #[.int .i64 0, .int .i64 0] 31)
    have K3 := Lib.hid ((K2.out.below hb).below hbn)
    have H9b := Lib.hid ((H9.out.below hb).below hbn)
    have HR := Lib.hid ((h9.base (B' := W1.heap.size + 1) K2.out.BW).below hbn)
    have HF2b := Lib.hid (row_keep hbn (row_keep hb HF2.out))
    have HF3 := Lib.hid (heap_alloc_new W3 (.cells #[.int .i64 0, .int .i64 0] 31))
    clear hr h9 hb hbn HRf H9 K2 HF2 y0 y1 y2
    obtain ⟨y0, y1, y2, -⟩ := box3 K3.out.x1
    obtain ⟨p0, p1, -⟩ := row2 HF2b.out
    obtain ⟨q0, q1, -⟩ := row2 HF3.out
    have HKp := Lib.hid (Kept_t A (some ⟨g, 0, none⟩) l zf cap capf _ HLe.out HX.out.lt HX.out.none K3.out.rd HZf.out (Reads.of_own K3.out.own))
    go_wp2_with fail
    refine HKp.out.mono ?_
    rintro e W4 ⟨rfl, hb⟩
    have K4 := Lib.hid (K3.out.below hb)
    have H9c := Lib.hid (H9b.out.below hb)
    have HRc := Lib.hid (HR.out.below hb)
    clear hb HKp K3 H9b HR HF2b HF3 y0 y1 y2 p0 p1 q0 q1
    have HOv := Lib.hid (Over_big w.heap.size g capf zf.length zf W4 rfl (by have h1 := lent_len HZf.out; have h2 := HLe.out; omega) K4.out.own)
    go_wp2_with fail
    refine HOv.out.mono ?_
    rintro e W5 ⟨ys, rfl, -, -, hgr⟩
    have hg : g < W1.heap.size + 1 := K4.out.gB
    have h9 := H9c.out.keep (V := W5) (fun j hj hl => hgr.block j hl (fun e => by injection e with e; omega))
    have h9' := HRc.out.keep (V := W5) (fun j hj hl => hgr.block j hl (fun e => by injection e with e; omega))
    have HT := Lib.hid (told_c W5 h9 h9' HFin.out HNn.out)
    have B5 := Lib.hid (K4.out.bel.grown hgr K4.out.bel.size (fun j hj => by injection hj with hj; rw [← hj]; exact (K4.out.own.lt g rfl).1))
    clear hgr hg h9 h9' HOv
    go_wp2_with fail
    refine HT.out.mono ?_
    rintro e W6 ⟨rfl, hb⟩
    have B6 := Lib.hid (B5.out.trans (hb.mono B5.out.size))
    clear hb HT
    go_wp2
    go_ret
    exact ⟨rfl, B6.out⟩
  · have H0 := Lib.hid h0
    have HRf := Lib.hid (fun (V : World) (h : Reads V V.heap.size A (nums l)) => rOf_c r c A l cap V h HX.out.lt)
    rw [HF.out] at HRf
    clear h0 HOl
    go_wp2_with fail
    refine HOf.out.mono ?_
    rintro e W2 hr
    obtain ⟨rfl, hb⟩ := hr.bad H0.out
    have hbn := below_new W2 (.cells #[.int .i64 f1, .int .i64 f2] 31)
    have HF2 := Lib.hid (heap_alloc_new W2 (.cells #[.int .i64 f1, .int .i64 f2] 31))
    have K2 := Lib.hid ((K1.out.below hb).below hbn)
    clear hr hb hbn HOf
    obtain ⟨y0, y1, y2, -⟩ := box3 K2.out.x1
    go_wp2_with fail
    refine (HRf.out _ K2.out.rd).mono ?_
    rintro e W3 hr
    obtain ⟨rfl, hb⟩ := hr.bad H0.out
    have hbn := below_new W3 (.cells #[.int .i64 f1, .int .i64 f2] 31)
    have K3 := Lib.hid ((K2.out.below hb).below hbn)
    have HF2b := Lib.hid (row_keep hbn (row_keep hb HF2.out))
    have HF3 := Lib.hid (heap_alloc_new W3 (.cells #[.int .i64 f1, .int .i64 f2] 31))
    clear hr hb hbn HRf K2 HF2 y0 y1 y2
    obtain ⟨y0, y1, y2, -⟩ := box3 K3.out.x1
    obtain ⟨p0, p1, -⟩ := row2 HF2b.out
    obtain ⟨q0, q1, -⟩ := row2 HF3.out
    have HKp := Lib.hid (Kept_t A (some ⟨g, 0, none⟩) l zf cap capf _ HLe.out HX.out.lt HX.out.none K3.out.rd HZf.out (Reads.of_own K3.out.own))
    go_wp2_with fail
    refine HKp.out.mono ?_
    rintro e W4 ⟨rfl, hb⟩
    have K4 := Lib.hid (K3.out.below hb)
    clear hb HKp K3 HF2b HF3 y0 y1 y2 p0 p1 q0 q1
    have HOv := Lib.hid (Over_big w.heap.size g capf zf.length zf W4 rfl (by have h1 := lent_len HZf.out; have h2 := HLe.out; omega) K4.out.own)
    go_wp2_with fail
    refine HOv.out.mono ?_
    rintro e W5 ⟨ys, rfl, -, -, hgr⟩
    have B5 := Lib.hid (K4.out.bel.grown hgr K4.out.bel.size (fun j hj => by injection hj with hj; rw [← hj]; exact (K4.out.own.lt g rfl).1))
    clear hgr HOv
    go_wp2
    go_ret
    exact ⟨rfl, B5.out⟩
theorem Of9 (n : Int) (A : Option Addr) (l : List C) (cap : Nat) (w : World) (hr : Reads w w.heap.size A (zcells l)) (hlt : ltCs l) :
    Calls Try.prog 5 #[.int .i64 n, .slice A l.length cap] w fun e w' => e = .returned (.bool true) ∧ Below w.heap.size w w' := by
  have HSq := Lib.hid (Square_c n A l cap w hr)
  obtain ⟨N, hN⟩ : ∃ N, N = sqN n := ⟨_, rfl⟩
  have hN64 : N ≤ 64 := by rw [hN]; exact sqN_le n
  obtain ⟨L, hL⟩ : ∃ L, L = sqL l (N * N) := ⟨_, rfl⟩
  have hLl : L.length = N * N := by rw [hL]; exact sqL_len _ _
  have hLt : ltCs L := by rw [hL]; exact sqL_lt hlt _
  rw [← hN, ← hL] at HSq
  have hl4 : L.length ≤ 4096 := by rw [hLl]; exact prod_small hN64 hN64
  have HL4 := Lib.hid hl4
  have HLt := Lib.hid hLt
  clear hr hlt hN hN64 hL hLl hLt hl4
  go_enter Try.func5, Try.ntmps5
  go_wp2_with fail
  refine HSq.out.mono ?_
  rintro e W1 hr
  obtain ⟨A1, c1, rfl, hrd, hle, hno, -, hb⟩ := hr.lies
  have HOf := Lib.hid (of_c9 N N A1 L c1 W1 ⟨hrd, hno, hle, HLt.out⟩ (by have := HL4.out; omega))
  have HB := Lib.hid hb
  clear hr hrd hle hno hb HSq
  go_wp2_with fail
  refine HOf.out.mono ?_
  rintro e W2 ⟨rfl, hb⟩
  have HB2 := Lib.hid (HB.out.trans (hb.mono HB.out.size))
  clear hb HOf
  go_wp2
  go_ret
  exact ⟨rfl, HB2.out⟩
theorem Shapes9 (r c : Int) (A : Option Addr) (l : List C) (cap : Nat) (w : World) (hr : Reads w w.heap.size A (zcells l)) (hlt : ltCs l) (hl : l.length ≤ 1000000) :
    Calls Try.prog 6 #[.int .i64 r, .int .i64 c, .slice A l.length cap] w fun e w' => e = .returned (.bool true) ∧ Below w.heap.size w w' := by
  have HNu := Lib.hid (Numbers_c A l cap w hl hr)
  have HLt := Lib.hid hlt
  have HL := Lib.hid hl
  clear hr hlt hl
  go_enter Try.func6, Try.ntmps6
  go_wp2_with fail
  refine HNu.out.mono ?_
  rintro e W1 ⟨s, rfl, hown, hb⟩
  obtain ⟨A1, c1, rfl, hrd, hle, hno⟩ := own_reads hown
  have HOf := Lib.hid (of_c9 r c A1 l c1 W1 ⟨hrd, hno, hle, HLt.out⟩ HL.out)
  have HB := Lib.hid hb
  clear hown hrd hle hno hb HNu
  go_wp2_with fail
  refine HOf.out.mono ?_
  rintro e W2 ⟨rfl, hb⟩
  have HB2 := Lib.hid (HB.out.trans (hb.mono HB.out.size))
  clear hb HOf
  go_wp2
  go_ret
  exact ⟨rfl, HB2.out⟩
end Go.Proofs.Ytibjkmjccelcaaa
