/- The document's layer 10: right sides of any kind, determinants, many right sides. -/
import Derived.Test.YtglmmidhkpomgaaGreatRQ3
import Derived.Test.YtglmmidhkpomgaaGreatT21
import Derived.Test.YtglmmidhkpomgaaGreatT18
import Derived.StillTailTactics
import Derived.Deep.DeepCutAuto
namespace Go.Proofs.YtglmmidhkpomgaaGreat
open Go.RowKit Fl Ieee
set_option maxRecDepth 20000
attribute [local go_sem] run_store_float run_store_complex Fl.order_self Fl.order_self' Fl.order_eq Fl.order_ne Fl.order_lt Fl.order_gt Fl.fle_fold Fl.fge_fold
theorem rSolve_bad {B b n : Nat} {S : El} {ti : Bool} (Ab : Option Addr) (bl : List C) (cap : Nat) (w : World) (h : rHas w B b n S ti) (hn : n ≤ 64) (hl : bl.length ≤ 4611686018427387904) (hlt : ltCs bl) (hrd : Reads w w.heap.size Ab (nums bl)) (hE : bErr n bl ≠ 0) :
    Calls Tryz.prog 26 #[.pointer (some ⟨b, 0, none⟩), .slice Ab bl.length cap] w fun e w' => e = .returned (.tuple #[.slice none 0 0, .int .i64 (bErr n bl)]) ∧ Below w.heap.size w w' := by
  have HF := Lib.hid (rfirst_c Ab bl cap w h hlt hl hn hrd)
  obtain ⟨er, her⟩ : ∃ er, er = bErr n bl := ⟨_, rfl⟩
  rw [← her] at HF hE ⊢
  have hne : (er == 0) = false := by simpa using hE
  clear h hlt hl hrd hE her
  go_enter Tryz.func26, Tryz.ntmps26
  go_wp2_with fail
  refine HF.out.mono ?_
  rintro e W1 ⟨rfl, hb⟩
  have HB := Lib.hid hb
  clear hb
  go_wp2
  go_ret2
  exact ⟨rfl, HB.out⟩
theorem rTrans_bad {B b n : Nat} {S : El} {ti : Bool} (Ab : Option Addr) (bl : List C) (cap : Nat) (w : World) (h : rHas w B b n S ti) (hn : n ≤ 64) (hl : bl.length ≤ 4611686018427387904) (hlt : ltCs bl) (hrd : Reads w w.heap.size Ab (nums bl)) (hE : bErr n bl ≠ 0) :
    Calls Tryz.prog 27 #[.pointer (some ⟨b, 0, none⟩), .slice Ab bl.length cap] w fun e w' => e = .returned (.tuple #[.slice none 0 0, .int .i64 (bErr n bl)]) ∧ Below w.heap.size w w' := by
  have HF := Lib.hid (rfirst_c Ab bl cap w h hlt hl hn hrd)
  obtain ⟨er, her⟩ : ∃ er, er = bErr n bl := ⟨_, rfl⟩
  rw [← her] at HF hE ⊢
  have hne : (er == 0) = false := by simpa using hE
  clear h hlt hl hrd hE her
  go_enter Tryz.func27, Tryz.ntmps27
  go_wp2_with fail
  refine HF.out.mono ?_
  rintro e W1 ⟨rfl, hb⟩
  have HB := Lib.hid hb
  clear hb
  go_wp2
  go_ret2
  exact ⟨rfl, HB.out⟩
theorem rSolve_nil (s : Value) (w : World) : Calls Tryz.prog 26 #[.pointer none, s] w fun e w' => e = .returned (.tuple #[.slice none 0 0, .int .i64 1]) ∧ Below w.heap.size w w' := by
  have HF := Lib.hid (rfirst_nil s w)
  go_enter Tryz.func26, Tryz.ntmps26
  go_wp2_with fail
  refine HF.out.mono ?_
  rintro e W1 ⟨rfl, hb⟩
  have HB := Lib.hid hb
  clear hb
  go_wp2
  go_ret2
  exact ⟨rfl, HB.out⟩
theorem rTrans_nil (s : Value) (w : World) : Calls Tryz.prog 27 #[.pointer none, s] w fun e w' => e = .returned (.tuple #[.slice none 0 0, .int .i64 1]) ∧ Below w.heap.size w w' := by
  have HF := Lib.hid (rfirst_nil s w)
  go_enter Tryz.func27, Tryz.ntmps27
  go_wp2_with fail
  refine HF.out.mono ?_
  rintro e W1 ⟨rfl, hb⟩
  have HB := Lib.hid hb
  clear hb
  go_wp2
  go_ret2
  exact ⟨rfl, HB.out⟩
theorem rSolve_all {B b n : Nat} {S : El} {ti : Bool} (Ab : Option Addr) (bl : List C) (cap : Nat) (w : World) (h : rHas w B b n S ti) (hf : finTo S.E n) (hp : Perm n S.o) (hn : n ≤ 64) (hl : bl.length ≤ 4611686018427387904) (hlt : ltCs bl) (hrd : Reads w w.heap.size Ab (nums bl)) :
    Calls Tryz.prog 26 #[.pointer (some ⟨b, 0, none⟩), .slice Ab bl.length cap] w (RetSol (mErr (solOk n S bl) n bl) (mLst (solOk n S bl) n bl (solL n S bl)) w) := by
  unfold mErr mLst
  by_cases hE : bErr n bl = 0
  · rw [if_pos hE, if_pos hE]
    obtain ⟨h1, h2⟩ := bErr_ok hE
    exact rSolve_run Ab bl cap w h hf hp hn h1 h2 hlt hrd
  · rw [if_neg hE, if_neg hE]
    refine (rSolve_bad Ab bl cap w h hn hl hlt hrd hE).mono ?_
    rintro e w' ⟨rfl, hb⟩
    exact ⟨_, rfl, World.ownsRow_nil _ _ _ _, hb⟩
theorem rTrans_all {B b n : Nat} {S : El} {ti : Bool} (Ab : Option Addr) (bl : List C) (cap : Nat) (w : World) (h : rHas w B b n S ti) (hf : finTo S.E n) (hp : Perm n S.o) (hn : n ≤ 64) (hl : bl.length ≤ 4611686018427387904) (hlt : ltCs bl) (hrd : Reads w w.heap.size Ab (nums bl)) :
    Calls Tryz.prog 27 #[.pointer (some ⟨b, 0, none⟩), .slice Ab bl.length cap] w (RetSol (mErr (traOk n S bl) n bl) (mLst (traOk n S bl) n bl (traL n S bl)) w) := by
  unfold mErr mLst
  by_cases hE : bErr n bl = 0
  · rw [if_pos hE, if_pos hE]
    obtain ⟨h1, h2⟩ := bErr_ok hE
    exact rTrans_run Ab bl cap w h hf hp hn h1 h2 hlt hrd
  · rw [if_neg hE, if_neg hE]
    refine (rTrans_bad Ab bl cap w h hn hl hlt hrd hE).mono ?_
    rintro e w' ⟨rfl, hb⟩
    exact ⟨_, rfl, World.ownsRow_nil _ _ _ _, hb⟩
theorem rhome_d (z v : C) (p : Int) (big : Nat) (lz : ltC z) (hp1 : -10000 < p) (hp2 : p < 10000)
    (hmax : ∀ V, Calls Tryz.prog 78 #[.float .f64 (rung double z.1), .float .f64 (rung double z.2)] V fun e w' => e = .returned (.float .f64 big) ∧ V = w')
    (HF : ∀ V, Calls Tryz.prog 73 #[.float .f64 big] V fun e w' => ∃ y d, e = .returned (.tuple #[.float .f64 y, .int .i64 (p + 1)]) ∧ w' = V.drewN d)
    (HR : ∀ V, Calls Tryz.prog 75 #[.float .f64 z.1, .int .i64 (-p)] V (RetR v.1 V))
    (HI : ∀ V, Calls Tryz.prog 75 #[.float .f64 z.2, .int .i64 (-p)] V (RetR v.2 V)) (w : World) :
    Calls Tryz.prog 44 #[.complex .f64 z.1 z.2] w (RetHome v p w) := by
  have HM := Lib.hid hmax
  have HF := Lib.hid HF
  have HR := Lib.hid HR
  have HI := Lib.hid HI
  obtain ⟨lz1, lz2⟩ := lz
  clear hmax
  go_enter Tryz.func44, Tryz.ntmps44
  go_wp2_with (first
    | (go_at_call 74; refine (mAbs_c _ (by assumption) _).mono ?_; rintro e w' ⟨rfl, rfl⟩)
    | (go_at_call 78; refine (HM.out _).mono ?_; rintro e w' ⟨rfl, rfl⟩)
    | (go_at_call 73; refine (HF.out _).mono ?_; rintro e w' ⟨y, d, rfl, rfl⟩))
  refine (HR.out _).mono ?_
  rintro e w1 ⟨x1, n1, rfl, g1, l1, rfl⟩
  go_wp2_with fail
  refine (HI.out _).mono ?_
  rintro e w2 ⟨x2, n2, rfl, g2, l2, rfl⟩
  go_wp2
  go_ret2
  exact ⟨(x1, x2), d + n1 + n2, rfl, by show (cn .f64 x1, cn .f64 x2) = v; rw [g1, g2], ⟨l1, l2⟩, rfl⟩
theorem rhome_any (z : C) (h : HomeIn z) (V : World) : Calls Tryz.prog 44 #[.complex .f64 z.1 z.2] V (RetHome (hval z) (hpow z) V) := by
  obtain ⟨f1, f2⟩ := fin_of_pFinite h.fn
  obtain ⟨-, -, -, hs⟩ := big_facts h
  obtain ⟨p1, p2⟩ := hpow_bounds h
  obtain ⟨x1, x2, x3⟩ := part_expo h (x := z.1) (.inl rfl)
  obtain ⟨y1, y2, y3⟩ := part_expo h (x := z.2) (.inr rfl)
  have hi : double.infRung = 9218868437227405312 := by decide
  have a1 : rung double z.1 < 9218868437227405312 := by unfold fin at f1; omega
  have a2 : rung double z.2 < 9218868437227405312 := by unfold fin at f2; omega
  refine rhome_d z (hval z) (hpow z) (hbig z) h.lt (by omega) (by omega) (fun W => mMax_c _ _ a1 a2 W) (fun V => ?_) (fun V => ?_) (fun V => ?_) V
  · have hf := Frexp_any (hbig z) hs V
    rw [show expo (hbig z) - 1022 = hpow z + 1 by unfold hpow; omega] at hf
    exact hf
  · exact Ldexp_any z.1 (-hpow z) x1 x2 (fun h0 => by have := x3 h0; unfold hpow; omega) (by omega) V
  · exact Ldexp_any z.2 (-hpow z) y1 y2 (fun h0 => by have := y3 h0; unfold hpow; omega) (by omega) V
/-- The same number of the document's home. -/
def rHomeOk (z v : C) (p : Int) : Prop := ∀ V, Calls Tryz.prog 44 #[.complex .f64 z.1 z.2] V (RetHome v p V)
structure DQ (w W : World) (B b bu n M : Nat) (Au : Option Addr) (ku : Nat) (S : El) (ti : Bool) : Prop where
  bel : Below w.heap.size w W
  box : W.heap[bu]? = some (.cells #[.int .i64 (n : Nat), .int .i64 (n : Nat), .slice Au M ku] 33)
  ru : Reads W W.heap.size Au (nums (entries n (uppE S) M))
  x : rHas W B b n S ti
theorem DQ.below {w W V : World} {B b bu n M : Nat} {Au : Option Addr} {ku : Nat} {S : El} {ti : Bool} (h : DQ w W B b bu n M Au ku S ti) (hb : Below W.heap.size W V) : DQ w V B b bu n M Au ku S ti :=
  ⟨h.bel.trans (hb.mono h.bel.size), row_keep hb h.box, (h.ru.below hb).more hb.size, h.x.below hb⟩
theorem rDet_nil (w : World) : Calls Tryz.prog 13 #[.pointer none] w fun e w' => e = .returned (.tuple #[.complex .f64 0 0, .int .i64 0, .int .i64 1]) ∧ Below w.heap.size w w' := by
  go_enter Tryz.func13, Tryz.ntmps13
  go_wp2
  go_ret3
  exact ⟨rfl, Below.refl _ _⟩
set_option linter.unusedSimpArgs false in
set_option maxHeartbeats 8000000 in
theorem rDet_c {B b n : Nat} {S : El} {ti : Bool} {hh dm : Nat → C} {p q de : Nat → Int} (w : World) (h : rHas w B b n S ti) (hf : finTo S.E n) (hn : n ≤ 64)
    (hm : ∀ i, i < n → rHomeOk (uppE S i i) (hh i) (p i)) (hst : ∀ i, i < n → rHomeOk (pMul (dm i) (hh i)) (dm (i + 1)) (q i)) (hD : DetH n (fun i => uppE S i i) hh dm p q de) (hl : ∀ i, i ≤ n → ltC (dm i)) :
    Calls Tryz.prog 13 #[.pointer (some ⟨b, 0, none⟩)] w fun e w' => e = .returned (.tuple #[.complex .f64 (detD S (dm n)).1 (detD S (dm n)).2, .int .i64 (de n), .int .i64 0]) ∧ Below w.heap.size w w' := by
  obtain ⟨-, -, -, -, -, -, -, -, c5⟩ := h.cells
  obtain ⟨M, hM⟩ : ∃ M, M = n * n := ⟨_, rfl⟩
  have hM4 : M ≤ 4096 := by rw [hM]; exact prod_small hn hn
  have HFu := Lib.hid (show ∀ z ∈ entries n (uppE S) M, pFinite z = true by rw [hM]; exact entries_fin (upp_fin hf))
  have HUe := Lib.hid (show (entries n (uppE S) M).length = M by simp [entries])
  have HUc := Lib.hid (rU_c w h hf hn)
  rw [← hM] at HUc
  have H9 := Lib.hid h
  have HN := Lib.hid hn
  have HD := Lib.hid hD
  have HL := Lib.hid hl
  have HHm := Lib.hid hm
  have HHs := Lib.hid hst
  have HM := Lib.hid hM
  clear h hf hn hD hl hm hst hM
  go_enter Tryz.func13, Tryz.ntmps13
  go_wp2_with fail
  refine HUc.out.mono ?_
  rintro e W1 hr
  obtain ⟨Au, ku, rfl, hown, hb⟩ := RetMx.liesO hr HUe.out HFu.out (Nat.le_refl _)
  have hbn := below_new W1 (.cells #[.int .i64 (n : Nat), .int .i64 (n : Nat), .slice Au M ku] 33)
  have HW0 := Lib.hid (show DQ w (W1.alloc (.cells #[.int .i64 (n : Nat), .int .i64 (n : Nat), .slice Au M ku] 33)) B b W1.heap.size n M Au ku S ti from
    { bel := hb.trans (hbn.mono hb.size)
      box := heap_alloc_new W1 _
      ru := Reads.of_own (own_below hown hbn)
      x := (H9.out.below hb).below hbn })
  clear hr hown hb hbn HUc H9 c5
  go_wp2_with fail
  go_loopw [6, 7, 8, 9, 10] (fun dv ev iv _ _ wr => ∃ i : Nat, i ≤ n ∧ iv = .int .i64 (i : Nat) ∧ dv = .complex .f64 (dm i).1 (dm i).2 ∧ ev = .int .i64 (de i) ∧ DQ w wr B b W1.heap.size n M Au ku S ti) (fun _ _ iv _ _ _ => n - (intOf iv).toNat)
  case atStart => exact ⟨0, Nat.zero_le _, rfl, by rw [HD.out.d0]; rfl, by rw [HD.out.e0], HW0.out⟩
  case round =>
    obtain ⟨i, hi, rfl, rfl, rfl, hw⟩ := hrel
    have HW := Lib.hid hw
    have hib : (i : Int) + 1 ≤ 65 := by have := HN.out; omega
    clear hw HW0
    have HSz := Lib.hid (rSize_c wr HW.out.x)
    by_cases hlt : i < n
    · have hlti : (i : Int) < (n : Int) := Int.ofNat_lt.2 hlt
      obtain ⟨a0, a1, a2, -⟩ := box3 HW.out.box
      obtain ⟨z, hz⟩ : ∃ z, z = uppE S i i := ⟨_, rfl⟩
      have HEn := Lib.hid (rent_q (uppE S) Au ku i i wr HM.out HN.out hlt hlt HW.out.ru)
      rw [← hz] at HEn
      have HH := Lib.hid (show rHomeOk z (hh i) (p i) by rw [hz]; exact HHm.out i hlt)
      obtain ⟨pi, hpi⟩ : ∃ pi, pi = p i := ⟨_, rfl⟩
      obtain ⟨qi, hqi⟩ : ∃ qi, qi = q i := ⟨_, rfl⟩
      obtain ⟨ei, hei⟩ : ∃ ei, ei = de i := ⟨_, rfl⟩
      have bp1 := HD.out.bp i hlt
      have bq1 := HD.out.bq i hlt
      have be1 := HD.out.be i hi
      rw [← hpi] at bp1 HH
      rw [← hqi] at bq1
      rw [← hei] at be1
      have be2 : -1300000 ≤ ei := by omega
      have be3 : ei ≤ 1300000 := by omega
      have bp2 : -10000 < pi := by omega
      have bp3 : pi < 10000 := by omega
      have bq2 : -10000 < qi := by omega
      have bq3 : qi < 10000 := by omega
      have HNx := Lib.hid (show de (i + 1) = ei + pi + qi by rw [HD.out.next i hlt, ← hpi, ← hqi, ← hei])
      have HSt := Lib.hid (show rHomeOk (pMul (dm i) (hh i)) (dm (i + 1)) qi by rw [hqi]; exact HHs.out i hlt)
      rw [← hei]
      clear hz hpi hqi hei bp1 bq1 be1
      go_wp2_with fail
      refine HSz.out.mono ?_
      rintro e w' ⟨rfl, rfl⟩
      go_wp2_with fail
      refine HEn.out.mono ?_
      rintro e w0 ⟨rfl, hb⟩
      have HV := Lib.hid (HW.out.below hb)
      clear hb HEn HW HSz a0 a1 a2
      go_wp2_with fail
      refine (HH.out _).mono ?_
      rintro e w1 ⟨z1, d1, rfl, hz1, -, rfl⟩
      have e1 : z1 = hh i := like.fin (.inr hz1) (HD.out.fh i hlt)
      subst e1
      have HMu := Lib.hid (fun V => rMul_c (dm i).1 (dm i).2 (hh i).1 (hh i).2 V)
      rw [(fin_cn1 (HD.out.fd i hi)).1, (fin_cn1 (HD.out.fd i hi)).2, (fin_cn1 (HD.out.fh i hlt)).1, (fin_cn1 (HD.out.fh i hlt)).2] at HMu
      clear hz1
      go_wp2_with fail
      refine (HMu.out _).mono ?_
      rintro e w2 ⟨x, y, d2, rfl, hxy, -, -, rfl⟩
      have e2 : (x, y) = pMul (dm i) (hh i) := like.fin (.inr hxy) (HD.out.fm i hlt)
      obtain ⟨zm, hzm⟩ : ∃ zm, zm = pMul (dm i) (hh i) := ⟨_, rfl⟩
      rw [← hzm] at e2
      have HSt2 := Lib.hid (show rHomeOk zm (dm (i + 1)) qi by rw [hzm]; exact HSt.out)
      have ex : x = zm.1 := by rw [← e2]
      have ey : y = zm.2 := by rw [← e2]
      rw [ex, ey]
      clear hxy e2 hzm ex ey HSt
      go_wp2_with fail
      refine (HSt2.out _).mono ?_
      rintro e w3 ⟨z3, d3, rfl, hz3, -, rfl⟩
      have e3 : z3 = dm (i + 1) := like.fin (.inr hz3) (HD.out.fd (i + 1) hlt)
      subst e3
      clear hz3
      go_wp2
      go_roundw
      case rel => exact ⟨i + 1, hlt, by go_num, rfl, by rw [HNx.out], HV.out.below (below_drewN (Below.refl _ _) _)⟩
      case measure => simp [intOf]; omega
    · have e : i = n := by omega
      subst e
      have HSg := Lib.hid (rSign_c wr HW.out.x)
      obtain ⟨sg, hsg⟩ : ∃ sg, sg = S.s := ⟨_, rfl⟩
      rw [← hsg] at HSg
      have HS := Lib.hid hsg
      obtain ⟨l1, l2⟩ := HL.out i (Nat.le_refl _)
      have HNg := Lib.hid (fun V => rNeg_c (dm i).1 (dm i).2 l1 l2 V)
      clear hsg
      go_wp2_with fail
      refine HSz.out.mono ?_
      rintro e w' ⟨rfl, rfl⟩
      cases sg
      · go_wp2_with fail
        refine HSg.out.mono ?_
        rintro e w' ⟨rfl, rfl⟩
        go_wp2
        go_ret3
        exact ⟨by unfold detD; rw [← HS.out]; rfl, HW.out.bel⟩
      · go_wp2_with fail
        refine HSg.out.mono ?_
        rintro e w' ⟨rfl, rfl⟩
        go_wp2_with fail
        refine (HNg.out _).mono ?_
        rintro e w' ⟨rfl, rfl⟩
        go_wp2
        go_ret3
        exact ⟨by unfold detD; rw [← HS.out]; rfl, HW.out.bel⟩
end Go.Proofs.YtglmmidhkpomgaaGreat
