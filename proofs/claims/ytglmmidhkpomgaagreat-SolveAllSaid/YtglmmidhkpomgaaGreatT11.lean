/- Layer 10: the determinant, what home comes to being handed in. -/
import Derived.Test.YtglmmidhkpomgaaGreatT10
namespace Go.Proofs.YtglmmidhkpomgaaGreat
open Go.RowKit Fl Ieee
set_option maxRecDepth 20000
attribute [local go_sem] run_store_float run_store_complex Fl.order_self Fl.order_self' Fl.order_eq Fl.order_ne Fl.order_lt Fl.order_gt
def HomeOk (z v : C) (p : Int) : Prop := ∀ V, Calls Tryz.prog 39 #[.complex .f64 z.1 z.2] V (RetHome v p V)
/-- How the determinant comes about, row by row. -/
structure DetH (n : Nat) (U hh dm : Nat → C) (p q de : Nat → Int) : Prop where
  d0 : dm 0 = (fone, 0)
  e0 : de 0 = 0
  hm : ∀ i, i < n → HomeOk (U i) (hh i) (p i)
  step : ∀ i, i < n → HomeOk (pMul (dm i) (hh i)) (dm (i + 1)) (q i)
  fh : ∀ i, i < n → pFinite (hh i) = true
  fd : ∀ i, i ≤ n → pFinite (dm i) = true
  fm : ∀ i, i < n → pFinite (pMul (dm i) (hh i)) = true
  next : ∀ i, i < n → de (i + 1) = de i + p i + q i
  bp : ∀ i, i < n → (p i).natAbs < 10000
  bq : ∀ i, i < n → (q i).natAbs < 10000
  be : ∀ i, i ≤ n → (de i).natAbs ≤ i * 20000
/-- What stands meanwhile. -/
structure DW (w W : World) (B b sb n M : Nat) (Al Au Ao : Option Addr) (kl ku ko : Nat) (S : El) : Prop where
  bel : Below w.heap.size w W
  sys : W.heap[sb]? = some (.cells #[.int .i64 (n : Nat), .slice Al M kl, .slice Au M ku, .slice Ao n ko] 69)
  ru : Reads W W.heap.size Au (nums (entries n (uppE S) (n * n)))
  x : Has9 W B b n S
theorem DW.below {w W V : World} {B b sb n M : Nat} {Al Au Ao : Option Addr} {kl ku ko : Nat} {S : El} (h : DW w W B b sb n M Al Au Ao kl ku ko S) (hb : Below W.heap.size W V) : DW w V B b sb n M Al Au Ao kl ku ko S :=
  ⟨h.bel.trans (hb.mono h.bel.size), row_keep hb h.sys, (h.ru.below hb).more hb.size, h.x.below hb⟩
def detD (S : El) (d : C) : C := if S.s then (flip double d.1, flip double d.2) else d
set_option linter.unusedSimpArgs false in
set_option maxHeartbeats 4000000 in
theorem Det_c {B b n : Nat} {S : El} {hh dm : Nat → C} {p q de : Nat → Int} (w : World) (h : Has9 w B b n S) (hf : finTo S.E n) (hn : n ≤ 64) (hD : DetH n (fun i => uppE S i i) hh dm p q de) (hl : ∀ i, i ≤ n → ltC (dm i)) :
    Calls Tryz.prog 12 #[.pointer (some ⟨b, 0, none⟩)] w fun e w' => e = .returned (.tuple #[.complex .f64 (detD S (dm n)).1 (detD S (dm n)).2, .int .i64 (de n), .int .i64 0]) ∧ Below w.heap.size w w' := by
  have HOp := Lib.hid (open_c w h hf hn)
  have H9 := Lib.hid h
  have HN := Lib.hid hn
  have HD := Lib.hid hD
  have HL := Lib.hid hl
  clear h hf hn hD hl
  go_enter Tryz.func12, Tryz.ntmps12
  go_wp2_with fail
  refine HOp.out.mono ?_
  rintro e W1 ⟨Al, kl, Au, ku, Ao, ko, rfl, hrl, hru, hro, hb⟩
  obtain ⟨M, hM⟩ : ∃ M, M = n * n := ⟨_, rfl⟩
  rw [← hM]
  have hM4 : M ≤ 4096 := by rw [hM]; exact prod_small HN.out HN.out
  have hbn := below_new W1 (.cells #[.int .i64 (n : Nat), .slice Al M kl, .slice Au M ku, .slice Ao n ko] 69)
  have HW0 := Lib.hid (show DW w (W1.alloc (.cells #[.int .i64 (n : Nat), .slice Al M kl, .slice Au M ku, .slice Ao n ko] 69)) B b W1.heap.size n M Al Au Ao kl ku ko S from
    { bel := hb.trans (hbn.mono hb.size)
      sys := heap_alloc_new W1 _
      ru := (hru.below hbn).more hbn.size
      x := (H9.out.below hb).below hbn })
  have HM := Lib.hid hM
  obtain ⟨s0, -, -, -, -⟩ := box4 HW0.out.sys
  clear hrl hru hro hb hbn hM HOp H9
  go_wp2
  clear s0
  go_loopw [7, 8, 21] (fun dv ev iv wr => ∃ i : Nat, i ≤ n ∧ iv = .int .i64 (i : Nat) ∧ dv = .complex .f64 (dm i).1 (dm i).2 ∧ ev = .int .i64 (de i) ∧ DW w wr B b W1.heap.size n M Al Au Ao kl ku ko S) (fun _ _ iv _ => n - (intOf iv).toNat)
  case atStart => exact ⟨0, Nat.zero_le _, rfl, by rw [HD.out.d0]; rfl, by rw [HD.out.e0], HW0.out⟩
  case round =>
    obtain ⟨i, hi, rfl, rfl, rfl, hw⟩ := hrel
    have HW := Lib.hid hw
    have hib : (i : Int) + 1 ≤ 65 := by have := HN.out; omega
    clear hw HW0
    by_cases hlt : i < n
    · have hlti : (i : Int) < (n : Int) := Int.ofNat_lt.2 hlt
      obtain ⟨a0, -, a2, -, -⟩ := box4 HW.out.sys
      obtain ⟨P1, hP1⟩ : ∃ P, P = i * n := ⟨_, rfl⟩
      have hi1 : (i + 1) * n ≤ n * n := Nat.mul_le_mul_right _ hlt
      rw [Nat.add_mul, Nat.one_mul, ← hP1, ← HM.out] at hi1
      obtain ⟨q1, hq1⟩ : ∃ q, q = P1 + i := ⟨_, rfl⟩
      have b1 : P1 ≤ 4096 := by omega
      have b3 : q1 ≤ 4096 := by omega
      have lt1 : q1 < M := by omega
      have lt1i : (q1 : Int) < (M : Int) := Int.ofNat_lt.2 lt1
      have m1 : (i : Int) * (n : Int) = (P1 : Int) := by rw [hP1, Int.natCast_mul]
      have m3 : (P1 : Int) + (i : Int) = (q1 : Int) := by omega
      have hev := ent_get (uppE S) hlt hlt
      rw [← hP1, ← hq1] at hev
      obtain ⟨z, hz⟩ : ∃ z, z = uppE S i i := ⟨_, rfl⟩
      rw [← hz] at hev
      obtain ⟨ad, rfl, -, hc⟩ := HW.out.ru.at_ hev
      have HH := Lib.hid (show HomeOk z (hh i) (p i) by rw [hz]; exact HD.out.hm i hlt)
      have n1 : decide ((q1 : Int) < 0) = false := by simp
      obtain ⟨pi, hpi⟩ : ∃ pi, pi = p i := ⟨_, rfl⟩
      obtain ⟨qi, hqi⟩ : ∃ qi, qi = q i := ⟨_, rfl⟩
      obtain ⟨ei, hei⟩ : ∃ ei, ei = de i := ⟨_, rfl⟩
      have bp1 := HD.out.bp i hlt
      have bq1 := HD.out.bq i hlt
      have be1 := HD.out.be i hi
      rw [← hpi] at bp1 HH
      rw [← hqi] at bq1
      rw [← hei] at be1
      have be2 : -1300000 ≤ ei := by omega
      have be3 : ei ≤ 1300000 := by omega
      have bp2 : -10000 < pi := by omega
      have bp3 : pi < 10000 := by omega
      have bq2 : -10000 < qi := by omega
      have bq3 : qi < 10000 := by omega
      have HNx := Lib.hid (show de (i + 1) = ei + pi + qi by rw [HD.out.next i hlt, ← hpi, ← hqi, ← hei])
      have HSt := Lib.hid (show HomeOk (pMul (dm i) (hh i)) (dm (i + 1)) qi by rw [hqi]; exact HD.out.step i hlt)
      rw [← hei]
      clear hP1 hi1 hq1 hev hz hpi hqi hei bp1 bq1 be1
      go_wp2_with fail
      refine (HH.out _).mono ?_
      rintro e w1 ⟨z1, d1, rfl, hz1, -, rfl⟩
      have e1 : z1 = hh i := like.fin (.inr hz1) (HD.out.fh i hlt)
      subst e1
      have HMu := Lib.hid (fun V => Mul_c (dm i).1 (dm i).2 (hh i).1 (hh i).2 V)
      rw [(fin_cn1 (HD.out.fd i hi)).1, (fin_cn1 (HD.out.fd i hi)).2, (fin_cn1 (HD.out.fh i hlt)).1, (fin_cn1 (HD.out.fh i hlt)).2] at HMu
      clear hz1 a0 a2 hc
      go_wp2_with fail
      refine (HMu.out _).mono ?_
      rintro e w2 ⟨x, y, d2, rfl, hxy, -, -, rfl⟩
      have e2 : (x, y) = pMul (dm i) (hh i) := like.fin (.inr hxy) (HD.out.fm i hlt)
      obtain ⟨zm, hzm⟩ : ∃ zm, zm = pMul (dm i) (hh i) := ⟨_, rfl⟩
      rw [← hzm] at e2
      have HSt2 := Lib.hid (show HomeOk zm (dm (i + 1)) qi by rw [hzm]; exact HSt.out)
      have ex : x = zm.1 := by rw [← e2]
      have ey : y = zm.2 := by rw [← e2]
      rw [ex, ey]
      clear hxy e2 hzm ex ey HSt
      go_wp2_with fail
      refine (HSt2.out _).mono ?_
      rintro e w3 ⟨z3, d3, rfl, hz3, -, rfl⟩
      have e3 : z3 = dm (i + 1) := like.fin (.inr hz3) (HD.out.fd (i + 1) hlt)
      subst e3
      clear hz3
      go_wp2
      go_roundw
      case rel => exact ⟨i + 1, hlt, by go_num, rfl, by rw [HNx.out], HW.out.below (below_drewN (Below.refl _ _) _)⟩
      case measure => simp [intOf]; omega
    · have e : i = n := by omega
      subst e
      have HSg := Lib.hid (Sign_c wr HW.out.x)
      obtain ⟨sg, hsg⟩ : ∃ sg, sg = S.s := ⟨_, rfl⟩
      rw [← hsg] at HSg
      have HS := Lib.hid hsg
      obtain ⟨l1, l2⟩ := HL.out i (Nat.le_refl _)
      have HNg := Lib.hid (fun V => Neg_c (dm i).1 (dm i).2 l1 l2 V)
      clear hsg
      cases sg
      · go_wp2_with fail
        refine HSg.out.mono ?_
        rintro e w' ⟨rfl, rfl⟩
        go_wp2
        go_ret3
        exact ⟨by unfold detD; rw [← HS.out]; rfl, HW.out.bel⟩
      · go_wp2_with fail
        refine HSg.out.mono ?_
        rintro e w' ⟨rfl, rfl⟩
        go_wp2_with fail
        refine (HNg.out _).mono ?_
        rintro e w' ⟨rfl, rfl⟩
        go_wp2
        go_ret3
        exact ⟨by unfold detD; rw [← HS.out]; rfl, HW.out.bel⟩
end Go.Proofs.YtglmmidhkpomgaaGreat
