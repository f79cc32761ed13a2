/- Layer 8: which row is taken (pivot.Choose), of finite numbers. -/
import Derived.Test.YtajdfbjjgjpicaaTab
import Derived.Test.YtajdfbjjgjpicaaEL0
import Derived.Test.YtajdfbjjgjpicaaParts2
import Derived.Deep.QuietTactic
import Derived.BigQuiet
namespace Go.Proofs.Ytajdfbjjgjpicaa
open Go.RowKit Fl Ieee
set_option maxRecDepth 20000
attribute [local go_sem] run_store_float run_store_complex Fl.order_self Fl.order_self' Fl.order_eq Fl.order_ne Fl.order_lt Fl.order_gt
theorem fin_cn {z : C} (h : pFinite z = true) : cnC z = z := by
  obtain ⟨-, -, n1, n2, -, -⟩ := fin_parts h
  unfold cnC
  rw [cn_of_not (k := .f64) n1, cn_of_not (k := .f64) n2]
theorem fin_cn1 {z : C} (h : pFinite z = true) : cn .f64 z.1 = z.1 ∧ cn .f64 z.2 = z.2 := by
  obtain ⟨-, -, n1, n2, -, -⟩ := fin_parts h
  exact ⟨cn_of_not (k := .f64) n1, cn_of_not (k := .f64) n2⟩
theorem size1_num {z : C} (h : pFinite z = true) : isNaN double (pSize1 z) = false := by
  have h1 := (size1_fin h).1
  unfold isNaN
  rw [(sgn_rung' h1).2]; exact decide_eq_false (by omega)
theorem cn_only' {x m : Nat} (h : Fl.cn .f64 x = m) (hm : isNaN double m = false) : x = m := by
  have hx : isNaN double x = false := (isNaN_cn .f64 x).symm.trans (by rw [h]; exact hm)
  rw [← h, cn_of_not (k := .f64) hx]
theorem Size1_x (z : C) (hz : ltC z) (hf : pFinite z = true) (w : World) :
    Calls Try.prog 67 #[.complex .f64 z.1 z.2] w fun e w' => e = .returned (.float .f64 (pSize1 z)) ∧ ∃ d, w' = w.drewN d := by
  refine (Size1_c z.1 z.2 hz.1 hz.2 w).mono ?_
  rintro e w' ⟨x, n, rfl, hv, hx, rfl⟩
  rw [(fin_cn1 hf).1, (fin_cn1 hf).2] at hv
  exact ⟨by rw [show x = pSize1 z from cn_only' hv (size1_num hf)], n, rfl⟩
theorem rSize1_x (z : C) (hz : ltC z) (hf : pFinite z = true) (w : World) :
    Calls Try.prog 97 #[.complex .f64 z.1 z.2] w fun e w' => e = .returned (.float .f64 (pSize1 z)) ∧ ∃ d, w' = w.drewN d := by
  refine (rSize1_c z.1 z.2 hz.1 hz.2 w).mono ?_
  rintro e w' ⟨x, n, rfl, hv, hx, rfl⟩
  rw [(fin_cn1 hf).1, (fin_cn1 hf).2] at hv
  exact ⟨by rw [show x = pSize1 z from cn_only' hv (size1_num hf)], n, rfl⟩
theorem quiet_drew' {P : Program} {f : FuncId} {args : Array Value} {w : World} {n : Nat} {v : Value}
    (h : Calls P f args (w.drewN n) fun e w' => e = .returned v ∧ ∃ d, w' = (w.drewN n).drewN d) :
    Calls P f args (w.drewN n) fun e w'' => e = .returned v ∧ ∃ m, w'' = w.drewN m :=
  h.mono fun _ _ ⟨he, d, hm⟩ => ⟨he, n + d, by rw [hm, World.drewN_drewN]⟩
/-- Two numbers are handed back; the world is as it was but for draws. -/
def RetII (a b : Int) (w : World) (e : Ending) (w' : World) : Prop := e = .returned (.tuple #[.int .i64 a, .int .i64 b]) ∧ ∃ d, w' = w.drewN d
theorem retII {a b x y : Int} {w w' : World} (h : x = a) (h' : y = b) (hw : ∃ d, w' = w.drewN d) : RetII a b w (.returned (.tuple #[.int .i64 x, .int .i64 y])) w' := ⟨by rw [h, h'], hw⟩
def ChooseR (col : Nat → C) (k n : Nat) (w : World) (b z i : Value) (wr : World) : Prop :=
  ∃ m d : Nat, k + m ≤ n ∧ i = .int .i64 ((k + m : Nat) : Int) ∧ b = .int .i64 (pivUp col k m : Nat) ∧ z = .bool (nilUp col k m) ∧ wr = w.drewN d
set_option maxHeartbeats 2000000 in
theorem Choose_c (col : Nat → C) (b n c k : Nat) (w : World) (hn : n ≤ 64) (hk : k < n) (hcell : ∀ i, i < n → w.cell? ⟨b, i, none⟩ = some (.complex .f64 (col i).1 (col i).2)) (hlt : ∀ i, i < n → ltC (col i)) (hfin : ∀ i, k ≤ i → i < n → pFinite (col i) = true) :
    Calls Try.prog 109 #[.slice (some ⟨b, 0, none⟩) n c, .int .i64 (k : Nat)] w (RetII (if nilUp col k (n - k) then 0 else (pivUp col k (n - k) : Nat)) (if nilUp col k (n - k) then 7 else 0) w) := by
  have HC := Lib.hid hcell
  have HL := Lib.hid hlt
  have HF := Lib.hid hfin
  have hki : (k : Int) < (n : Int) := Int.ofNat_lt.2 hk
  have hn64 : (n : Int) ≤ 64 := by omega
  have hd64 : decide ((64 : Int) < (n : Int)) = false := by simp; omega
  have hdk : decide ((k : Int) < 0) = false := by simp
  have hdn : decide (n ≤ k) = false := by simp; omega
  obtain ⟨r1, h1⟩ : ∃ r : Int, (if nilUp col k (n - k) then (0 : Int) else (pivUp col k (n - k) : Nat)) = r := ⟨_, rfl⟩
  obtain ⟨r2, h2⟩ : ∃ r : Int, (if nilUp col k (n - k) then (7 : Int) else 0) = r := ⟨_, rfl⟩
  rw [h1, h2]
  have H1 := Lib.hid h1
  have H2 := Lib.hid h2
  clear hcell hlt hfin h1 h2
  go_enter Try.func109, Try.ntmps109
  go_wp2
  go_loopw [6, 7, 8] (fun b z i wr => ChooseR col k n w b z i wr) (fun _ _ i _ => n - (intOf i).toNat)
  case atStart => exact ⟨0, 0, by omega, by simp, rfl, rfl, rfl⟩
  case round =>
    obtain ⟨m, d, hm, rfl, rfl, rfl, hwr⟩ := hrel
    have HW := Lib.hid hwr
    clear hwr
    obtain ⟨i, hi⟩ : ∃ i, i = k + m := ⟨_, rfl⟩
    obtain ⟨p, hp⟩ : ∃ p, p = pivUp col k m := ⟨_, rfl⟩
    obtain ⟨z0, hz0⟩ : ∃ z, z = nilUp col k m := ⟨_, rfl⟩
    have hpb := pivUp_bounds col k m
    rw [← hi, ← hp, ← hz0]
    rw [← hp] at hpb
    have hpn : p < n := by omega
    have HI := Lib.hid hi
    have HP := Lib.hid hp
    have HZ := Lib.hid hz0
    have hin : i ≤ n := by omega
    clear hi hp hz0 hpb hm
    by_cases hlt : i < n
    · have hlti : (i : Int) < (n : Int) := Int.ofNat_lt.2 hlt
      have hpi : (p : Int) < (n : Int) := Int.ofNat_lt.2 hpn
      have hc1 : ∀ D, (wr.drewN D).cell? ⟨b, i, none⟩ = some (.complex .f64 (col i).1 (col i).2) := fun D => by rw [HW.out]; exact HC.out i hlt
      have hc1' : wr.cell? ⟨b, i, none⟩ = some (.complex .f64 (col i).1 (col i).2) := hc1 0
      have hc2 : ∀ D, (wr.drewN D).cell? ⟨b, p, none⟩ = some (.complex .f64 (col p).1 (col p).2) := fun D => by rw [HW.out]; exact HC.out p hpn
      have fi := HF.out i (by have := HI.out; omega) hlt
      have hkp : k ≤ p := by have := HP.out; have := (pivUp_bounds col k m).1; omega
      have fp := HF.out p hkp hpn
      have hfi := Finite_c (col i).1 (col i).2 (HL.out i hlt).1 (HL.out i hlt).2
      have hzi := Zero_c (col i).1 (col i).2
      rw [(fin_cn1 fi).1, (fin_cn1 fi).2] at hfi hzi
      rw [show ((col i).1, (col i).2) = col i from rfl] at hfi hzi
      rw [fi] at hfi
      have li := HL.out i hlt
      have lp := HL.out p hpn
      have HFi := Lib.hid hfi
      have HZi := Lib.hid hzi
      have hit : flt .f64 (pSize1 (col p)) (pSize1 (col i)) = true → pivUp col k (m + 1) = i := fun h => by rw [HI.out]; exact pivUp_hit (by rw [← HP.out, ← HI.out]; exact h)
      have miss : flt .f64 (pSize1 (col p)) (pSize1 (col i)) = false → pivUp col k (m + 1) = p := fun h => by rw [pivUp_miss (by rw [← HP.out, ← HI.out]; exact h), ← HP.out]
      have hnil : nilUp col k (m + 1) = (z0 && pZero (col i)) := by rw [HZ.out, HI.out]; rfl
      have HIT := Lib.hid hit
      have MISS := Lib.hid miss
      have HNIL := Lib.hid hnil
      clear hfi hzi hit miss hnil hkp
      have hb1 : (i : Int) + 1 ≤ 65 := by omega
      have hb1 : (i : Int) + 1 ≤ 65 := by omega
      cases hg : flt .f64 (pSize1 (col p)) (pSize1 (col i))
      · have E : Hid (pivUp col k (m + 1) = p) := MISS.out hg
        cases z0 <;> (
          go_wp2_with fail
          refine (HFi.out _).mono ?_
          rintro e w2 ⟨d2, rfl, hw2⟩
          have HW2 := Lib.hid hw2
          clear hw2
          have hd1 : ∀ D, (w2.drewN D).cell? ⟨b, i, none⟩ = some (.complex .f64 (col i).1 (col i).2) := fun D => by rw [HW2.out]; exact hc1 0
          have hd2 : ∀ D, (w2.drewN D).cell? ⟨b, p, none⟩ = some (.complex .f64 (col p).1 (col p).2) := fun D => by rw [HW2.out]; exact hc2 0
          have hd3 : w2.cell? ⟨b, i, none⟩ = some (.complex .f64 (col i).1 (col i).2) := hd1 0
          go_wp2_with (go_at_call 118; refine (HZi.out _).mono ?_; rintro e w' ⟨rfl, rfl⟩)
          go_quiet ((go_at_call 67; (with_reducible refine quiet_drew' (Size1_x _ ?_ ?_ _)) <;> assumption))
          clear hc1 hc2 hd1 hd2 hd3 hc1'
          go_wp2
          go_roundw
          case rel => exact ⟨m + 1, _, by have := HI.out; omega, by rw [show k + (m + 1) = i + 1 by have := HI.out; omega]; go_num, by rw [E.out], by rw [HNIL.out]; rfl, by rw [HW2.out, HW.out, World.drewN_drewN, World.drewN_drewN]⟩
          case measure => simp [intOf]; omega)
      · have E : Hid (pivUp col k (m + 1) = i) := HIT.out hg
        cases z0 <;> (
          go_wp2_with fail
          refine (HFi.out _).mono ?_
          rintro e w2 ⟨d2, rfl, hw2⟩
          have HW2 := Lib.hid hw2
          clear hw2
          have hd1 : ∀ D, (w2.drewN D).cell? ⟨b, i, none⟩ = some (.complex .f64 (col i).1 (col i).2) := fun D => by rw [HW2.out]; exact hc1 0
          have hd2 : ∀ D, (w2.drewN D).cell? ⟨b, p, none⟩ = some (.complex .f64 (col p).1 (col p).2) := fun D => by rw [HW2.out]; exact hc2 0
          have hd3 : w2.cell? ⟨b, i, none⟩ = some (.complex .f64 (col i).1 (col i).2) := hd1 0
          go_wp2_with (go_at_call 118; refine (HZi.out _).mono ?_; rintro e w' ⟨rfl, rfl⟩)
          go_quiet ((go_at_call 67; (with_reducible refine quiet_drew' (Size1_x _ ?_ ?_ _)) <;> assumption))
          clear hc1 hc2 hd1 hd2 hd3 hc1'
          go_wp2
          go_roundw
          case rel => exact ⟨m + 1, _, by have := HI.out; omega, by rw [show k + (m + 1) = i + 1 by have := HI.out; omega]; go_num, by rw [E.out], by rw [HNIL.out]; rfl, by rw [HW2.out, HW.out, World.drewN_drewN, World.drewN_drewN]⟩
          case measure => simp [intOf]; omega)
    · have e : i = n := by omega
      subst e
      have en : i - k = m := by have := HI.out; omega
      have HEn := Lib.hid en
      clear en
      cases z0
      · go_wp2
        go_ret2
        exact retII (by rw [← H1.out, HEn.out, ← HP.out, ← HZ.out]; rfl) (by rw [← H2.out, HEn.out, ← HZ.out]; rfl) ⟨d, HW.out⟩
      · go_wp2
        go_ret2
        exact retII (by rw [← H1.out, HEn.out, ← HZ.out]; rfl) (by rw [← H2.out, HEn.out, ← HZ.out]; rfl) ⟨d, HW.out⟩
end Go.Proofs.Ytajdfbjjgjpicaa
