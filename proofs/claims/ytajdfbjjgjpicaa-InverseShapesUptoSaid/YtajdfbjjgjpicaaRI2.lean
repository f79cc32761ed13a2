/- The document's layer 12: how far errors are carried (gridworkref12.Carried). -/
import Derived.Test.YtajdfbjjgjpicaaRI1
import Derived.Deep.DeepCutAuto
namespace Go.Proofs.Ytajdfbjjgjpicaa
open Go.RowKit Fl Ieee
set_option maxRecDepth 20000
attribute [local go_sem] run_store_float run_store_complex Fl.order_self Fl.order_self'
theorem rnorm12_c (n : Nat) (A : Option Addr) (l : List C) (cap : Nat) (w : World) (hn : n ≤ 64) (hl : l.length = n * n) (hrd : Reads w w.heap.size A (nums l)) (hlt : ltCs l) :
    Calls Try.prog 39 #[mval n n (.slice A l.length cap)] w (RetV (.float .f64 (norm1 l n n)) w) := by
  have hb := below_new w (.cells #[.int .i64 (n : Nat), .int .i64 (n : Nat), .slice A l.length cap] 28)
  have HN := Lib.hid (rNorm1_c n n A l cap _ hn hn hl ((hrd.below hb).more hb.size) hlt)
  have HB := Lib.hid hb
  obtain ⟨x, hx⟩ : ∃ x, x = norm1 l n n := ⟨_, rfl⟩
  rw [← hx] at HN ⊢
  clear hrd hlt hl hb hx
  go_enter Try.func39, Try.ntmps39
  go_wp2_with fail
  refine HN.out.mono ?_
  rintro e W1 ⟨rfl, hb⟩
  have HB1 := Lib.hid (HB.out.trans (hb.mono HB.out.size))
  clear hb HN
  go_wp2
  go_ret
  exact ⟨rfl, HB1.out⟩
theorem fin_zero_im (x : Nat) : pFinite (x, cn .f64 0) = !(isInf double x || isNaN double x) := by
  unfold pFinite
  rw [show isFin double (cn .f64 0) = true by decide, Bool.and_true]
  unfold isFin isInf isNaN
  by_cases h1 : rung double x < double.infRung
  · have h2 : ¬ rung double x = double.infRung := by omega
    have h3 : ¬ double.infRung < rung double x := by omega
    simp [h1, h2, h3]
  · by_cases h2 : rung double x = double.infRung
    · simp [h2]
    · have h3 : double.infRung < rung double x := by omega
      simp [h1, h3]
set_option maxHeartbeats 4000000 in
theorem rCar_bad (r c : Int) (A : Option Addr) (l : List C) (cap : Nat) (w : World) (hrd : Reads w w.heap.size A (nums l)) (hlt : ltCs l) (hI : (ofI r c l).1 ≠ 0) :
    Calls Try.prog 43 #[mval r c (.slice A l.length cap)] w (RetCar 0 (ofI r c l) w) := by
  obtain ⟨Wf, hWf, hm, hff, hbw, hsz⟩ := frameCar w r c (.slice A l.length cap)
  obtain ⟨f1, f2, hf⟩ : ∃ f1 f2, ofI r c l = (f1, f2) := ⟨_, _, rfl⟩
  have HOf := Lib.hid (show Calls Try.prog 42 #[mval r c (.slice A l.length cap)] Wf fun e w' => e = .returned (.tuple #[mval 0 0 (.slice none 0 0), .agg #[.int .i64 f1, .int .i64 f2]]) ∧ Below Wf.heap.size Wf w' from
    (rInv_c r c A l cap Wf ((hrd.below hbw).more hbw.size) hlt).mono fun e w' h => by
      obtain ⟨h1, -, h2⟩ := h
      have h2 := h2 hI
      rw [hf] at h2; exact ⟨h2, h1⟩)
  rw [hf] at hI ⊢
  have hne : (f1 == 0) = false := by simpa using hI
  have HFf := Lib.hid hff
  have HBw := Lib.hid hbw
  have HSz := Lib.hid hsz
  rw [hWf] at HOf
  have HWf := Lib.hid hWf
  clear hrd hlt hI hm hff hbw hsz hf hWf
  go_enter Try.func43, Try.ntmps43
  go_wp2_with fail
  refine HOf.out.mono ?_
  rintro e W1 ⟨rfl, hb⟩
  rw [← HWf.out] at hb
  have hb2 := (hb.trans ((below_new W1 zrow).mono hb.size)).trans ((below_new (W1.alloc zrow) (.cells #[.int .i64 f1, .int .i64 f2] 43)).mono (Nat.le_trans hb.size (below_new W1 _).size))
  have hf1 := row_keep hb2 HFf.out
  have HF1 := Lib.hid hf1
  have HB1 := Lib.hid (HBw.out.trans (hb2.mono HBw.out.size))
  obtain ⟨d0, d1, fd⟩ := row2 hf1
  have g0 := fd 0
  have g1 := fd 1
  obtain ⟨e0, e1, fe⟩ := row2 (row_new2 W1 zrow (.cells #[.int .i64 f1, .int .i64 f2] 43))
  have hlt := hb.size
  rw [HSz.out] at hlt
  have n2 : W1.heap.size ≠ w.heap.size := by omega
  have n3 : w.heap.size ≠ W1.heap.size := by omega
  clear hb hb2 hf1 fd hlt fe
  go_wp2
  go_region
  all_goals go_wp2
  all_goals
    obtain ⟨q3, q4⟩ := set2 (u := .int .i64 f1) (v := .int .i64 f2) d0 d1
    refine bodyPost_ret (v := .tuple #[.float .f64 0, .agg #[.int .i64 f1, .int .i64 f2]]) (by simp [results, Try.results43, go_sem, q3, q4]) rfl ?_
    exact ⟨rfl, ((HB1.out.setCell (Nat.le_succ _) _).setCell (Nat.le_succ _) _).drew⟩
set_option maxHeartbeats 16000000 in
theorem rCar_good (n : Nat) (A : Option Addr) (l : List C) (cap : Nat) (w : World) (hn : n ≤ 64) (hl : l.length = n * n) (hrd : Reads w w.heap.size A (nums l)) (hlt : ltCs l) (hI : (ofI n n l).1 = 0) :
    Calls Try.prog 43 #[mval n n (.slice A l.length cap)] w (RetCar (carV n n l) (carF n n l) w) := by
  obtain ⟨Wf, hWf, hm, hff, hbw, hsz⟩ := frameCar w n n (.slice A l.length cap)
  obtain ⟨M, hM⟩ : ∃ M, M = n * n := ⟨_, rfl⟩
  obtain ⟨L, hL⟩ : ∃ L, L = entries n (invE n (ofS n l)) (n * n) := ⟨_, rfl⟩
  have hLl : L.length = n * n := by rw [hL]; simp [entries]
  have hLM : L.length = M := hLl.trans hM.symm
  have hLt : ltCs L := by rw [hL]; exact inv_lt hn hl hlt (ofI_ok hI).1
  have hlM : l.length = M := hl.trans hM.symm
  have HOf := Lib.hid (show Calls Try.prog 42 #[mval n n (.slice A M cap)] Wf fun e w' => ∃ A2 c2, e = .returned (.tuple #[mval n n (.slice A2 M c2), .agg #[.int .i64 0, .int .i64 0]]) ∧ Reads w' w'.heap.size A2 (nums L) ∧ Below Wf.heap.size Wf w' from by
    rw [← hlM]
    exact (rInv_c n n A l cap Wf ((hrd.below hbw).more hbw.size) hlt).mono fun e w' h => by
      obtain ⟨h1, h2, -⟩ := h
      obtain ⟨s, rfl, ho⟩ := h2 hI
      have ho' : w'.ownsRow Wf.heap.size 53 1 s M (nums L) := by rw [hL, hM]; exact ho
      obtain ⟨A2, m, c2, rfl, rfl⟩ := slice_of_own ho'
      exact ⟨A2, c2, by rw [hlM]; rfl, Reads.of_own ho', h1⟩)
  obtain ⟨x1, hx1⟩ : ∃ x, x = norm1 l n n := ⟨_, rfl⟩
  obtain ⟨x2, hx2⟩ : ∃ x, x = norm1 L n n := ⟨_, rfl⟩
  have HN1 := Lib.hid (fun (V : World) (h : Reads V V.heap.size A (nums l)) => (show Calls Try.prog 39 #[mval n n (.slice A M cap)] V (RetV (.float .f64 x1) V) from by
    rw [← hlM, hx1]; exact rnorm12_c n A l cap V hn hl h hlt))
  have HN2 := Lib.hid (fun (A2 : Option Addr) (c2 : Nat) (V : World) (h : Reads V V.heap.size A2 (nums L)) => (show Calls Try.prog 39 #[mval n n (.slice A2 M c2)] V (RetV (.float .f64 x2) V) from by
    rw [← hLM, hx2]; exact rnorm12_c n A2 L c2 V hn hLl h hLt))
  obtain ⟨cf, hcf⟩ : ∃ cf, cf = carF n n l := ⟨_, rfl⟩
  obtain ⟨cv, hcv⟩ : ∃ cv, cv = carV n n l := ⟨_, rfl⟩
  rw [← hcf, ← hcv]
  have hcP : carP n l = fmul (cn .f64 x1) (cn .f64 x2) := by unfold carP; rw [← hL, hx1, hx2]
  have HCar := Lib.hid (show (cf = if isInf double (carP n l) || isNaN double (carP n l) then (6, -1) else (0, 0)) ∧ (cv = if isInf double (carP n l) || isNaN double (carP n l) then 0 else carP n l) from by
    rw [hcf, hcv]; unfold carF carV; rw [if_pos hI, if_pos hI]; exact ⟨rfl, rfl⟩)
  rw [hcP] at HCar
  rw [hlM] at hWf hm ⊢
  have HFf := Lib.hid hff
  have HBw := Lib.hid hbw
  have HSz := Lib.hid hsz
  have HM := Lib.hid hm
  have HRd := Lib.hid ((hrd.below hbw).more hbw.size)
  rw [hWf] at HOf
  have HWf := Lib.hid hWf
  clear hrd hlt hI hm hff hbw hsz hWf hM hL hLl hLM hLt hlM hx1 hx2 hcf hcv hcP hl hn
  go_enter Try.func43, Try.ntmps43
  go_wp2_with fail
  refine HOf.out.mono ?_
  rintro e W1 ⟨A2, c2, rfl, hr, hb⟩
  rw [← HWf.out] at hb
  have hbn := (below_new W1 (.cells #[.int .i64 (n : Nat), .int .i64 (n : Nat), .slice A2 M c2] 28)).new (Nat.le_refl _) (.cells #[.int .i64 0, .int .i64 0] 43)
  have hb2 := hb.trans (hbn.mono hb.size)
  have HF1 := Lib.hid (row_keep hb2 HFf.out)
  have HM1 := Lib.hid (row_keep hb2 HM.out)
  have HX1 := Lib.hid (row_alloc (o' := (.cells #[.int .i64 0, .int .i64 0] 43)) (heap_alloc_new W1 (.cells #[.int .i64 (n : Nat), .int .i64 (n : Nat), .slice A2 M c2] 28)))
  have HB1 := Lib.hid (HBw.out.trans (hb2.mono HBw.out.size))
  have HRd1 := Lib.hid ((HRd.out.below hb2).more hb2.size)
  have HRx1 := Lib.hid ((hr.below hbn).more hbn.size)
  obtain ⟨V1, hV1⟩ : ∃ V1, V1 = (W1.alloc (.cells #[.int .i64 (n : Nat), .int .i64 (n : Nat), .slice A2 M c2] 28)).alloc (.cells #[.int .i64 0, .int .i64 0] 43) := ⟨_, rfl⟩
  obtain ⟨e0, e1, -⟩ := row2 (row_new2 W1 (.cells #[.int .i64 (n : Nat), .int .i64 (n : Nat), .slice A2 M c2] 28) (.cells #[.int .i64 0, .int .i64 0] 43))
  have HV1 := Lib.hid hV1
  rw [← hV1] at hbn e0 e1 HF1 HM1 HX1 HB1 HRd1 HRx1
  clear hb hb2 hbn hr hV1
  go_upto_region 2 with fail
  rw [← HV1.out]
  clear HV1
  have HG1 := Lib.hid (fun (V : World) (hV : Below V1.heap.size V1 V) => (show Calls Try.prog 39 #[mval n n (.slice A M cap)] V (fun e w' => e = .returned (.float .f64 x1) ∧ Below V1.heap.size V1 w') from
    (HN1.out V ((HRd1.out.below hV).more hV.size)).mono fun e w' ⟨he, hb⟩ => ⟨he, hV.trans (hb.mono hV.size)⟩))
  have HG2 := Lib.hid (fun (V : World) (hV : Below V1.heap.size V1 V) => (show Calls Try.prog 39 #[mval n n (.slice A2 M c2)] V (fun e w' => e = .returned (.float .f64 x2) ∧ Below V1.heap.size V1 w') from
    (HN2.out A2 c2 V ((HRx1.out.below hV).more hV.size)).mono fun e w' ⟨he, hb⟩ => ⟨he, hV.trans (hb.mono hV.size)⟩))
  have HK := Lib.hid (fun (V : World) (hV : Below V1.heap.size V1 V) => (show V.cell? ⟨w.heap.size, 0, none⟩ = some (.int .i64 (n : Nat)) ∧ V.cell? ⟨w.heap.size, 1, none⟩ = some (.int .i64 (n : Nat)) ∧ V.cell? ⟨w.heap.size, 2, none⟩ = some (.slice A M cap) ∧ V.cell? ⟨W1.heap.size, 0, none⟩ = some (.int .i64 (n : Nat)) ∧ V.cell? ⟨W1.heap.size, 1, none⟩ = some (.int .i64 (n : Nat)) ∧ V.cell? ⟨W1.heap.size, 2, none⟩ = some (.slice A2 M c2) from by
    obtain ⟨a0, a1, a2, -⟩ := box3 (row_keep hV HM1.out)
    obtain ⟨b0, b1, b2, -⟩ := box3 (row_keep hV HX1.out)
    exact ⟨a0, a1, a2, b0, b1, b2⟩))
  clear HN1 HN2
  go_upto_region 4 with fail
  go_cut [6] (fun s wx => ∃ r, s = .float .f64 r ∧ Hid (cn .f64 r = fmul (cn .f64 x1) (cn .f64 x2) ∧ r < 18446744073709551616) ∧ Below V1.heap.size V1 wx)
  case first =>
    have hV := (Below.refl V1.heap.size V1).drew
    obtain ⟨a0, a1, a2, b0, b1, b2⟩ := HK.out _ hV
    clear e0 e1
    go_region_with (first
      | (go_at_call 39; (with_reducible refine (HG1.out _ ?_).mono ?_); (repeat (first | with_reducible assumption | with_reducible refine Below.drew ?_ | with_reducible exact Below.refl _ _)); (rintro e V ⟨rfl, hV⟩); (obtain ⟨a0, a1, a2, b0, b1, b2⟩ := HK.out _ hV))
      | (go_at_call 39; (with_reducible refine (HG2.out _ ?_).mono ?_); (repeat (first | with_reducible assumption | with_reducible refine Below.drew ?_ | with_reducible exact Below.refl _ _)); (rintro e V ⟨rfl, hV⟩); (obtain ⟨a0, a1, a2, b0, b1, b2⟩ := HK.out _ hV))
      | (refine upon_mul _ _ _ _ ?_; intro r1 n1 h1; have hVn := below_drewN hV n1; have H1 := Lib.hid h1))
    all_goals
      go_wp2
      go_meet
      case rel => exact ⟨_, rfl, H1, hVn⟩
  case rest =>
    obtain ⟨r1, rfl, hr, hVr⟩ := hcut
    have HB4 := Lib.hid (HB1.out.trans (hVr.mono HB1.out.size))
    have HF4 := Lib.hid (row_keep hVr HF1.out)
    clear HG1 HG2 HK e0 e1 hVr
    have hlt := hr.out.2
    have HFi := Lib.hid (fun V : World => rFinite_c r1 0 hlt (by decide) V)
    have e1 : cn .f64 r1 = fmul (cn .f64 x1) (cn .f64 x2) := hr.out.1
    have HC2 := HCar.out
    rw [← e1] at HC2
    have hpf : pFinite (cn .f64 r1, cn .f64 0) = !(isInf double (cn .f64 r1) || isNaN double (cn .f64 r1)) := fin_zero_im _
    rw [hpf] at HFi
    obtain ⟨hc1, hc2⟩ := HC2
    obtain ⟨d0, d1, fd⟩ := row2 HF4.out
    have g0 := fd 0
    have g1 := fd 1
    clear e1 fd hpf hlt
    cases hb : (isInf double (cn .f64 r1) || isNaN double (cn .f64 r1))
    · rw [hb] at hc1 hc2 HFi
      have hnn : isNaN double r1 = false := by
        rw [Bool.or_eq_false_iff] at hb
        exact (isNaN_cn .f64 r1).symm.trans hb.2
      have HCF := Lib.hid (show cf = (0, 0) from hc1)
      have HCV := Lib.hid (show cv = cn .f64 r1 from hc2)
      have hcr := Lib.hid (cn_of_not (k := .f64) (x := r1) hnn)
      clear hc1 hc2 hb hnn
      go_wp2_with fail
      refine (HFi.out _).mono ?_
      rintro e V ⟨d, rfl, rfl⟩
      have HB5 := Lib.hid (below_drewN HB4.out d)
      go_wp2
      obtain ⟨q3, q4⟩ := set2 (u := .int .i64 0) (v := .int .i64 0) (show (World.drewN _ d).cell? ⟨w.heap.size + 1, 0, none⟩ = _ from d0) d1
      refine bodyPost_ret (v := .tuple #[.float .f64 r1, .agg #[.int .i64 0, .int .i64 0]]) (by simp [results, Try.results43, go_sem, q3, q4]) rfl ?_
      rw [HCF.out, HCV.out, hcr.out]
      exact ⟨rfl, (HB5.out.setCell (Nat.le_succ _) _).setCell (Nat.le_succ _) _⟩
    · rw [hb] at hc1 hc2 HFi
      have HCF := Lib.hid (show cf = (6, -1) from hc1)
      have HCV := Lib.hid (show cv = 0 from hc2)
      clear hc1 hc2 hb
      go_wp2_with fail
      refine (HFi.out _).mono ?_
      rintro e V ⟨d, rfl, rfl⟩
      have HB5 := Lib.hid (below_drewN HB4.out d)
      go_wp2
      obtain ⟨q3, q4⟩ := set2 (u := .int .i64 6) (v := .int .i64 (-1)) (show (World.drewN _ d).cell? ⟨w.heap.size + 1, 0, none⟩ = _ from d0) d1
      refine bodyPost_ret (v := .tuple #[.float .f64 0, .agg #[.int .i64 6, .int .i64 (-1)]]) (by simp [results, Try.results43, go_sem, q3, q4]) rfl ?_
      rw [HCF.out, HCV.out]
      exact ⟨rfl, (HB5.out.setCell (Nat.le_succ _) _).setCell (Nat.le_succ _) _⟩
theorem rCar_c (r c : Int) (A : Option Addr) (l : List C) (cap : Nat) (w : World) (hrd : Reads w w.heap.size A (nums l)) (hlt : ltCs l) :
    Calls Try.prog 43 #[mval r c (.slice A l.length cap)] w (RetCar (carV r c l) (carF r c l) w) := by
  by_cases hI : (ofI r c l).1 = 0
  · obtain ⟨n, rfl, rfl, hn, hl⟩ := ofI_shape hI
    exact rCar_good n A l cap w hn hl hrd hlt hI
  · have e1 : carV r c l = 0 := by unfold carV; rw [if_neg hI]
    have e2 : carF r c l = ofI r c l := by unfold carF; rw [if_neg hI]
    rw [e1, e2]
    exact rCar_bad r c A l cap w hrd hlt hI
end Go.Proofs.Ytajdfbjjgjpicaa
