/- Layer 11: RefineNames: the walk. -/
import Derived.Test.YtandllekeimpgaaRfA
import Derived.Test.YtandllekeimpgaaExt
import Derived.Deep.DeepCutAuto
import Derived.Deep.QuietTactic
namespace Go.Proofs.Ytandllekeimpgaa
open Go.RowKit Fl Ieee
set_option maxRecDepth 20000
attribute [local go_sem] run_store_float run_store_complex Fl.order_self Fl.order_self' Fl.order_eq Fl.order_ne Fl.order_lt Fl.order_gt
set_option maxHeartbeats 4000000 in
theorem Names11 (w : World) : Calls Try.prog 6 #[] w fun e w' => e = .returned (.bool true) ∧ Below w.heap.size w w' := by
  go_enter Try.func6, Try.ntmps6
  go_wp2_with fail
  refine (three_c _).mono ?_
  rintro e V1 h3
  obtain ⟨A1, k1, rfl, hrd, hcap, -, -, hb⟩ := h3.lies
  have HOf := Lib.hid (Of_c 1 1 A1 th k1 V1 hcap hrd th_lt)
  have HB := Lib.hid hb
  clear h3 hrd hcap hb
  go_wp2_with fail
  refine HOf.out.mono ?_
  rintro e V2 hr
  obtain ⟨b, rfl, h9, hb2⟩ := hr.ok th_f
  have HB2 := Lib.hid (HB.out.trans (hb2.mono HB.out.size))
  have H9 := Lib.hid h9
  clear hr h9 hb2 HOf HB
  go_wp2_with fail
  refine (three_c _).mono ?_
  rintro e V3 h3
  obtain ⟨A3, k3, rfl, hrd, hcap, -, -, hb⟩ := h3.lies
  have b1 := below_new V2 (.cells #[.int .i64 0, .int .i64 0] 62)
  have b2 := below_new (V2.alloc (.cells #[.int .i64 0, .int .i64 0] 62)) (.cells #[.complex .f64 4611686018427387904 0] 45)
  have b3 := below_new ((V2.alloc (.cells #[.int .i64 0, .int .i64 0] 62)).alloc (.cells #[.complex .f64 4611686018427387904 0] 45)) (.cells #[.complex .f64 4621256167635550208 0] 45)
  have h2 := ((reads11 (V2.alloc (.cells #[.int .i64 0, .int .i64 0] 62)) n2 (.cells #[.complex .f64 4611686018427387904 0] 45) rfl (V2.heap.size + 1) (by simp)).below b3).more b3.size
  have h9 := reads11 ((V2.alloc (.cells #[.int .i64 0, .int .i64 0] 62)).alloc (.cells #[.complex .f64 4611686018427387904 0] 45)) n9 (.cells #[.complex .f64 4621256167635550208 0] 45) rfl (V2.heap.size + 1 + 1) (by simp)
  have Q3 := Lib.hid ((show Nq w _ V1.heap.size b (V2.heap.size + 1) (V2.heap.size + 1 + 1) from ⟨HB2.out.trans ((b1.trans ((b2.trans (b3.mono b2.size)).mono b1.size)).mono HB2.out.size), (((H9.out.below b1).below b2).below b3), h2, h9⟩).below hb)
  have HC := Lib.hid (Q3.out.once hcap hrd)
  clear h3 hrd hcap hb b1 b2 b3 h2 h9 HB2 H9
  obtain ⟨q, hq⟩ : ∃ q, q = V2.heap.size + 1 := ⟨_, rfl⟩
  obtain ⟨p, hp⟩ : ∃ p, p = V2.heap.size + 1 + 1 := ⟨_, rfl⟩
  rw [← hp, ← hq] at Q3 HC
  go_wp2_with fail
  rw [← hp, ← hq]
  clear hp hq
  refine HC.out.mono ?_
  rintro e V4 ⟨s4, rfl, hown, hb⟩
  obtain ⟨Ax, kx, rfl, hrx, -, -⟩ := own_readsT hown
  have Q4 := Lib.hid (Q3.out.below hb)
  have HX4 := Lib.hid hrx
  clear HC hown hb hrx Q3
  go_wp2_with fail
  refine (three_c _).mono ?_
  rintro e V5 h3
  obtain ⟨A5, k5, rfl, hrd, hcap, -, -, hb⟩ := h3.lies
  have Q5 := Lib.hid (Q4.out.below hb)
  have HX5 := Lib.hid ((HX4.out.below hb).more hb.size)
  have HC := Lib.hid (Q5.out.until hcap hrd 5 nm_u5)
  clear h3 hrd hcap hb Q4 HX4
  go_wp2_with fail
  refine HC.out.mono ?_
  rintro e V6 ⟨s6, rfl, hown, hb⟩
  obtain ⟨A6, k6, rfl, hrx, -, -⟩ := own_readsT hown
  have Q6 := Lib.hid (Q5.out.below hb)
  have HX6 := Lib.hid ((HX5.out.below hb).more hb.size)
  have HY6 := Lib.hid hrx
  clear HC hown hb hrx Q5 HX5
  go_wp2_with fail
  refine (three_c _).mono ?_
  rintro e V7 h3
  obtain ⟨A7, k7, rfl, hrd, hcap, -, -, hb⟩ := h3.lies
  have Q7 := Lib.hid (Q6.out.below hb)
  have HX7 := Lib.hid ((HX6.out.below hb).more hb.size)
  have HY7 := Lib.hid ((HY6.out.below hb).more hb.size)
  have HC := Lib.hid (Q7.out.until hcap hrd 0 nm_u0)
  clear h3 hrd hcap hb Q6 HX6 HY6
  go_wp2_with fail
  refine HC.out.mono ?_
  rintro e V8 ⟨s8, rfl, hown, hb⟩
  obtain ⟨A8, k8, rfl, hrx, -, -⟩ := own_readsT hown
  have Q8 := Lib.hid (Q7.out.below hb)
  have HX8 := Lib.hid ((HX7.out.below hb).more hb.size)
  have HY8 := Lib.hid ((HY7.out.below hb).more hb.size)
  have HZ8 := Lib.hid hrx
  clear HC hown hb hrx Q7 HX7 HY7
  go_wp2_with fail
  refine (three_c _).mono ?_
  rintro e V9 h3
  obtain ⟨A9, k9, rfl, hrd, hcap, -, -, hb⟩ := h3.lies
  have Q9 := Lib.hid (Q8.out.below hb)
  have HX9 := Lib.hid ((HX8.out.below hb).more hb.size)
  have HY9 := Lib.hid ((HY8.out.below hb).more hb.size)
  have HZ9 := Lib.hid ((HZ8.out.below hb).more hb.size)
  have HC := Lib.hid (Q9.out.until hcap hrd 65 nm_u65)
  clear h3 hrd hcap hb Q8 HX8 HY8 HZ8
  go_wp2_with fail
  refine HC.out.mono ?_
  rintro e V10 ⟨s10, rfl, hown, hb⟩
  obtain ⟨A10, k10, rfl, hrx, -, -⟩ := own_readsT hown
  have Q10 := Lib.hid (Q9.out.below hb)
  have HX10 := Lib.hid ((HX9.out.below hb).more hb.size)
  have HY10 := Lib.hid ((HY9.out.below hb).more hb.size)
  have HZ10 := Lib.hid ((HZ9.out.below hb).more hb.size)
  clear HC hown hb hrx Q9 HX9 HY9 HZ9
  go_wp2_with fail
  refine (three_c _).mono ?_
  rintro e V11 h3
  obtain ⟨A11, k11, rfl, hrd, hcap, -, -, hb⟩ := h3.lies
  have Q11 := Lib.hid (Q10.out.below hb)
  have HX11 := Lib.hid ((HX10.out.below hb).more hb.size)
  have HY11 := Lib.hid ((HY10.out.below hb).more hb.size)
  have HZ11 := Lib.hid ((HZ10.out.below hb).more hb.size)
  have HC := Lib.hid (Q11.out.until hcap hrd (-1) nm_u1)
  clear h3 hrd hcap hb Q10 HX10 HY10 HZ10
  go_wp2_with fail
  refine HC.out.mono ?_
  rintro e V12 ⟨s12, rfl, hown, hb⟩
  obtain ⟨A12, k12, rfl, hrx, -, -⟩ := own_readsT hown
  have Q12 := Lib.hid (Q11.out.below hb)
  have HX12 := Lib.hid ((HX11.out.below hb).more hb.size)
  have HY12 := Lib.hid ((HY11.out.below hb).more hb.size)
  have HZ12 := Lib.hid ((HZ11.out.below hb).more hb.size)
  clear HC hown hb hrx Q11 HX11 HY11 HZ11
  go_wp2_with fail
  refine (three_c _).mono ?_
  rintro e V13 h3
  obtain ⟨A13, k13, rfl, hrd, hcap, -, -, hb⟩ := h3.lies
  have Q13 := Lib.hid (Q12.out.below hb)
  have HX13 := Lib.hid ((HX12.out.below hb).more hb.size)
  have HY13 := Lib.hid ((HY12.out.below hb).more hb.size)
  have HZ13 := Lib.hid ((HZ12.out.below hb).more hb.size)
  have hb' := below_new V13 (.cells #[.complex .f64 4611686018427387904 0, .complex .f64 4611686018427387904 0] 45)
  have HC := Lib.hid (left_at (r := 1) (c := 1) (m := th) (x := n22) (b := n9) rfl rfl rfl hcap (Nat.le_refl _) (Nat.le_refl _) th_lt n22_lt n9_lt ((hrd.below hb').more hb'.size) (reads11 V13 n22 _ rfl _ rfl) (Q13.out.below hb').r9 nm_4)
  have HB' := Lib.hid hb'
  clear h3 hrd hcap hb hb' Q12 HX12 HY12 HZ12
  go_wp2_with fail
  refine HC.out.mono ?_
  rintro e V14 ⟨s14, rfl, hown, hb⟩
  obtain ⟨A14, k14, rfl, -, -, -⟩ := own_readsT hown
  have hb := HB'.out.trans (hb.mono HB'.out.size)
  have Q14 := Lib.hid (Q13.out.below hb)
  have HX14 := Lib.hid ((HX13.out.below hb).more hb.size)
  have HY14 := Lib.hid ((HY13.out.below hb).more hb.size)
  have HZ14 := Lib.hid ((HZ13.out.below hb).more hb.size)
  clear HC hown hb HB' Q13 HX13 HY13 HZ13
  go_wp2_with fail
  refine (three_c _).mono ?_
  rintro e V15 h3
  obtain ⟨A15, k15, rfl, hrd, hcap, -, -, hb⟩ := h3.lies
  have Q15 := Lib.hid (Q14.out.below hb)
  have HX15 := Lib.hid ((HX14.out.below hb).more hb.size)
  have HY15 := Lib.hid ((HY14.out.below hb).more hb.size)
  have HZ15 := Lib.hid ((HZ14.out.below hb).more hb.size)
  have HT := Lib.hid (And.intro hrd hcap)
  clear h3 hrd hcap hb Q14 HX14 HY14 HZ14
  go_wp2_with fail
  refine (mInf_c _).mono ?_
  rintro e w' ⟨rfl, rfl⟩
  have hb' := below_new V15 (.cells #[.complex .f64 0 9218868437227405312] 45)
  have HC := Lib.hid (left_at (r := 1) (c := 1) (m := th) (x := n2) (b := nI) rfl rfl rfl HT.out.2 (Nat.le_refl _) (Nat.le_refl _) th_lt n2_lt nI_lt ((HT.out.1.below hb').more hb'.size) (Q15.out.below hb').r2 (reads11 V15 nI _ rfl _ rfl) nm_5)
  have HB' := Lib.hid hb'
  clear hb' HT
  go_wp2_with fail
  refine HC.out.mono ?_
  rintro e V16 ⟨s16, rfl, hown, hb⟩
  obtain ⟨A16, k16, rfl, -, -, -⟩ := own_readsT hown
  have hb := HB'.out.trans (hb.mono HB'.out.size)
  have Q16 := Lib.hid (Q15.out.below hb)
  have HX16 := Lib.hid ((HX15.out.below hb).more hb.size)
  have HY16 := Lib.hid ((HY15.out.below hb).more hb.size)
  have HZ16 := Lib.hid ((HZ15.out.below hb).more hb.size)
  clear HC hown hb HB' Q15 HX15 HY15 HZ15
  have b1 := below_new V16 (.cells #[.complex .f64 9214871658872686752 0] 45)
  have b2 := below_new (V16.alloc (.cells #[.complex .f64 9214871658872686752 0] 45)) (.cells #[.complex .f64 9214871658872686752 0] 45)
  have b3 := below_new ((V16.alloc (.cells #[.complex .f64 9214871658872686752 0] 45)).alloc (.cells #[.complex .f64 9214871658872686752 0] 45)) (.cells #[.complex .f64 0 0] 45)
  have r1 := (((reads11 V16 n308 (.cells #[.complex .f64 9214871658872686752 0] 45) rfl _ rfl).below b2).more b2.size)
  have r2 := reads11 (V16.alloc (.cells #[.complex .f64 9214871658872686752 0] 45)) n308 (.cells #[.complex .f64 9214871658872686752 0] 45) rfl (V16.heap.size + 1) (by simp)
  have r3 := reads11 ((V16.alloc (.cells #[.complex .f64 9214871658872686752 0] 45)).alloc (.cells #[.complex .f64 9214871658872686752 0] 45)) n0 (.cells #[.complex .f64 0 0] 45) rfl (V16.heap.size + 1 + 1) (by simp)
  have HC := Lib.hid (left_at (r := 1) (c := 1) (m := n308) (x := n308) (b := n0) rfl rfl rfl (Nat.le_refl _) (Nat.le_refl _) (Nat.le_refl _) n308_lt n308_lt n0_lt ((r1.below b3).more b3.size) ((r2.below b3).more b3.size) r3 nm_6)
  have HB' := Lib.hid (b1.trans ((b2.trans (b3.mono b2.size)).mono b1.size))
  clear b1 b2 b3 r1 r2 r3
  go_wp2_with fail
  refine HC.out.mono ?_
  rintro e V17 ⟨s17, rfl, hown, hb⟩
  obtain ⟨A17, k17, rfl, -, -, -⟩ := own_readsT hown
  have hb := HB'.out.trans (hb.mono HB'.out.size)
  have Q17 := Lib.hid (Q16.out.below hb)
  have HX17 := Lib.hid ((HX16.out.below hb).more hb.size)
  have HY17 := Lib.hid ((HY16.out.below hb).more hb.size)
  have HZ17 := Lib.hid ((HZ16.out.below hb).more hb.size)
  clear HC hown hb HB' Q16 HX16 HY16 HZ16
  go_wp2_with fail
  refine (three_c _).mono ?_
  rintro e V18 h3
  obtain ⟨A18, k18, rfl, -, -, -, -, hb⟩ := h3.lies
  have Q18 := Lib.hid (Q17.out.below hb)
  have HX18 := Lib.hid ((HX17.out.below hb).more hb.size)
  have HY18 := Lib.hid ((HY17.out.below hb).more hb.size)
  have HZ18 := Lib.hid ((HZ17.out.below hb).more hb.size)
  clear h3 hb Q17 HX17 HY17 HZ17
  go_wp2_with fail
  refine (Once_no 1 1 (.slice A18 1 k18) (.pointer none) (some ⟨q, 0, none⟩) (some ⟨p, 0, none⟩) 1 1 1 1 V18 (.inl rfl)).mono ?_
  rintro e V19 ⟨rfl, hb⟩
  have Q19 := Lib.hid (Q18.out.below hb)
  have HX19 := Lib.hid ((HX18.out.below hb).more hb.size)
  have HY19 := Lib.hid ((HY18.out.below hb).more hb.size)
  have HZ19 := Lib.hid ((HZ18.out.below hb).more hb.size)
  clear hb Q18 HX18 HY18 HZ18
  go_wp2_with fail
  refine (three_c _).mono ?_
  rintro e V20 h3
  obtain ⟨A20, k20, rfl, -, -, -, -, hb⟩ := h3.lies
  have Q20 := Lib.hid (Q19.out.below hb)
  have HX20 := Lib.hid ((HX19.out.below hb).more hb.size)
  have HY20 := Lib.hid ((HY19.out.below hb).more hb.size)
  have HZ20 := Lib.hid ((HZ19.out.below hb).more hb.size)
  clear h3 hb Q19 HX19 HY19 HZ19
  go_wp2_with fail
  have hb' := below_new V20 (.cells #[.bool false, .slice none 0 0, .slice none 0 0, .int .i64 0] 69)
  refine (Until_no 1 1 (.slice A20 1 k20) _ (some ⟨q, 0, none⟩) (some ⟨p, 0, none⟩) 1 1 1 1 1 _ (.inr ⟨V20.heap.size, rfl, by simp, by unfold World.cell?; rw [heap_alloc_new]; rfl⟩)).mono ?_
  rintro e V21 ⟨rfl, hb⟩
  have hb := hb'.trans (hb.mono hb'.size)
  have Q21 := Lib.hid (Q20.out.below hb)
  have HX21 := Lib.hid ((HX20.out.below hb).more hb.size)
  have HY21 := Lib.hid ((HY20.out.below hb).more hb.size)
  have HZ21 := Lib.hid ((HZ20.out.below hb).more hb.size)
  clear hb hb' Q20 HX20 HY20 HZ20
  obtain ⟨a1, rfl, -, c1⟩ := HX21.out.at_ (k := 0) (u := .complex .f64 4613937818241073152 0) rfl
  obtain ⟨a2, rfl, -, c2⟩ := HY21.out.at_ (k := 0) (u := .complex .f64 4613937818241073152 0) rfl
  obtain ⟨a3, rfl, -, c3⟩ := HZ21.out.at_ (k := 0) (u := .complex .f64 4611686018427387904 0) rfl
  rw [add_nought] at c1 c2 c3
  have q1 : isNaN FloatKind.f64.format 4613937818241073152 = false := by decide +kernel
  have q2 : isNaN FloatKind.f64.format 0 = false := by decide +kernel
  have q3 : isNaN FloatKind.f64.format 4611686018427387904 = false := by decide +kernel
  rw [show n3.length = 1 from rfl, show n2.length = 1 from rfl]
  go_wp2_with fail
  refine (lives_c _).mono ?_
  rintro e V22 ⟨rfl, hb⟩
  have HB := Lib.hid (Q21.out.bel.trans (hb.mono Q21.out.bel.size))
  clear hb
  go_wp2
  go_ret
  exact ⟨rfl, HB.out⟩
end Go.Proofs.Ytandllekeimpgaa
