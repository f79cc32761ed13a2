/- PartsSizes: sizes do not know signs, nor which part is which; of a finite number Abs lies from its greater part's size up to Size1; the root's re is not below 0. No condition. -/
import Derived.Test.YtpibokkcmhfdbaaL02a
import Derived.Test.YtpibokkcmhfdbaaFlSz
import Derived.Test.YtpibokkcmhfdbaaMem
namespace Go.Proofs.Ytpibokkcmhfdbaa
open Go.RowKit Fl Ieee
set_option maxRecDepth 20000
attribute [local go_sem] Fl.order_self Fl.order_self' Fl.order_eq Fl.order_ne Fl.order_lt Fl.order_gt Fl.fle_fold Fl.fge_fold
theorem order_of_flt2 {x y : Nat} (h : flt .f64 x y = true) : FloatKind.f64.format.order x y = some .lt := by
  unfold flt at h; simpa using h
theorem order_of_gt2 {x y : Nat} (h : flt .f64 y x = true) : FloatKind.f64.format.order x y = some .gt := by
  have := order_gt .f64 x y
  rw [h] at this; simpa using this
/-- The greater of two sizes. -/
theorem run_max_rungs {P : Program} {x y : Nat} (hx : x ≤ double.infRung) (hy : y ≤ double.infRung) (ts : Array TypeId) (t : TypeId) (W : World) :
    (Builtin.max_ ts t #[.float .f64 x, .float .f64 y]).run P W = .ok (.float .f64 (max x y)) W := by
  rcases Nat.lt_trichotomy x y with h | h | h
  · have h1 := order_of_flt2 ((flt_rungs hx hy).trans (decide_eq_true h))
    simp [Builtin.max_, Builtin.max2, h1]; omega
  · subst h
    have h1 : FloatKind.f64.format.order x x = some .eq := by
      have h2 := order_self .f64 x
      have h3 : isNaN FloatKind.f64.format x = false := by
        show isNaN double x = false
        unfold isNaN; rw [(sgn_rung' hx).2]; exact decide_eq_false (by omega)
      rw [h3] at h2; simpa using h2
    simp [Builtin.max_, Builtin.max2, h1]
  · have h1 := order_of_gt2 ((flt_rungs hy hx).trans (decide_eq_true h))
    simp [Builtin.max_, Builtin.max2, h1]; omega
/-- What the tape says where one of both is NaN. -/
def cutMax (x y : Nat) (W : World) : Nat := (Question.nanMinMax .f64 true x y).cut (W.tape W.drawn (.nanMinMax .f64 true x y))
theorem run_max_nan {P : Program} {x y : Nat} (h : (isNaN double x || isNaN double y) = true) (ts : Array TypeId) (t : TypeId) (W : World) :
    (Builtin.max_ ts t #[.float .f64 x, .float .f64 y]).run P W = .ok (.float .f64 (cutMax x y W)) W.drew := by
  have h1 : FloatKind.f64.format.order x y = none := by
    rcases (Bool.or_eq_true _ _).mp h with h | h
    · exact order_nan_l h
    · exact order_nan_r h
  simp [Builtin.max_, Builtin.max2, h1, choose, Sem.run, Question.forced, cutMax]
def SizesR (W0 : World) (i : Value) (wr : World) : Prop := ∃ k m : Nat, k ≤ 3 ∧ i = .int .i64 (k : Nat) ∧ wr = W0.drewN m
/-- What the loop asks, at a number that has the same sizes. -/
theorem abs_is {p q : Nat} {v : Nat} (hp : p < 18446744073709551616) (hq : q < 18446744073709551616) (h : pAbs (cn .f64 p, cn .f64 q) = v) (W : World) :
    Calls Try.prog 14 #[.complex .f64 p q] W (RetR v W) := h ▸ Abs_c p q hp hq W
theorem size1_is {p q : Nat} {v : Nat} (hp : p < 18446744073709551616) (hq : q < 18446744073709551616) (h : pSize1 (cn .f64 p, cn .f64 q) = v) (W : World) :
    Calls Try.prog 15 #[.complex .f64 p q] W (RetR v W) := h ▸ Size1_c p q hp hq W
set_option maxHeartbeats 4000000 in
theorem PartsSizes_walk (p : Nat) (hp : p < 18446744073709551616) (q : Nat) (hq : q < 18446744073709551616) (w : World) :
    Calls Try.prog 3 #[.agg #[.int .u64 p, .int .u64 q]] w fun e w' => e = .returned (.bool true) ∧ Grown w w' := by
  have l : ltC (cn .f64 p, cn .f64 q) := ⟨cn_lt (k := .f64) hp, cn_lt (k := .f64) hq⟩
  have fp := flip_lt64 hp
  have fq := flip_lt64 hq
  obtain ⟨v, hv⟩ : ∃ v, v = pAbs (cn .f64 p, cn .f64 q) := ⟨_, rfl⟩
  obtain ⟨u, hu⟩ : ∃ u, u = pSize1 (cn .f64 p, cn .f64 q) := ⟨_, rfl⟩
  have A0 := Lib.hid (abs_is hp hq hv.symm)
  have e1 : pAbs (cn .f64 (flip double p), cn .f64 (flip double q)) = v := by rw [cn_flip hp, cn_flip hq, hv]; exact abs_neg (a := (cn .f64 p, cn .f64 q)) l
  have A1 := Lib.hid (abs_is fp fq e1)
  have e2 : pAbs (cn .f64 p, cn .f64 (flip double q)) = v := by rw [cn_flip hq, hv]; exact abs_conj (a := (cn .f64 p, cn .f64 q)) l
  have A2 := Lib.hid (abs_is hp fq e2)
  have A3 := Lib.hid (abs_is hq hp ((abs_swap (cn .f64 p) (cn .f64 q)).trans hv.symm))
  have B0 := Lib.hid (size1_is hp hq hu.symm)
  have e3 : pSize1 (cn .f64 (flip double p), cn .f64 (flip double q)) = u := by rw [cn_flip hp, cn_flip hq, hu]; exact size1_neg (a := (cn .f64 p, cn .f64 q)) l
  have B1 := Lib.hid (size1_is fp fq e3)
  have e4 : pSize1 (cn .f64 p, cn .f64 (flip double q)) = u := by rw [cn_flip hq, hu]; exact size1_conj (a := (cn .f64 p, cn .f64 q)) l
  have B2 := Lib.hid (size1_is hp fq e4)
  have B3 := Lib.hid (size1_is hq hp ((size1_swap (cn .f64 p) (cn .f64 q)).trans hu.symm))
  have SQ := Lib.hid (Sqrt_c p q hp hq)
  have FI := Lib.hid (Finite_c p q hp hq)
  have MA := Lib.hid (mAbs_c p hp)
  have MB := Lib.hid (mAbs_c q hq)
  have NE := Lib.hid (Neg_c p q hp hq)
  have CO := Lib.hid (Conj_c p q hq)
  have HV := Lib.hid hv
  have HU := Lib.hid hu
  have HP := Lib.hid hp
  have HQ := Lib.hid hq
  clear hv hu hp hq fp fq l e1 e2 e3 e4
  go_enter Try.func3, Try.ntmps3
  go_wp2_with fail
  refine (Number_c _ _ _).mono ?_
  rintro e w' ⟨n0, rfl, rfl⟩
  go_wp2_with fail
  refine (NE.out _).mono ?_
  rintro e w' ⟨rfl, rfl⟩
  go_wp2_with fail
  refine (CO.out _).mono ?_
  rintro e w' ⟨rfl, rfl⟩
  go_wp2_with fail
  obtain ⟨W0, hW0⟩ : ∃ W0, W0 = ((((w.alloc (.cells #[.int .u64 (p : Nat), .int .u64 (q : Nat)] 24)).alloc (.cells #[.int .u64 (p : Nat), .int .u64 (q : Nat)] 24)).drewN n0).alloc (.cells #[.complex .f64 (flip double p) (flip double q), .complex .f64 p (flip double q), .complex .f64 q p] 25)) := ⟨_, rfl⟩
  have hg : Grown w W0 := by rw [hW0]; exact (grown_dn (((Grown.refl w).alloc _ _).alloc _ _) _).alloc _ _
  have hb : w.heap.size + 1 + 1 = (((w.alloc (.cells #[.int .u64 (p : Nat), .int .u64 (q : Nat)] 24)).alloc (.cells #[.int .u64 (p : Nat), .int .u64 (q : Nat)] 24)).drewN n0).heap.size := by rw [size_drewN]; simp
  have hc0 : W0.cell? { block := w.heap.size + 1 + 1, off := 0 } = some (.complex .f64 (flip double p) (flip double q)) := by rw [hW0, hb, World.cell?_alloc_new]; rfl
  have hc1 : W0.cell? { block := w.heap.size + 1 + 1, off := 1 } = some (.complex .f64 p (flip double q)) := by rw [hW0, hb, World.cell?_alloc_new]; rfl
  have hc2 : W0.cell? { block := w.heap.size + 1 + 1, off := 2 } = some (.complex .f64 q p) := by rw [hW0, hb, World.cell?_alloc_new]; rfl
  have HG := Lib.hid hg
  have HW := Lib.hid hW0
  clear hg hW0 hb
  go_loopw [5] (fun i wr => SizesR W0 i wr) (fun i _ => 3 - (intOf i).toNat)
  case atStart => exact ⟨0, 0, by omega, rfl, HW.out.symm⟩
  case round =>
    obtain ⟨k, m, hk, rfl, rfl⟩ := hrel
    obtain rfl | rfl | rfl | rfl : k = 0 ∨ k = 1 ∨ k = 2 ∨ k = 3 := by omega
    · clear SQ FI MA MB NE CO
      go_wp2_with fail
      refine (A1.out _).mono ?_
      rintro e w' ⟨x1, n1, rfl, g1, -, rfl⟩
      have G1 := Lib.hid g1
      clear g1
      go_wp2_with fail
      refine (A0.out _).mono ?_
      rintro e w' ⟨x2, n2, rfl, g2, -, rfl⟩
      have G2 := Lib.hid g2
      clear g2
      go_wp2_with fail
      refine (sameReal_t G1 G2 _).mono ?_
      rintro e w' ⟨rfl, rfl⟩
      go_wp2_with fail
      refine (B1.out _).mono ?_
      rintro e w' ⟨x3, n3, rfl, g3, -, rfl⟩
      have G3 := Lib.hid g3
      clear g3
      go_wp2_with fail
      refine (B0.out _).mono ?_
      rintro e w' ⟨x4, n4, rfl, g4, -, rfl⟩
      have G4 := Lib.hid g4
      clear g4
      go_wp2_with fail
      refine (sameReal_t G3 G4 _).mono ?_
      rintro e w' ⟨rfl, rfl⟩
      go_wp2
      go_roundw
      case rel => exact ⟨1, _, by omega, rfl, rfl⟩
      case measure => simp [intOf]
    · clear SQ FI MA MB NE CO
      go_wp2_with fail
      refine (A2.out _).mono ?_
      rintro e w' ⟨x1, n1, rfl, g1, -, rfl⟩
      have G1 := Lib.hid g1
      clear g1
      go_wp2_with fail
      refine (A0.out _).mono ?_
      rintro e w' ⟨x2, n2, rfl, g2, -, rfl⟩
      have G2 := Lib.hid g2
      clear g2
      go_wp2_with fail
      refine (sameReal_t G1 G2 _).mono ?_
      rintro e w' ⟨rfl, rfl⟩
      go_wp2_with fail
      refine (B2.out _).mono ?_
      rintro e w' ⟨x3, n3, rfl, g3, -, rfl⟩
      have G3 := Lib.hid g3
      clear g3
      go_wp2_with fail
      refine (B0.out _).mono ?_
      rintro e w' ⟨x4, n4, rfl, g4, -, rfl⟩
      have G4 := Lib.hid g4
      clear g4
      go_wp2_with fail
      refine (sameReal_t G3 G4 _).mono ?_
      rintro e w' ⟨rfl, rfl⟩
      go_wp2
      go_roundw
      case rel => exact ⟨2, _, by omega, rfl, rfl⟩
      case measure => simp [intOf]
    · clear SQ FI MA MB NE CO
      go_wp2_with fail
      refine (A3.out _).mono ?_
      rintro e w' ⟨x1, n1, rfl, g1, -, rfl⟩
      have G1 := Lib.hid g1
      clear g1
      go_wp2_with fail
      refine (A0.out _).mono ?_
      rintro e w' ⟨x2, n2, rfl, g2, -, rfl⟩
      have G2 := Lib.hid g2
      clear g2
      go_wp2_with fail
      refine (sameReal_t G1 G2 _).mono ?_
      rintro e w' ⟨rfl, rfl⟩
      go_wp2_with fail
      refine (B3.out _).mono ?_
      rintro e w' ⟨x3, n3, rfl, g3, -, rfl⟩
      have G3 := Lib.hid g3
      clear g3
      go_wp2_with fail
      refine (B0.out _).mono ?_
      rintro e w' ⟨x4, n4, rfl, g4, -, rfl⟩
      have G4 := Lib.hid g4
      clear g4
      go_wp2_with fail
      refine (sameReal_t G3 G4 _).mono ?_
      rintro e w' ⟨rfl, rfl⟩
      go_wp2
      go_roundw
      case rel => exact ⟨3, _, by omega, rfl, rfl⟩
      case measure => simp [intOf]
    · clear A1 A2 A3 B1 B2 B3 hc0 hc1 hc2 NE CO
      go_wp2_with fail
      refine (SQ.out _).mono ?_
      rintro e w' ⟨x5, y5, n5, rfl, g5, -, -, rfl⟩
      have hs : flt .f64 x5 0 = false := by
        have h1 : cn .f64 x5 = (pSqrt (cn .f64 p, cn .f64 q)).1 := congrArg Prod.fst g5
        have h2 := sqrt_nonneg (cn .f64 p, cn .f64 q)
        rw [← h1] at h2
        have h3 := flt_cn .f64 x5 0
        have h4 : cn .f64 0 = 0 := by decide
        rw [h4] at h3
        exact h3.symm.trans h2
      clear g5
      go_wp2_with fail
      refine (lives_c _).mono ?_
      rintro e w' ⟨n6, rfl, rfl⟩
      go_wp2_with fail
      refine (MA.out _).mono ?_
      rintro e w' ⟨rfl, rfl⟩
      go_wp2_with fail
      refine (MB.out _).mono ?_
      rintro e w' ⟨rfl, rfl⟩
      clear hs
      cases hnan : (isNaN double p || isNaN double q)
      · have ha := (Bool.or_eq_false_iff.1 hnan)
        have r1 : rung double p ≤ double.infRung := by have := ha.1; unfold isNaN at this; simp at this; exact this
        have r2 : rung double q ≤ double.infRung := by have := ha.2; unfold isNaN at this; simp at this; exact this
        have hmax := fun ts t W => run_max_rungs (P := Try.prog) r1 r2 ts t W
        go_wp2_with fail
        refine (FI.out _).mono ?_
        rintro e w' ⟨n7, rfl, rfl⟩
        cases hfin : pFinite (cn .f64 p, cn .f64 q)
        · go_wp2
          go_ret
          exact ⟨rfl, grown_dn HG.out _⟩
        · have hf2 : isFin double p = true ∧ isFin double q = true := by
            have h1 : (isFin double (cn .f64 p) && isFin double (cn .f64 q)) = true := hfin
            have h2 := (Bool.and_eq_true _ _).mp h1
            have e1 := isFin_cn .f64 p
            have e2 := isFin_cn .f64 q
            exact ⟨e1.symm.trans h2.1, e2.symm.trans h2.2⟩
          have np : cn .f64 p = p := cn_of_not (k := .f64) ha.1
          have nq : cn .f64 q = q := cn_of_not (k := .f64) ha.2
          have hbt := abs_between hf2.1 hf2.2 (max (rung double p) (rung double q)) rfl
          have HB := Lib.hid hbt
          have NP := Lib.hid np
          have NQ := Lib.hid nq
          clear hbt np nq hf2 r1 r2 ha hmax
          go_wp2_with fail
          refine (A0.out _).mono ?_
          rintro e w' ⟨x7, n7, rfl, g7, -, rfl⟩
          have t1 : fle .f64 (max (rung double p) (rung double q)) x7 = true := by
            rw [← fle_cn, g7, HV.out, NP.out, NQ.out]
            have h1 := HB.out.1
            rw [← fle_cn] at h1
            have h2 : cn .f64 (pAbs (p, q)) = pAbs (p, q) := by
              have := HV.out
              rw [NP.out, NQ.out] at this
              rw [← this, ← g7, cn_cn]
            rw [h2] at h1; exact h1
          have G7 := Lib.hid g7
          clear g7
          go_wp2_with fail
          refine (A0.out _).mono ?_
          rintro e w' ⟨x8, n8, rfl, g8, -, rfl⟩
          have G8 := Lib.hid g8
          clear g8
          go_wp2_with fail
          refine (B0.out _).mono ?_
          rintro e w' ⟨x9, n9, rfl, g9, -, rfl⟩
          have t2 : fle .f64 x8 x9 = true := by
            rw [← fle_cn, G8.out, g9, HV.out, HU.out, NP.out, NQ.out]
            exact HB.out.2
          clear g9
          go_wp2
          go_ret
          exact ⟨rfl, grown_dn HG.out _⟩
      · have hmax := fun ts t W => run_max_nan (P := Try.prog) (x := rung double p) (y := rung double q) (by rw [isNaN_rung, isNaN_rung]; exact hnan) ts t W
        have hfin : pFinite (cn .f64 p, cn .f64 q) = false := by
          unfold pFinite
          have e1 := isFin_cn .f64 p
          have e2 := isFin_cn .f64 q
          have e3 : isFin double (cn .f64 p) = isFin double p := e1
          have e4 : isFin double (cn .f64 q) = isFin double q := e2
          show (isFin double (cn .f64 p) && isFin double (cn .f64 q)) = false
          rw [e3, e4]
          rcases (Bool.or_eq_true _ _).mp hnan with h | h
          · have : isFin double p = false := by unfold isNaN at h; unfold isFin; simp at h ⊢; omega
            rw [this]; rfl
          · have : isFin double q = false := by unfold isNaN at h; unfold isFin; simp at h ⊢; omega
            rw [this]; simp
        have F2 := FI.out
        rw [hfin] at F2
        have F3 := Lib.hid F2
        clear F2 hnan FI
        go_wp2_with fail
        refine (F3.out _).mono ?_
        rintro e w' ⟨n7, rfl, rfl⟩
        go_wp2
        go_ret
        exact ⟨rfl, by first | exact grown_dn HG.out _ | exact grown_dn (Grown.drew (grown_dn HG.out _)) _⟩
/-! ### The row's step -/
namespace partsSizes_frame
open Go.ChangeShapes Go.WideShapes Go.ChangeAt Go.RowKit
theorem own : ownKnob Try.prog.godebug = none := by kernel_rfl
theorem cellsZ : Try.prog.cellsOf 24 = 2 := by kernel_rfl
set_option maxRecDepth 100000 in
theorem lifted (os : Os) (started : os.Started) (H : Type) (enc : TypeId × Value → H) :
    ReturnsInHanded {} Try.checked os 3 .any (Rows.partsSizesSpec.pre6 enc Try.prog Try.f3 Rows.partsSizesRow.domain false) (Rows.partsSizesSpec.post enc Try.prog Try.f3 false true false false) := by
  refine returnsInHanded_of_change (C := Try.checked) own started (by kernel_rfl) Try.func3
    (ChangeSpec.witness6 (enc := enc) (C := Try.checked) false ⟨#[], #[.agg #[.int .u64 0, .int .u64 0]], []⟩ 8 (by kernel_rfl) (by kernel_rfl) (by kernel_rfl) (by kernel_rfl)) ?_
  intro W base args ds gs before hval0 hW hcnd _
  have hval : ∀ (j : Nat) t v, Try.f3.params[j]? = some t → args[j]? = some v → Value.okWide Try.prog W .any base t v := hval0
  have hW' := hW
  obtain ⟨p, q, hA0, hV, rfl, hfz, hnd⟩ := hW
  have hA : DataW.TrodAll enc Try.prog W 0 (fun _ => true) true Try.f3.params.toList args.toList ds p := hA0
  rw [Try.params3] at hA hval
  obtain ⟨v0, vs0, d0, ds0, p0, q0, hargs, rfl, rfl, h0, r0⟩ := trodAll_cons hA
  obtain ⟨rfl, rfl, rfl⟩ := trodAll_nil r0
  obtain rfl : args = #[v0] := by cases args; simp_all
  obtain ⟨rfl, rfl⟩ := trodVars_none hV
  obtain ⟨c0, d0', y0, z0, m0, rfl, rfl, rfl, hy0, hz0⟩ := Joins.open_agg2 Try.underlying24 (by kernel_rfl) cellsZ (hval 0 24 v0 rfl rfl) h0
  obtain ⟨a0, e0, rfl, w0⟩ := DataW.trod_int Try.underlying22 hy0
  obtain ⟨a0', e0', rfl, w0'⟩ := DataW.trod_int Try.underlying22 hz0
  simp at e0 e0'; subst e0 e0'
  obtain ⟨n0, rfl, b0⟩ := wf_nat_u64 w0
  obtain ⟨n0', rfl, b0'⟩ := wf_nat_u64 w0'
  clear hA0 hval0
  simp only [List.append_nil] at hW'
  refine (PartsSizes_walk n0 b0 n0' b0' W).mono fun e W' ⟨he, hg⟩ => ?_
  subst he
  exact ⟨_, rfl, post_of_same (pa := []) (pv := []) hW' (fun _ _ _ => (trodAll_cons_mk (shut_bool Try.underlying4 _) trodAll_mk0)) (fun sp _ => (trodAll_cons_mk ((Joins.shut_agg2 (y0 := (.lit (.int .u64 n0), [])) (y1 := (.lit (.int .u64 n0'), [])) Try.underlying24 (by kernel_rfl) cellsZ ⟨1, by simp [DataW.trod, Try.underlying22, w0]⟩ ⟨1, by simp [DataW.trod, Try.underlying22, w0']⟩)) trodAll_mk0)) (fun _ _ => rfl) rfl
    (hg.frame _) hg.2.1 (ok_one (by kernel_rfl) rfl (okWide_bool_mk Try.underlying4 _))⟩
theorem over : Rows.partsSizesRow.holds Try.pinned (OpenSpec.ofChange Rows.partsSizesSpec) :=
  OpenClaim.holds_of_wide 3 Try.f3 rfl rfl rfl rfl rfl rfl rfl ⟨rfl, rfl, rfl, rfl, rfl⟩ rfl rfl rfl rfl rfl (by kernel_rfl) Try.func3 (by kernel_rfl)
    (of_decide_eq_true (by kernel_rfl)) (by unfold Func.isWrapper; first | (rw [if_pos (by decide +kernel)]; kernel_rfl) | (rw [if_neg (by decide +kernel)]; exact ⟨rfl, rfl⟩))
    (fun os started H enc _ => lifted os started H enc)
end partsSizes_frame

/-- THE STATEMENT. -/
theorem partsSizes_holds : Rows.PartsSizesSaid := partsSizes_frame.over
#print axioms partsSizes_holds
