/- gridworklaw07.MatrixKnown: the document's examples (a closed statement): it tells true. -/
import Derived.Test.YtdkcdcbbpebgmaaL07C
import Derived.Test.YtdkcdcbbpebgmaaMX19
import Derived.Test.YtdkcdcbbpebgmaaMX13
import Derived.Test.YtdkcdcbbpebgmaaHas
import Derived.Test.YtdkcdcbbpebgmaaFr
namespace Go.Proofs.Ytdkcdcbbpebgmaa
open Go.RowKit Fl Ieee
set_option maxRecDepth 20000
attribute [local go_sem] run_store_float run_store_complex Fl.order_self Fl.order_self' Fl.order_eq Fl.order_ne Fl.order_lt Fl.order_gt
abbrev kn1 : List C := [(f1, 0), (f2, 0)]
abbrev kn2 : List C := [(f1, 0), (0, 0), (9223372036854775808, 0), (f2, 0)]
abbrev kn3 : List C := [(f1, 0), (f1, 0)]
abbrev kn0 : List C := [(0, 0), (0, 0), (0, 0), (0, 0), (0, 0), (0, 0)]
theorem kn_mul : entries 3 (fun i j => dot [] [] 0 3 i j 0) (2 * 3) = kn0 := by decide +kernel
theorem kn_norm : norm1 [] 3 0 = 0 := by decide +kernel
theorem kn_sym : allLike pEqual kn2 (entries 2 (fun i j => ent kn2 2 j i) (2 * 2)) = true := by decide +kernel
theorem chk {r c : Int} {n : Nat} {b : Bool} (h : okM r c n = b) (A : Option Addr) (cap : Nat) (W : World) : Calls Try.prog 46 #[mval r c (.slice A n cap)] W (RetV (.int .i64 (if b then 0 else 4)) W) := h ▸ Check_c r c A n cap W
set_option maxHeartbeats 4000000 in
theorem MatrixKnown_walk (w : World) : Calls Try.prog 6 #[] w fun e w' => e = .returned (.bool true) ∧ Below w.heap.size w w' := by
  have hneg : Op.negFloat .f64 0 = 9223372036854775808 := by kernel_rfl
  have hk1 : okM 2 1 2 = true := by decide
  have hk2 : okM 65 0 0 = false := by decide
  have hk3 : okM (-1) 0 0 = false := by decide
  have hk4 : okM 64 0 0 = true := by decide
  have hk5 : okM 1 1 0 = false := by decide
  have K1 := Lib.hid (chk hk1)
  have K2 := Lib.hid (chk hk2)
  have K3 := Lib.hid (chk hk3)
  have K4 := Lib.hid (chk hk4)
  have K5 := Lib.hid (chk hk5)
  clear hk1 hk2 hk3 hk4 hk5
  go_enter Try.func6, Try.ntmps6
  go_wp2_with fail
  refine (made7_c _ _ _ _ _ _).mono ?_
  rintro e W1 ⟨rfl, h1⟩
  obtain ⟨-, hb1, -⟩ := lit_reads (nums kn1) h1
  have HB1 := Lib.hid hb1
  clear h1 hb1
  go_wp2_with fail
  refine (K1.out _ _ _).mono ?_
  rintro e W2 ⟨rfl, hb2⟩
  have HB2 := Lib.hid (HB1.out.trans (hb2.mono HB1.out.size))
  clear hb2
  go_wp2_with fail
  refine (K2.out _ _ _).mono ?_
  rintro e W3 ⟨rfl, hb3⟩
  have HB3 := Lib.hid (HB2.out.trans (hb3.mono HB2.out.size))
  clear hb3
  go_wp2_with fail
  refine (K3.out _ _ _).mono ?_
  rintro e W4 ⟨rfl, hb4⟩
  have HB4 := Lib.hid (HB3.out.trans (hb4.mono HB3.out.size))
  clear hb4
  go_wp2_with fail
  refine (K4.out _ _ _).mono ?_
  rintro e W5 ⟨rfl, hb5⟩
  have HB5 := Lib.hid (HB4.out.trans (hb5.mono HB4.out.size))
  clear hb5
  go_wp2_with fail
  refine (made7_c _ _ _ _ _ _).mono ?_
  rintro e W6 ⟨rfl, hb6⟩
  have HB6 := Lib.hid (HB5.out.trans (hb6.mono HB5.out.size))
  clear hb6
  go_wp2_with fail
  refine (K5.out _ _ _).mono ?_
  rintro e W7 ⟨rfl, hb7⟩
  have HB7 := Lib.hid (HB6.out.trans (hb7.mono HB6.out.size))
  clear hb7
  clear K1 K2 K3 K4 K5 HB1 HB2 HB3 HB4 HB5 HB6
  -- a change of rows that is refused
  go_wp2_with fail
  refine (made7_c _ _ _ _ _ _).mono ?_
  rintro e W8 ⟨rfl, h8⟩
  obtain ⟨-, hb8, -⟩ := lit_reads (nums kn1) h8
  have HB8 := Lib.hid (HB7.out.trans (hb8.mono HB7.out.size))
  clear h8 hb8
  go_wp2_with fail
  refine (Swap_arg 2 1 _ 2 2 0 2 W8 (by decide) (by simp)).mono ?_
  rintro e W9 ⟨s9, zs9, rfl, hz9, -, hown9, hb9⟩
  obtain ⟨a9, n9, c9, rfl, -⟩ := slice_of_own hown9
  have HB9 := Lib.hid (HB8.out.trans (hb9.mono HB8.out.size))
  clear hz9 hown9 hb9 HB7 HB8
  -- a row that is refused
  go_wp2_with fail
  refine (made7_c _ _ _ _ _ _).mono ?_
  rintro e W10 ⟨rfl, h10⟩
  obtain ⟨-, hb10, -⟩ := lit_reads (nums kn1) h10
  have hq10 := (frame0 hb10).2.1
  have HB10 := Lib.hid (HB9.out.trans (hq10.mono HB9.out.size))
  clear h10 hb10 hq10
  go_wp2_with fail
  refine (Row_arg 2 1 _ 2 2 (-1) W10 (by decide) (Or.inl (by decide))).mono ?_
  rintro e W11 ⟨s11, rfl, hown11, hb11⟩
  have HB11 := Lib.hid (HB10.out.trans (hb11.mono HB10.out.size))
  clear hown11 hb11 HB9 HB10
  -- identities
  go_wp2_with fail
  refine (Identity_bad 65 W11 (Or.inr ⟨by decide, by decide⟩)).mono ?_
  rintro e W12 ⟨s12, zs12, rfl, hz12, -, hown12, hb12⟩
  obtain ⟨a12, n12, c12, rfl, -⟩ := slice_of_own hown12
  have HB12 := Lib.hid (HB11.out.trans (hb12.mono HB11.out.size))
  clear hz12 hown12 hb12 HB11
  go_wp2_with fail
  refine (Identity_c 64 _ (by omega)).mono ?_
  rintro e W13 ⟨s13, zd, rfl, hzd, -, hown13, hb13⟩
  have hq13 := (frame0 hb13).2.1
  have hdl := len_made hzd
  have hel : (entries 64 idE (64 * 64)).length = zd.length := by rw [← hzd, List.length_map]
  rw [hel] at hown13
  obtain ⟨dA, dn, dc, rfl, -⟩ := slice_of_own hown13
  have HZD := Lib.hid hzd
  have HDL := Lib.hid hdl
  have HOD := Lib.hid hown13
  have HB13 := Lib.hid (HB12.out.trans (hq13.mono HB12.out.size))
  clear hzd hdl hown13 hb13 hq13 hel HB12
  have hM : ∀ V, Calls Try.prog 31 #[mval 2 0 (.slice none 0 0), mval 0 3 (.slice none 0 0)] V (RetMxE 2 3 kn0 0 V) := fun V => by
    have h := MMul_c 2 0 3 none none [] [] 0 0 V (by omega) (by omega) (by omega) rfl rfl (fun h => absurd h (by simp)) (fun h => absurd h (by simp))
    rw [kn_mul] at h; exact h
  have HM := Lib.hid hM
  clear hM
  go_wp2_with fail
  refine (HM.out _).mono ?_
  rintro e W14 ⟨s14, zf, rfl, hzf, -, hown14, hb14⟩
  obtain ⟨ed, hD14, hq14⟩ := Has.new HOD.out hb14
  subst ed
  have ez := eq_of_cns hzf (by decide +kernel)
  subst ez
  obtain ⟨fA, fn, fc, rfl, -⟩ := slice_of_own hown14
  have HOF := Lib.hid hown14
  have HD14 := Lib.hid hD14
  have HB14 := Lib.hid (HB13.out.trans (hq14.mono HB13.out.size))
  clear hzf hown14 hb14 hq14 HOD HB13 HM hD14
  have hN : ∀ V, Calls Try.prog 16 #[mval 3 0 (.slice none 0 0)] V (RetFE 0 0 V) := fun V => by
    have h := Norm1_c 3 0 none [] 0 V (by omega) (by omega) rfl (fun h => absurd h (by simp)) (by simp [ltCs])
    rw [kn_norm] at h; exact h
  have HN := Lib.hid hN
  clear hN
  go_wp2_with fail
  refine (HN.out _).mono ?_
  rintro e W15 ⟨rfl, hb15⟩
  obtain ⟨ef, hF15, hq15⟩ := Has.new (zs := kn0) HOF.out hb15
  subst ef
  have hD15 := HD14.out.below hq15
  have HD15 := Lib.hid hD15
  have HF15 := Lib.hid hF15
  have HB15 := Lib.hid (HB14.out.trans (hq15.mono HB14.out.size))
  obtain ⟨⟨g0, g1, g2⟩, -⟩ := hF15
  clear hb15 hq15 HOF HD14 HB14 HN hD15
  -- are the numbers noughts?
  have hS : ∀ (Z : World) (b : Nat), Below W15.heap.size W15 Z → Reads Z Z.heap.size (some ⟨b, 0, none⟩) (nums kn0) → Calls Try.prog 27 #[.slice fA 6 fc, .slice (some ⟨b, 0, none⟩) 6 6] Z (RetB true Z) := fun Z b hZ hr =>
    SameNumbers_t fA (some ⟨b, 0, none⟩) kn0 kn0 6 fc 6 Z rfl rfl rfl (by omega) ((HF15.out.2.2.1.below hZ).more hZ.size) hr
  have HS := Lib.hid hS
  clear hS
  go_wp2_with fail
  refine (HS.out _ _ (below_new W15 _) (reads_lit (xs := nums kn0) rfl)).mono ?_
  rintro e w' ⟨n15, rfl, rfl⟩
  have HB16 := Lib.hid (below_drewN (HB15.out.trans ((below_new W15 (.cells #[.complex .f64 0 0, .complex .f64 0 0, .complex .f64 0 0, .complex .f64 0 0, .complex .f64 0 0, .complex .f64 0 0] 63)).mono HB15.out.size)) n15)
  have HD16 := Lib.hid (Has.below (W' := (W15.alloc (.cells #[.complex .f64 0 0, .complex .f64 0 0, .complex .f64 0 0, .complex .f64 0 0, .complex .f64 0 0, .complex .f64 0 0] 63)).drewN n15) HD15.out (below_drewN (below_new W15 _) n15))
  clear HS
  go_wp2_with fail
  refine (awake7_c _).mono ?_
  rintro e W17 ⟨rfl, hb17⟩
  have hD17 := HD16.out.below hb17
  obtain ⟨z, hz⟩ := some_of_lt (l := zd) (k := 4095) (by rw [HDL.out]; decide)
  have hze : z = (f1, 0) := by
    have h1 := at_made HZD.out (i := 63) (j := 63) (by decide) (by decide)
    unfold ent at h1
    rw [List.getD_eq_getElem?_getD, show 63 * 64 + 63 = 4095 from rfl, hz] at h1
    have h2 : cnC z = (f1, 0) := h1
    exact Prod.ext (eq_of_cn (congrArg Prod.fst h2) (by decide)) (eq_of_cn (congrArg Prod.snd h2) (by decide))
  subst hze
  have hv : (nums zd)[4095]? = some (.complex .f64 f1 0) := by simp [nums, hz]
  obtain ⟨ad, rfl, -, hcell⟩ := hD17.2.2.1.at_ hv
  rw [show ad.add 4095 = { block := ad.block, off := ad.off + 4095 } by simp [Addr.add]] at hcell
  obtain ⟨⟨g3, g4, g5⟩, -⟩ := hD17
  rw [show zd.length = 4096 from HDL.out] at g5
  have HB17 := Lib.hid (HB16.out.trans (hb17.mono HB16.out.size))
  clear hb17 hz hv HB16 HD16 HD15 HF15 HB15 g0 g1 g2
  go_wp2_with fail
  refine (made7_c _ _ _ _ _ _).mono ?_
  rintro e W18 ⟨rfl, h18⟩
  obtain ⟨rd18, hb18, -⟩ := lit_reads (nums kn2) h18
  have hsy : Calls Try.prog 48 #[mval 2 2 (.slice (some ⟨W17.heap.size, 0, none⟩) 4 4)] W18 (RetBB true W18) := by
    have h := Symmetric_sq 2 (some ⟨W17.heap.size, 0, none⟩) kn2 4 W18 (by omega) rfl rd18 (ltCs_of (by decide +kernel))
    rw [kn_sym] at h; exact h
  have HSY := Lib.hid hsy
  have HB18 := Lib.hid (HB17.out.trans (hb18.mono HB17.out.size))
  clear h18 rd18 hb18 hsy HB17
  go_wp2_with fail
  refine HSY.out.mono ?_
  rintro e W19 ⟨rfl, hb19⟩
  have HB19 := Lib.hid (HB18.out.trans (hb19.mono HB18.out.size))
  clear hb19 HSY HB18
  go_wp2_with fail
  refine (made7_c _ _ _ _ _ _).mono ?_
  rintro e W20 ⟨rfl, h20⟩
  obtain ⟨rd20, hb20, -⟩ := lit_reads (nums kn3) h20
  have hsy : Calls Try.prog 48 #[mval 2 1 (.slice (some ⟨W19.heap.size, 0, none⟩) 2 2)] W20 (RetBB false W20) :=
    Symmetric_ns 2 1 (some ⟨W19.heap.size, 0, none⟩) kn3 2 W20 (by omega) (by omega) (by omega) rfl rd20 (ltCs_of (by decide +kernel))
  have HSY := Lib.hid hsy
  have HB20 := Lib.hid (HB19.out.trans (hb20.mono HB19.out.size))
  clear h20 rd20 hb20 hsy HB19
  go_wp2_with fail
  refine HSY.out.mono ?_
  rintro e W21 ⟨rfl, hb21⟩
  have HB21 := Lib.hid (HB20.out.trans (hb21.mono HB20.out.size))
  clear hb21 HSY HB20
  go_wp2
  go_ret
  exact ⟨ret_bool (by decide +kernel), HB21.out⟩
/-! ### The row's step -/
namespace matrixKnown_frame
open Go.ChangeShapes Go.WideShapes Go.ChangeAt Go.RowKit
theorem own : ownKnob Try.prog.godebug = none := by kernel_rfl
set_option maxRecDepth 100000 in
theorem lifted (os : Os) (started : os.Started) (H : Type) (enc : TypeId × Value → H) :
    ReturnsInHanded {} Try.checked os 6 .any (Rows.matrixKnownSpec.pre6 enc Try.prog Try.f6 Rows.matrixKnownRow.domain false) (Rows.matrixKnownSpec.post enc Try.prog Try.f6 false true false false) := by
  refine returnsInHanded_of_change (C := Try.checked) own started (by kernel_rfl) Try.func6
    (ChangeSpec.witness6 (enc := enc) (C := Try.checked) false ⟨#[], #[], []⟩ 8 (by kernel_rfl) (by kernel_rfl) (by kernel_rfl) (by kernel_rfl)) ?_
  intro W base args ds gs before hval0 hW hcnd _
  have hW' := hW
  obtain ⟨p, q, hA0, hV, rfl, hfz, hnd⟩ := hW
  have hA : DataW.TrodAll enc Try.prog W 0 (fun _ => true) true Try.f6.params.toList args.toList ds p := hA0
  rw [Try.params6] at hA
  obtain ⟨hargs, rfl, rfl⟩ := trodAll_nil hA
  obtain rfl : args = #[] := by cases args; simp_all
  obtain ⟨rfl, rfl⟩ := trodVars_none hV
  clear hA0
  simp only [List.append_nil] at hW'
  refine (MatrixKnown_walk  W).mono fun e W' ⟨he, hg⟩ => ?_
  subst he
  exact ⟨_, rfl, post_of_below (pa := []) (pv := []) hW' (fun _ _ _ => (trodAll_cons_mk (shut_bool Try.underlying4 _) trodAll_mk0)) (fun sp _ => trodAll_mk0) (fun _ _ => rfl) rfl
    hg (ok_one (by kernel_rfl) rfl (okWide_bool_mk Try.underlying4 _))⟩
theorem over : Rows.matrixKnownRow.holds Try.pinned (OpenSpec.ofChange Rows.matrixKnownSpec) :=
  OpenClaim.holds_of_wide 6 Try.f6 rfl rfl rfl rfl rfl rfl rfl ⟨rfl, rfl, rfl, rfl, rfl⟩ rfl rfl rfl rfl rfl (by kernel_rfl) Try.func6 (by kernel_rfl)
    (of_decide_eq_true (by kernel_rfl)) (by unfold Func.isWrapper; first | (rw [if_pos (by decide +kernel)]; kernel_rfl) | (rw [if_neg (by decide +kernel)]; exact ⟨rfl, rfl⟩))
    (fun os started H enc _ => lifted os started H enc)
end matrixKnown_frame

/-- THE STATEMENT. -/
theorem matrixKnown_holds : Rows.MatrixKnownSaid := matrixKnown_frame.over
#print axioms matrixKnown_holds
end Go.Proofs.Ytdkcdcbbpebgmaa
