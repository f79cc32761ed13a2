/- Layer 31: what one number loses; the examples. -/
import Derived.Test.YtpfjidijecgjcaaAdJ
import Derived.Deep.DeepCutAuto
namespace Go.Proofs.Ytpfjidijecgjcaa
open Go.RowKit Fl Ieee
set_option maxRecDepth 20000
attribute [local go_sem] run_store_float run_store_complex
def RetN31 (v : Value) (w : World) (e : Ending) (w' : World) : Prop := e = .returned v ∧ ∃ n, w' = w.drewN n
theorem cn_known31 {x c : Nat} (h : cn .f64 x = c) (hc : isNaN double c = false) : x = c := by
  by_cases hn : isNaN double x = true
  · have h2 := cn_of_nan (k := .f64) hn
    rw [h2] at h
    rw [← h] at hc
    exact absurd (isNaN_qn .f64) (by rw [show isNaN FloatKind.f64.format (qn .f64) = false from hc]; decide)
  · rw [cn_of_not (k := .f64) (Bool.eq_false_iff.2 hn)] at h
    exact h
/-- 0.1: what is lost of it. -/
theorem NLost_k (w : World) : Calls Try.prog 59 #[.complex .f64 4591870180066957722 0] w (RetN31 (.tuple #[.complex .f64 13698148626583257088 0, .int .i64 0]) w) := by
  have H1 := Lib.hid (fun W => Finite_c 4591870180066957722 0 (by decide) (by decide) W)
  have H2 := Lib.hid (fun W => ToX_c (a := 4591870180066957722) (b := 0) (r := 1036831949) (s := 0) (by decide +kernel) (by decide +kernel) W)
  have H3 := Lib.hid (fun W => BackF_c (a := 1036831949) (b := 0) (by unfold fin; decide +kernel) (by unfold fin; decide +kernel) W)
  rw [show fwide 1036831949 = 4591870180174331904 from by decide +kernel, show fwide 0 = 0 from by decide +kernel] at H3
  have H4 := Lib.hid (fun W => Finite_c 4591870180174331904 0 (by decide) (by decide) W)
  have H5 := Lib.hid (fun W => Sub_c 4591870180066957722 0 4591870180174331904 0 W)
  have k1 : pFinite (cn .f64 4591870180066957722, cn .f64 0) = true := by decide +kernel
  have k2 : pFinite (cn .f64 4591870180174331904, cn .f64 0) = true := by decide +kernel
  have k3 : pSub (cn .f64 4591870180066957722, cn .f64 0) (cn .f64 4591870180174331904, cn .f64 0) = (13698148626583257088, 0) := by decide +kernel
  rw [k1] at H1
  rw [k2] at H4
  rw [k3] at H5
  clear k1 k2 k3
  go_enter Try.func59, Try.ntmps59
  go_wp2_with fail
  refine (H1.out _).mono ?_
  rintro e w' ⟨n1, rfl, rfl⟩
  go_wp2_with fail
  refine (H2.out _).mono ?_
  rintro e w' ⟨rfl, rfl⟩
  go_wp2_with fail
  refine (H3.out _).mono ?_
  rintro e w' ⟨rfl, rfl⟩
  go_wp2_with fail
  refine (H4.out _).mono ?_
  rintro e w' ⟨n2, rfl, rfl⟩
  go_wp2_with fail
  refine (H5.out _).mono ?_
  rintro e w' ⟨x, y, n3, rfl, hx, hlx, hly, rfl⟩
  have HX := Lib.hid hx
  clear hx hlx hly
  go_wp2
  go_ret2
  have h := HX.out
  rw [cn_known31 (congrArg Prod.fst h) (by decide +kernel), cn_known31 (congrArg Prod.snd h) (by decide +kernel)]
  exact ⟨rfl, _, rfl⟩
theorem NAbs_k (w : World) : Calls Try.prog 60 #[.complex .f64 13698148626583257088 0] w (RetN31 (.float .f64 4474776589728481280) w) := by
  refine (Abs_c 13698148626583257088 0 (by decide) (by decide) w).mono ?_
  rintro e w' ⟨x, n, rfl, hx, -, rfl⟩
  rw [cn_known31 (hx.trans (show pAbs (cn .f64 13698148626583257088, cn .f64 0) = 4474776589728481280 by decide +kernel)) (by decide +kernel)]
  exact ⟨rfl, n, rfl⟩
theorem infoReal31 : (Try.prog.info? 36).map (fun i => (i.zero, i.size, i.bytes)) = some (some (.float .f64 0), 1, 8) := by kernel_rfl
def RetLo (w : World) (e : Ending) (w' : World) : Prop := e = .returned (.tuple #[.float .f64 4474776589728481280, .int .i64 0]) ∧ Below w.heap.size w w'
set_option maxHeartbeats 4000000 in
theorem Lost_k (A : Option Addr) (c : Nat) (w : World) (h : Reads w w.heap.size A (nums [k01])) (hA : A = none → c = 0) : Calls Try.prog 24 #[.agg #[.float .f64 4607182418800017408, .slice A 1 c, .slice none 0 0]] w (RetLo w) := by
  obtain ⟨i0, hi0, hz0, hz1, hz2⟩ := info_parts infoReal31
  have HR := Lib.hid h
  have HA0 := Lib.hid hA
  clear h hA
  go_enter Try.func24, Try.ntmps24
  go_wp2_with fail
  obtain ⟨V, hV⟩ : ∃ V, V = w.alloc (.cells #[.float .f64 4607182418800017408, .slice A 1 c, .slice none 0 0] 39) := ⟨_, rfl⟩
  have hs : V.heap.size = w.heap.size + 1 := by rw [hV]; simp
  have hbV : Below w.heap.size w V := by rw [hV]; exact below_new _ _
  have hx : V.heap[w.heap.size]? = some (.cells #[.float .f64 4607182418800017408, .slice A 1 c, .slice none 0 0] 39) := by rw [hV, heap_alloc_new]
  rw [← hV, ← hs]
  clear hV
  refine (wrong_c [one01] _ _ (one_at ((HR.out.below hbV).more hbV.size) HA0.out |>.more (by simp)) (by simp) (fun s hs => by simp at hs; subst hs; decide) (fun s hs z hz => by simp at hs; subst hs; simp [one01] at hz; subst hz; exact nar01) (fun s hs => by simp at hs; subst hs; simp [one01])).mono ?_
  rw [wrong01]
  rintro e W1 ⟨rfl, hb1⟩
  have hbN := (below_new V (.cells #[.float .f64 4607182418800017408, .slice A 1 c, .slice none 0 0] 39))
  have hb2 : Below V.heap.size V W1 := hbN.trans (hb1.mono hbN.size)
  have hrow := row_keep hb2 hx
  have q0 : W1.cell? ⟨w.heap.size, 0, none⟩ = some (.float .f64 4607182418800017408) := by rw [cell_of_row _ _ 0 _ _ _ hrow]; rfl
  have q1 : W1.cell? ⟨w.heap.size, 1, none⟩ = some (.slice A 1 c) := by rw [cell_of_row _ _ 1 _ _ _ hrow]; rfl
  have q2 : W1.cell? ⟨w.heap.size, 2, none⟩ = some (.slice none 0 0) := by rw [cell_of_row _ _ 2 _ _ _ hrow]; rfl
  have HB := Lib.hid (hbV.trans (hb2.mono hbV.size))
  have hRW := HR.out.below (hbV.trans (hb2.mono hbV.size))
  have HNm := Lib.hid (numbers_c 4607182418800017408 A none [k01] [] c 0 W1 (hRW.more HB.out.size) (fun hn => absurd hn (by simp [nums])) HA0.out (fun _ => rfl) (by simp) (by simp))
  clear hs hbV hx hb1 hbN hb2 hrow hRW
  go_wp2_with fail
  refine HNm.out.mono ?_
  rintro e W2 ⟨v, rfl, ho, hb3⟩
  obtain ⟨sA, sc, rfl, hrs, hns, hcs⟩ := own_reads ho
  have HRs := Lib.hid hrs
  have HB2 := Lib.hid (HB.out.trans (hb3.mono HB.out.size))
  clear hrs hns hcs ho hb3 q0 q1 q2 HNm
  have HL := Lib.hid NLost_k
  have HAb := Lib.hid NAbs_k
  obtain ⟨sl, hsl⟩ : ∃ sl, sl = ([k01] ++ [] : List C).length := ⟨_, rfl⟩
  rw [← hsl]
  have hsl1 : sl = 1 := by rw [hsl]; rfl
  subst hsl1
  clear hsl
  go_wp2
  go_loopw [5, 21] (fun sv iv wr => ∃ i : Nat, i ≤ 1 ∧ iv = .int .i64 (i : Nat) ∧ Hid (wr.ownsRow W2.heap.size 36 1 sv i (reals (([4474776589728481280] : List Nat).take i))) ∧ Hid (Below W2.heap.size W2 wr)) (fun _ iv _ => 1 - (intOf iv).toNat)
  case atStart => exact ⟨0, Nat.zero_le _, rfl, Lib.hid (World.ownsRow_nil _ _ _ _), Lib.hid (Below.refl _ _)⟩
  case round =>
    obtain ⟨i, hi, rfl, HO, HBw⟩ := hrel
    rename World => wr
    by_cases hin : i < 1
    · obtain rfl : i = 0 := by omega
      obtain ⟨ad, rfl, _, hc1⟩ := (HRs.out.below HBw.out).at_ (k := 0) (u := .complex .f64 4591870180066957722 0) rfl
      have e0 : ad.add 0 = ad := by unfold Addr.add; split <;> simp_all
      rw [e0] at hc1
      rw [show ((0 : Nat) : Int) = 0 from rfl]
      clear e0 hi hin
      go_wp2_with fail
      refine (HL.out _).mono ?_
      rintro e w' ⟨rfl, n1, rfl⟩
      go_wp2_with fail
      refine (HAb.out _).mono ?_
      rintro e w' ⟨rfl, n2, rfl⟩
      obtain ⟨W3, hW3⟩ : ∃ W3, W3 = (wr.drewN n1).drewN n2 := ⟨_, rfl⟩
      have hb3 : Below wr.heap.size wr W3 := by rw [hW3]; exact below_drewN (below_drewN (Below.refl _ _) _) _
      rw [← hW3]
      have HO3 := Lib.hid (own_below HO.out hb3)
      have HB3 := Lib.hid (HBw.out.trans (hb3.mono HBw.out.size))
      clear hW3 hb3 hc1
      go_upto_region 9 with (at_builtin; refine wpList_append_stays _ rfl (.tmp 30) (.tmp 33) 93 rfl W2.heap.size 36 i0 (.float .f64 0) 8 Try.underlying93 hi0 hz0 hz1 hz2 rfl _ _ _ rfl (HO3.out.alloc _) ⟨W3.heap.size, 0, none⟩ 1 1 [.float .f64 4474776589728481280] rfl rfl (cell_one_new _ _ _) (by intro u hu; simp at hu; subst hu; rfl) (by unfold maxLen; decide) (by decide) (Nat.le_trans HB3.out.size (below_new _ _).size) ?_; intro v3 W5 hown5 hgrow5 hat5)
      have HG := Lib.hid hown5
      have HG2 := Lib.hid ((HB3.out.new (Nat.le_refl _) _).grown hgrow5 (Nat.le_trans HB3.out.size (below_new _ _).size) (fun g hg => (HO3.out.lt g hg).1))
      clear hown5 hgrow5 hat5
      go_wp2
      go_roundw
      case rel => exact ⟨1, Nat.le_refl _, by go_num, HG, HG2⟩
      case measure => simp [intOf]
    · obtain rfl : i = 1 := by omega
      obtain ⟨gA, gc, rfl, hrg, hng, hcg⟩ := own_reads HO.out
      have HGr := Lib.hid (Greatest_c gA [4474776589728481280] gc wr (by decide) hrg)
      have hg1 : great [4474776589728481280] 1 = (0, 4474776589728481280) := by decide +kernel
      rw [show ([4474776589728481280] : List Nat).length = 1 from rfl, hg1] at HGr
      clear hrg hng hcg hi hin hg1
      go_wp2_with fail
      refine HGr.out.mono ?_
      rintro e W' ⟨rfl, rfl⟩
      go_wp2
      go_ret2
      exact ⟨rfl, HB2.out.trans (HBw.out.mono HB2.out.size)⟩
/-- The solution of one number, 1 - 0i, as it is laid. -/
def w31 : SolW := ⟨4607182418800017408, [4575657223555907584], []⟩
theorem encs31 : encS [w31] = [0, 1, 0x3f, 0xf0, 0, 0, 0, 0, 0, 0, 1, 0, 0x3f, 0x80, 0, 0, 0x80, 0, 0, 0] := by decide +kernel
theorem tom31 : toM w31 = ⟨4607182418800017408, [(4607182418800017408, 9223372036854775808)], []⟩ := by
  unfold toM w31
  rw [show [4575657223555907584].map numW = [(4607182418800017408, 9223372036854775808)] from by decide +kernel]
  rfl
theorem okw31 : OkW w31 where
  lt := by decide
  fin := by decide +kernel
  nv := fun u hu => by
    have : u = 4575657223555907584 := by simpa [w31] using hu
    subst this
    exact ⟨by decide, by decide +kernel⟩
  na := fun u hu => by simp [w31] at hu
  sv := by decide
  sy := by decide
def RetBB31 (b : Bool) (w : World) (e : Ending) (w' : World) : Prop := e = .returned (.bool b) ∧ Below w.heap.size w w'
theorem reads_new1 (w : World) (z : C) : Reads (w.alloc (.cells #[.complex .f64 z.1 z.2] 60)) (w.alloc (.cells #[.complex .f64 z.1 z.2] 60)).heap.size (some ⟨w.heap.size, 0, none⟩) (nums [z]) :=
  (Reads.new w 60 [.complex .f64 z.1 z.2]).more (by simp)
set_option maxHeartbeats 4000000 in
theorem awake31_c (w : World) : Calls Try.prog 29 #[] w (RetBB31 true w) := by
  have HCs := Lib.hid (fun W => mCopysign_c 0 13830554455654793216 (by decide) (by decide) W)
  rw [show double.word (sgn double 13830554455654793216) (rung double 0) = 9223372036854775808 from by decide +kernel] at HCs
  go_enter Try.func29, Try.ntmps29
  go_wp2_with fail
  refine (HCs.out _).mono ?_
  rintro e w' ⟨rfl, rfl⟩
  go_wp2_with fail
  obtain ⟨V1, hV1⟩ : ∃ V1, V1 = w.alloc (.cells #[.complex .f64 4607182418800017408 9223372036854775808] 60) := ⟨_, rfl⟩
  have hr1 : Reads V1 V1.heap.size (some ⟨w.heap.size, 0, none⟩) (nums [(4607182418800017408, 9223372036854775808)]) := by rw [hV1]; exact reads_new1 w (4607182418800017408, 9223372036854775808)
  have hb1 : Below w.heap.size w V1 := by rw [hV1]; exact below_new _ _
  rw [← hV1]
  clear hV1
  refine (one_c _ _ _ _).mono ?_
  rintro e V2 ⟨rfl, hb2⟩
  have HE := Lib.hid (Encode_c [w31] (fun a ha => by simp at ha; subst ha; exact okw31) (by simp) (.slice (some ⟨V2.heap.size, 0, none⟩) 1 1) (V2.alloc (.cells #[.float .f64 4607182418800017408, .slice (some ⟨w.heap.size, 0, none⟩) 1 1, .slice none 0 0] 39)) (by
    have h1 := (one_at ((hr1.below hb2).more hb2.size) (c := 1) (by simp)).more (show V2.heap.size + 1 ≤ (V2.alloc (.cells #[.float .f64 4607182418800017408, .slice (some ⟨w.heap.size, 0, none⟩) 1 1, .slice none 0 0] 39)).heap.size from by simp)
    rw [show [w31].map toM = [⟨4607182418800017408, [(4607182418800017408, 9223372036854775808)], []⟩] from by rw [List.map_cons, List.map_nil, tom31]]
    exact h1))
  have HB2 := Lib.hid ((hb1.trans (hb2.mono hb1.size)).new (Nat.le_refl _) (.cells #[.float .f64 4607182418800017408, .slice (some ⟨w.heap.size, 0, none⟩) 1 1, .slice none 0 0] 39))
  clear hr1 hb1 hb2
  go_wp2_with fail
  refine HE.out.mono ?_
  rintro e W1 ⟨vb, rfl, hob, hb3⟩
  rw [encs31] at hob
  obtain ⟨bA, bc, rfl, hbr, hbn, -⟩ := own_reads hob
  have HBr := Lib.hid hbr
  have HB3 := Lib.hid (HB2.out.trans (hb3.mono HB2.out.size))
  clear hob hbr hbn hb3 HE HB2 HCs
  obtain ⟨bl, hbl⟩ : ∃ bl, bl = ([0, 1, 0x3f, 0xf0, 0, 0, 0, 0, 0, 0, 1, 0, 0x3f, 0x80, 0, 0, 0x80, 0, 0, 0] : List Nat).length := ⟨_, rfl⟩
  rw [← hbl]
  have hbl20 : bl = 20 := by rw [hbl]; rfl
  subst hbl20
  clear hbl
  go_wp2_with fail
  obtain ⟨V1, hV1⟩ : ∃ V1, V1 = W1.alloc (.cells #[.complex .f64 4591870180066957722 0] 60) := ⟨_, rfl⟩
  have hr1 : Reads V1 V1.heap.size (some ⟨W1.heap.size, 0, none⟩) (nums [k01]) := by rw [hV1]; exact reads_new1 W1 (4591870180066957722, 0)
  have hb1 : Below W1.heap.size W1 V1 := by rw [hV1]; exact below_new _ _
  rw [← hV1]
  clear hV1
  refine (one_c _ _ _ _).mono ?_
  rintro e V2 ⟨rfl, hb2⟩
  have HSt := Lib.hid (Stored_k _ 1 _ ((hr1.below hb2).more hb2.size) (by simp))
  have HB4 := Lib.hid (hb1.trans (hb2.mono hb1.size))
  clear hr1 hb1 hb2
  go_wp2_with fail
  refine HSt.out.mono ?_
  rintro e V3 ⟨sA, sc, rfl, hrs, hb5⟩
  obtain ⟨ad, rfl, hlt, hc1⟩ := hrs.at_ (k := 0) (u := .complex .f64 4591870180174331904 0) rfl
  have e0 : ad.add 0 = ad := by unfold Addr.add; split <;> simp_all
  rw [e0] at hc1
  have HB5 := Lib.hid (HB4.out.trans (hb5.mono HB4.out.size))
  have HCx := Lib.hid hc1
  have HLt := Lib.hid hlt
  clear e0 hrs hb5 HSt HB4 hc1 hlt
  obtain ⟨W3, hW3⟩ : ∃ W3, W3 = V3.alloc (.cells #[.float .f64 4607182418800017408, .slice (some ad) 1 sc, .slice none 0 0] 39) := ⟨_, rfl⟩
  have hbx : Below V3.heap.size V3 W3 := by rw [hW3]; exact below_new _ _
  have hrow : W3.heap[V3.heap.size]? = some (.cells #[.float .f64 4607182418800017408, .slice (some ad) 1 sc, .slice none 0 0] 39) := by rw [hW3, heap_alloc_new]
  have hsz : W3.heap.size = V3.heap.size + 1 := by rw [hW3]; simp
  have HRow := Lib.hid hrow
  have HBx := Lib.hid hbx
  have HSz := Lib.hid hsz
  clear hbx hrow hsz
  go_upto_region 3 with fail
  rw [← hW3]
  clear hW3
  go_wp2_with fail
  obtain ⟨V1, hV1⟩ : ∃ V1, V1 = W3.alloc (.cells #[.complex .f64 4591870180066957722 0] 60) := ⟨_, rfl⟩
  have hr1 : Reads V1 V1.heap.size (some ⟨W3.heap.size, 0, none⟩) (nums [k01]) := by rw [hV1]; exact reads_new1 W3 (4591870180066957722, 0)
  have hb1 : Below W3.heap.size W3 V1 := by rw [hV1]; exact below_new _ _
  rw [← hV1]
  clear hV1
  refine (one_c _ _ _ _).mono ?_
  rintro e V2 ⟨rfl, hb2⟩
  have HLo := Lib.hid (Lost_k _ 1 _ ((hr1.below hb2).more hb2.size) (by simp))
  have HB6 := Lib.hid (hb1.trans (hb2.mono hb1.size))
  clear hr1 hb1 hb2
  go_wp2_with fail
  refine HLo.out.mono ?_
  rintro e W4 ⟨rfl, hb6⟩
  have HB7 := Lib.hid (HB6.out.trans (hb6.mono HB6.out.size))
  clear hb6 HLo HB6
  obtain ⟨W5, hW5⟩ : ∃ W5, W5 = W4.alloc (.cells #[.int .u8 0, .int .u8 1, .int .u8 63, .int .u8 240, .int .u8 0, .int .u8 0, .int .u8 0, .int .u8 0, .int .u8 0, .int .u8 0, .int .u8 1, .int .u8 0, .int .u8 63, .int .u8 128, .int .u8 0, .int .u8 0, .int .u8 128, .int .u8 0, .int .u8 0, .int .u8 0] 5) := ⟨_, rfl⟩
  have hrw : Reads W5 W5.heap.size (some ⟨W4.heap.size, 0, none⟩) (bytesV [0, 1, 0x3f, 0xf0, 0, 0, 0, 0, 0, 0, 1, 0, 0x3f, 0x80, 0, 0, 0x80, 0, 0, 0]) := by
    rw [hW5]
    exact (Reads.new W4 5 (bytesV [0, 1, 0x3f, 0xf0, 0, 0, 0, 0, 0, 0, 1, 0, 0x3f, 0x80, 0, 0, 0x80, 0, 0, 0])).more (by simp)
  have hb7 : Below W4.heap.size W4 W5 := by rw [hW5]; exact below_new _ _
  have hb8 : Below W3.heap.size W3 W5 := HB7.out.trans (hb7.mono HB7.out.size)
  have hb9 : Below V3.heap.size V3 W5 := HBx.out.trans (hb8.mono HBx.out.size)
  have hb10 : Below W1.heap.size W1 W5 := HB5.out.trans (hb9.mono HB5.out.size)
  have hrow5 := (hb8.block _ (show V3.heap.size < W3.heap.size by rw [HSz.out]; exact Nat.lt_succ_self _)).trans HRow.out
  have p1 : W5.cell? ⟨V3.heap.size, 1, none⟩ = some (.slice (some ad) 1 sc) := by rw [cell_of_row _ _ 1 _ _ _ hrow5]; rfl
  have p2 : W5.cell? ad = some (.complex .f64 4591870180174331904 0) := (hb9.cell (p := ad) HLt.out).trans HCx.out
  have HSb := Lib.hid (SameBytes_t bA (some ⟨W4.heap.size, 0, none⟩) [0, 1, 0x3f, 0xf0, 0, 0, 0, 0, 0, 0, 1, 0, 0x3f, 0x80, 0, 0, 0x80, 0, 0, 0] 20 bc 20 W5 rfl (by decide) ((HBr.out.below hb10).more hb10.size) hrw)
  have HB8 := Lib.hid (HB3.out.trans (hb10.mono HB3.out.size))
  clear hrw hb7 hb8 hb9 hb10 hrow5 HBr HCx HLt HB7 HBx HB5 HRow
  go_upto_region 5 with fail
  rw [← hW5]
  clear hW5
  go_wp2_with fail
  refine HSb.out.mono ?_
  rintro e W6 ⟨n1, rfl, rfl⟩
  have o1 : FloatKind.f64.format.order 4591870180174331904 4591870180174331904 = some .eq := by decide +kernel
  have o2 : FloatKind.f64.format.order 0 0 = some .eq := by decide +kernel
  have o3 : FloatKind.f64.format.order 4474776589728481280 4474776589728481280 = some .eq := by decide +kernel
  go_wp2
  go_ret
  exact ⟨rfl, below_drewN HB8.out _⟩
end Go.Proofs.Ytpfjidijecgjcaa
