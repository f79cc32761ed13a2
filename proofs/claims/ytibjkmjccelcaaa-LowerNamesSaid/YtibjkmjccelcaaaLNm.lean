/- LowerNames' walk. -/
import Derived.Test.YtibjkmjccelcaaaLNo
import Derived.Test.YtibjkmjccelcaaaLdx
namespace Go.Proofs.Ytibjkmjccelcaaa
open Go.RowKit Fl Ieee
set_option maxRecDepth 20000
attribute [local go_sem] run_store_float run_store_complex Fl.order_self Fl.order_self' Fl.order_eq Fl.order_ne Fl.order_lt Fl.order_gt Fl.negFloat_flip
/-- Of closed lists: what EqualMatrix asks. -/
theorem closed_equal {zs l m : List C} (hz : zs.map cnC = l) (h : (List.range l.length).all (fun k => pEqual (l.getD k (0, 0)) (cnC (m.getD k (0, 0)))) = true) :
    ∀ (k : Nat) (x y : C), zs[k]? = some x → m[k]? = some y → pEqual (cnC x) (cnC y) = true := by
  intro k x y hx hy
  have h1 : l[k]? = some (cnC x) := by rw [← hz, List.getElem?_map, hx]; rfl
  have hk := lt_of_some h1
  have h2 := List.all_eq_true.1 h k (List.mem_range.2 hk)
  rw [List.getD_eq_getElem?_getD, List.getD_eq_getElem?_getD, h1, hy] at h2
  exact h2
def c2 : C := (4611686018427387904, 0)
def c3 : C := (4613937818241073152, 0)
def c4 : C := (4616189618054758400, 0)
def one9 : C := (fone, 0)
def thirdC : C := (4599676419421066581, 0)
def fourW : Nat := 4608683618675807573
def restW : Nat := 4604180019048437078
theorem four_eq : fop .mul .f64 (cn .f64 4599676419421066581) (cn .f64 4616189618054758400) = fourW := by decide +kernel
theorem rest_eq : fop .sub .f64 (cn .f64 4611686018427387904) (cn .f64 fourW) = restW := by decide +kernel
def exB : List C := [one9, c2, c3, c4]
def SB : El := ofS 2 exB
theorem exB_f : ofF 2 2 exB = (0, 0) := by decide +kernel
theorem exB_o : ((List.range 2).map fun i => ((SB.o i : Nat) : Int)) = [1, 0] := by decide +kernel
theorem exB_s : sgI SB.s = -1 := by decide +kernel
theorem exB_l : (List.range (entries 2 (lowE SB) 4).length).all (fun k => pEqual ((entries 2 (lowE SB) 4).getD k (0, 0)) (cnC ([one9, (0, 0), thirdC, one9].getD k (0, 0)))) = true := by decide +kernel
theorem exB_u : (List.range (entries 2 (uppE SB) 4).length).all (fun k => pEqual ((entries 2 (uppE SB) 4).getD k (0, 0)) (cnC ([c3, c4, (0, 0), (restW, 0)].getD k (0, 0)))) = true := by decide +kernel
theorem exB_p : (List.range (pivL SB 2).length).all (fun k => pEqual (cnC ((pivL SB 2).getD k (0, 0))) (cnC ([c3, (restW, 0)].getD k (0, 0)))) = true := by decide +kernel
theorem exB_fin : ∀ z ∈ exB, pFinite z = true := by decide +kernel
theorem exB_fin' : finTo SB.E 2 := elRun_fin (matE_fin (l := exB) (n := 2) rfl exB_fin) 2 (Nat.le_refl _)
def ltAll (l : List C) : Bool := l.all fun z => decide (z.1 < 18446744073709551616) && decide (z.2 < 18446744073709551616)
theorem ltAll_lt {l : List C} (h : ltAll l = true) : ltCs l := fun z hz => by
  have := List.all_eq_true.1 h z hz
  rw [Bool.and_eq_true, decide_eq_true_eq, decide_eq_true_eq] at this
  exact this
def tinyW : Nat := 4503599627370496 * 423
def bigW : Nat := 4503599627370496 * 2023
def topW : Nat := 4503599627370496 * 2046
def exC : List C := [(tinyW, 0), (bigW, 0), (tinyW, 0), (flip double bigW, flip double 0)]
def SC : El := ofS 2 exC
theorem exC_f : ofF 2 2 exC = (0, 0) := by decide +kernel
theorem exC_l : (List.range (entries 2 (lowE SC) 4).length).all (fun k => pEqual ((entries 2 (lowE SC) 4).getD k (0, 0)) (cnC ([one9, (0, 0), one9, one9].getD k (0, 0)))) = true := by decide +kernel
def m2big : C := (13835058055282163712 + 0, 0)
def big2 : C := (flip double (4503599627370496 * 2024), 0)
theorem exC_u : (List.range (entries 2 (uppE SC) 4).length).all (fun k => pEqual ((entries 2 (uppE SC) 4).getD k (0, 0)) (cnC ([(tinyW, 0), (bigW, 0), (0, 0), big2].getD k (0, 0)))) = true := by decide +kernel
theorem exC_fin : ∀ z ∈ exC, pFinite z = true := by decide +kernel
theorem exC_fin' : finTo SC.E 2 := elRun_fin (matE_fin (l := exC) (n := 2) rfl exC_fin) 2 (Nat.le_refl _)
def exT : List C := [one9, (topW, 0), (13830554455654793216, 0), (topW, 0)]
theorem exT_f : ofF 2 2 exT = (6, 0) := by decide +kernel
theorem exS_f : ofF 2 2 [(0, 0), one9, (0, 0), c2] = (7, 0) := by decide +kernel
theorem exR_f : ofF 2 2 [one9, c2, c2, c4] = (7, 1) := by decide +kernel
theorem exN_f : ofF 1 1 [(9221120237041090561, 0)] = (5, 0) := by decide +kernel
theorem exW_f : ofF 1 3 (List.replicate 3 (0, 0)) = (4, -1) := by decide +kernel
theorem exG_f : ofF 65 65 (List.replicate 4225 (0, 0)) = (4, -1) := by
  unfold ofF okM; rfl
theorem exE_f : ofF 0 0 [] = (0, 0) := by decide +kernel
def SE : El := ofS 0 []
theorem exE_s : sgI SE.s = 1 := by decide +kernel
theorem exE_fin' : finTo SE.E 0 := fun i j hi => by omega
theorem mul_big (t : TypeId) (w : World) : (binOp .mul t (.complex .f64 13835058055282163712 0) (.complex .f64 bigW 0)).run Try.prog w = .ok (.complex .f64 big2.1 big2.2) w := by kernel_rfl
theorem two_int {w : World} {a b : Int} : Reads (w.alloc (.cells #[.int .i64 a, .int .i64 b] 3)) (w.alloc (.cells #[.int .i64 a, .int .i64 b] 3)).heap.size (some ⟨w.heap.size, 0, none⟩) (intsV [a, b]) := by
  have h := Reads.new w 3 (intsV [a, b])
  exact h.more (by simp)
/-- Of a closed matrix: it is eliminated. -/
theorem Of_ok {l : List C} {n M : Nat} {S : El} (hf : ofF n n l = (0, 0)) (hS : ofS n l = S) (hlt : ltAll l = true) (hM : l.length = M) {A : Option Addr} {cap : Nat} {V : World} (h1 : M ≤ cap) (h2 : Reads V V.heap.size A (nums l)) :
    Calls Try.prog 13 #[mval n n (.slice A M cap)] V fun e w' => ∃ b, e = .returned (.tuple #[.pointer (some ⟨b, 0, none⟩), .agg #[.int .i64 0, .int .i64 0]]) ∧ Has9 w' V.heap.size b n S ∧ Below V.heap.size V w' := by
  subst hM
  exact (Of_c n n A l cap V h1 h2 (ltAll_lt hlt)).mono fun _ _ h => by rw [← hS]; exact h.ok hf
structure NW (w W : World) (n B b : Nat) (S : El) : Prop where
  x : Has9 W B b n S
  bel : Below w.heap.size w W
theorem NW.below {w W V : World} {n B b : Nat} {S : El} (h : NW w W n B b S) (hb : Below W.heap.size W V) : NW w V n B b S := ⟨h.x.below hb, h.bel.trans (hb.mono h.bel.size)⟩
theorem NW.drewN {w W : World} {n B b : Nat} {S : El} (h : NW w W n B b S) (d : Nat) : NW w (W.drewN d) n B b S := h.below (below_drewN (Below.refl _ _) d)
theorem NW.new {w W : World} {n B b : Nat} {S : El} (h : NW w W n B b S) (o : Obj) : NW w (W.alloc o) n B b S := h.below (below_new W o)
theorem refused_M {er pl : Int} {r c : Int} {M : Nat} {A : Option Addr} {l : List C} {cap : Nat} {w : World} (hf : ofF r c l = (er, pl)) (he : er ≠ 0) (hM : l.length = M) (hcap : M ≤ cap) (hrd : Reads w w.heap.size A (nums l)) (hlt : ltAll l = true) :
    Calls Try.prog 32 #[mval r c (.slice A M cap), .int .i64 er, .int .i64 pl] w (RetBB true w) := by
  subst hM
  exact refused_t r c A l cap w hf he hcap hrd (ltAll_lt hlt)
theorem reads_made (W : World) (n : Nat) : Reads (W.alloc (.cells (madeCells #[.complex .f64 0 0] n) 51)) (W.alloc (.cells (madeCells #[.complex .f64 0 0] n) 51)).heap.size (some ⟨W.heap.size, 0, none⟩) (nums (List.replicate n (0, 0))) := by
  rw [mk_nums]
  exact (Reads.new W 51 _).more (by simp)
theorem ltAll_rep (n : Nat) : ltAll (List.replicate n (0, 0)) = true := by
  unfold ltAll
  rw [List.all_eq_true]
  intro z hz
  rw [List.eq_of_mem_replicate hz]; decide
theorem field0 (a b : Int) (A : Option Addr) (n c : Nat) (W : World) : (Instr.field 26 (mval a b (.slice A n c)) 0).run Try.prog W = .ok (.int .i64 a) W := by kernel_rfl
theorem field1 (a b : Int) (A : Option Addr) (n c : Nat) (W : World) : (Instr.field 26 (mval a b (.slice A n c)) 1).run Try.prog W = .ok (.int .i64 b) W := by kernel_rfl
theorem field2 (a b : Int) (A : Option Addr) (n c : Nat) (W : World) : (Instr.field 26 (mval a b (.slice A n c)) 2).run Try.prog W = .ok (.slice A n c) W := by kernel_rfl
set_option maxHeartbeats 16000000 in
theorem Names_try (w : World) : Calls Try.prog 8 #[] w fun e w' => e = .returned (.bool true) ∧ Below w.heap.size w w' := by
  have SQ := fun (x y z u : C) (V : World) => square_c x y z u V
  have hSQ := Lib.hid SQ
  have hmb := fun w => mul_big 51 w
  have hf0 := fun (a b : Int) (A : Option Addr) (n c : Nat) (W : World) => field0 a b A n c W
  have hf1 := fun (a b : Int) (A : Option Addr) (n c : Nat) (W : World) => field1 a b A n c W
  have hf2 := fun (a b : Int) (A : Option Addr) (n c : Nat) (W : World) => field2 a b A n c W
  have hmk3 : ∀ V : World, (Instr.makeSlice 24 (.int .i64 3) (.int .i64 3)).run Try.prog V = .ok (.slice (some ⟨V.heap.size, 0, none⟩) 3 3) (V.alloc (.cells (madeCells #[.complex .f64 0 0] 3) 51)) := fun V => run_make_row' (P := Try.prog) 24 51 (.complex .f64 0 0) 16 Try.underlying24 infoNum rfl .i64 .i64 3 (by omega) (by omega) V
  have hmkG : ∀ V : World, (Instr.makeSlice 24 (.int .i64 4225) (.int .i64 4225)).run Try.prog V = .ok (.slice (some ⟨V.heap.size, 0, none⟩) 4225 4225) (V.alloc (.cells (madeCells #[.complex .f64 0 0] 4225) 51)) := fun V => run_make_row' (P := Try.prog) 24 51 (.complex .f64 0 0) 16 Try.underlying24 infoNum rfl .i64 .i64 4225 (by omega) (by omega) V
  clear SQ
  go_enter Try.func8, Try.ntmps8
  go_wp2_with fail
  refine (hSQ.out one9 c2 c3 c4 _).mono ?_
  rintro e W1 hr
  obtain ⟨A1, k1, rfl, hrd, hle, hb⟩ := RetMs.liesM (M := 4) hr rfl
  have B1 := Lib.hid hb
  have HOf := Lib.hid (Of_ok exB_f (show ofS ((2 : Nat) : Int) exB = SB from rfl) (by decide +kernel) rfl hle hrd)
  clear hr hb hrd hle
  go_wp2_with fail
  refine HOf.out.mono ?_
  rintro e W2 ⟨b, rfl, h9, hb⟩
  have N2 := Lib.hid ((show NW w W2 2 W1.heap.size b SB from ⟨h9, B1.out.trans (hb.mono B1.out.size)⟩).new (.cells #[.int .i64 0, .int .i64 0] 31))
  clear h9 hb HOf
  go_wp2_with fail
  refine upon_mul _ _ _ _ ?_
  intro r n1 h1
  have e1 : r = fourW := cn_only' (h1.1.trans four_eq) (by decide +kernel)
  subst e1
  clear h1
  have N3 := Lib.hid (N2.out.drewN n1)
  go_wp2_with fail
  refine (Order_c _ N3.out.x (by decide)).mono ?_
  rintro e W4 hr
  obtain ⟨Ao, co, rfl, hro, -, hb⟩ := hr.lies
  rw [exB_o] at hro
  have hbn := below_new W4 (.cells #[.int .i64 1, .int .i64 0] 3)
  have HS := Lib.hid (SameInts_t Ao (some ⟨W4.heap.size, 0, none⟩) [1, 0] 2 co 2 _ rfl (by decide) ((hro.below hbn).more hbn.size) two_int)
  have N4 := Lib.hid ((N3.out.below hb).new (.cells #[.int .i64 1, .int .i64 0] 3))
  clear hr hro hb hbn
  go_wp2_with fail
  refine HS.out.mono ?_
  rintro e W5 ⟨d5, rfl, h5⟩
  have N5 := Lib.hid (show NW w W5 2 W1.heap.size b SB by rw [h5]; exact N4.out.drewN d5)
  clear h5 HS
  go_wp2_with fail
  refine (Sign_c W5 N5.out.x).mono ?_
  rw [exB_s]
  rintro e w' ⟨rfl, rfl⟩
  go_wp2_with fail
  refine (L_c W5 N5.out.x exB_fin' (by decide)).mono ?_
  rintro e W6 hr
  obtain ⟨A6, z6, k6, rfl, hl6, hz6, hr6, hb⟩ := RetMx.liesM (M := 4) hr rfl
  have N6 := Lib.hid (N5.out.below hb)
  have HZ6 := Lib.hid (And.intro hl6 (And.intro hz6 hr6))
  clear hr hl6 hz6 hr6 hb
  go_wp2_with fail
  refine (hSQ.out one9 (0, 0) thirdC one9 _).mono ?_
  rintro e W7 hr
  obtain ⟨A7, k7, rfl, hr7, -, hb⟩ := RetMs.liesM (M := 4) hr rfl
  have N7 := Lib.hid (N6.out.below hb)
  have HE7 := Lib.hid (EqualMatrix_t 2 2 A6 A7 z6 _ 4 k6 k7 W7 HZ6.out.1 rfl (closed_equal HZ6.out.2.1 exB_l) (by decide) ((HZ6.out.2.2.below hb).more hb.size) hr7)
  clear hr hr7 hb
  go_wp2_with fail
  refine HE7.out.mono ?_
  rintro e W8 ⟨rfl, hb⟩
  have N8 := Lib.hid (N7.out.below hb)
  clear hb HE7 HZ6
  go_wp2_with fail
  refine (U_c W8 N8.out.x exB_fin' (by decide)).mono ?_
  rintro e W9 hr
  obtain ⟨A6, z6, k6, rfl, hl6, hz6, hr6, hb⟩ := RetMx.liesM (M := 4) hr rfl
  have N9 := Lib.hid (N8.out.below hb)
  have HZ6 := Lib.hid (And.intro hl6 (And.intro hz6 hr6))
  clear hr hl6 hz6 hr6 hb
  go_wp2_with fail
  refine upon_sub _ _ _ _ ?_
  intro r n2 h2
  have e2 : r = restW := cn_only' (h2.1.trans rest_eq) (by decide +kernel)
  subst e2
  clear h2
  go_wp2_with fail
  refine (hSQ.out c3 c4 (0, 0) (restW, 0) _).mono ?_
  rintro e W10 hr
  obtain ⟨A7, k7, rfl, hr7, -, hb⟩ := RetMs.liesM (M := 4) hr rfl
  have hb' := (below_drewN (Below.refl W9.heap.size W9) n2).trans hb
  have N10 := Lib.hid (N9.out.below hb')
  have HE7 := Lib.hid (EqualMatrix_t 2 2 A6 A7 z6 _ 4 k6 k7 W10 HZ6.out.1 rfl (closed_equal HZ6.out.2.1 exB_u) (by decide) ((HZ6.out.2.2.below hb').more hb'.size) hr7)
  clear hr hr7 hb hb'
  go_wp2_with fail
  refine HE7.out.mono ?_
  rintro e W11 ⟨rfl, hb⟩
  have N11 := Lib.hid (N10.out.below hb)
  clear hb HE7 HZ6
  go_wp2_with fail
  refine (Pivots_c W11 N11.out.x (by decide)).mono ?_
  rintro e W12 ⟨sp, rfl, hown, hb⟩
  obtain ⟨Ap, kp, rfl, hrp, -, -⟩ := own_reads (show W12.ownsRow W11.heap.size 51 1 sp 2 (nums (pivL SB 2)) from hown)
  have N12 := Lib.hid (N11.out.below hb)
  have HRp := Lib.hid hrp
  clear hown hb hrp
  go_wp2_with fail
  refine upon_sub _ _ _ _ ?_
  intro r n3 h3
  have e3 : r = restW := cn_only' (h3.1.trans rest_eq) (by decide +kernel)
  subst e3
  clear h3
  have hdn := (below_drewN (Below.refl W12.heap.size W12) n3).trans (below_new (W12.drewN n3) (.cells #[.complex .f64 4613937818241073152 0, .complex .f64 restW 0] 51))
  have HEn := Lib.hid (EqualNumbers_t Ap (some ⟨W12.heap.size, 0, none⟩) (pivL SB 2) [c3, (restW, 0)] 2 kp 2 ((W12.drewN n3).alloc (.cells #[.complex .f64 4613937818241073152 0, .complex .f64 restW 0] 51)) rfl rfl (by
    intro k x y hx hy
    have hk := lt_of_some hx
    have h2 := List.all_eq_true.1 exB_p k (List.mem_range.2 hk)
    rw [List.getD_eq_getElem?_getD, List.getD_eq_getElem?_getD, hx, hy] at h2
    exact h2) (by decide) ((HRp.out.below hdn).more hdn.size) ((Reads.new (W12.drewN n3) 51 (nums [c3, (restW, 0)])).more (by simp)))
  have N13 := Lib.hid (N12.out.below hdn)
  clear hdn
  go_wp2_with fail
  refine HEn.out.mono ?_
  rintro e W14 ⟨d14, rfl, h14⟩
  have N14 := Lib.hid (show NW w W14 2 W1.heap.size b SB by rw [h14]; exact N13.out.drewN d14)
  clear h14 HEn
  go_wp2_with fail
  refine (Ldexp1_c 423 (-600) (by omega) (by omega) (by omega) _).mono ?_
  rintro e V ⟨x, n4, rfl, g, -, rfl⟩
  have e4 : x = tinyW := cn_only' g (by decide +kernel)
  subst e4
  clear g
  go_wp2_with fail
  refine (Ldexp1_c 2023 1000 (by omega) (by omega) (by omega) _).mono ?_
  rintro e V ⟨x, n5, rfl, g, -, rfl⟩
  have e5 : x = bigW := cn_only' g (by decide +kernel)
  subst e5
  clear g
  go_wp2_with fail
  refine (hSQ.out (tinyW, 0) (bigW, 0) (tinyW, 0) (flip double bigW, flip double 0) _).mono ?_
  rintro e W15 hr
  obtain ⟨A1, k1, rfl, hrd, hle, hb⟩ := RetMs.liesM (M := 4) hr rfl
  have N15 := Lib.hid ((N14.out.drewN _).below hb)
  have HOf := Lib.hid (Of_ok exC_f (show ofS ((2 : Nat) : Int) exC = SC from rfl) (by decide +kernel) rfl hle hrd)
  clear hr hb hrd hle
  go_wp2_with fail
  refine HOf.out.mono ?_
  rintro e W16 ⟨b2, rfl, h9, hb⟩
  have N16 := Lib.hid ((show NW w W16 2 W15.heap.size b2 SC from ⟨h9, N15.out.bel.trans (hb.mono N15.out.bel.size)⟩).new (.cells #[.int .i64 0, .int .i64 0] 31))
  clear h9 hb HOf
  go_wp2_with fail
  refine (L_c _ N16.out.x exC_fin' (by decide)).mono ?_
  rintro e W17 hr
  obtain ⟨A6, z6, k6, rfl, hl6, hz6, hr6, hb⟩ := RetMx.liesM (M := 4) hr rfl
  have N17 := Lib.hid (N16.out.below hb)
  have HZ6 := Lib.hid (And.intro hl6 (And.intro hz6 hr6))
  clear hr hl6 hz6 hr6 hb
  go_wp2_with fail
  refine (hSQ.out one9 (0, 0) one9 one9 _).mono ?_
  rintro e W18 hr
  obtain ⟨A7, k7, rfl, hr7, -, hb⟩ := RetMs.liesM (M := 4) hr rfl
  have N18 := Lib.hid (N17.out.below hb)
  have HE7 := Lib.hid (EqualMatrix_t 2 2 A6 A7 z6 _ 4 k6 k7 W18 HZ6.out.1 rfl (closed_equal HZ6.out.2.1 exC_l) (by decide) ((HZ6.out.2.2.below hb).more hb.size) hr7)
  clear hr hr7 hb
  go_wp2_with fail
  refine HE7.out.mono ?_
  rintro e W19 ⟨rfl, hb⟩
  have N19 := Lib.hid (N18.out.below hb)
  clear hb HE7 HZ6
  go_wp2_with fail
  refine (U_c W19 N19.out.x exC_fin' (by decide)).mono ?_
  rintro e W20 hr
  obtain ⟨A6, z6, k6, rfl, hl6, hz6, hr6, hb⟩ := RetMx.liesM (M := 4) hr rfl
  have N20 := Lib.hid (N19.out.below hb)
  have HZ6 := Lib.hid (And.intro hl6 (And.intro hz6 hr6))
  clear hr hl6 hz6 hr6 hb
  go_wp2_with fail
  refine (hSQ.out (tinyW, 0) (bigW, 0) (0, 0) big2 _).mono ?_
  rintro e W21 hr
  obtain ⟨A7, k7, rfl, hr7, -, hb⟩ := RetMs.liesM (M := 4) hr rfl
  have N21 := Lib.hid (N20.out.below hb)
  have HE7 := Lib.hid (EqualMatrix_t 2 2 A6 A7 z6 _ 4 k6 k7 W21 HZ6.out.1 rfl (closed_equal HZ6.out.2.1 exC_u) (by decide) ((HZ6.out.2.2.below hb).more hb.size) hr7)
  clear hr hr7 hb
  go_wp2_with fail
  refine HE7.out.mono ?_
  rintro e W22 ⟨rfl, hb⟩
  have B22 := Lib.hid (N21.out.below hb).bel
  clear hb HE7 HZ6 hmb
  go_wp2_with fail
  refine (Ldexp1_c 2046 1023 (by omega) (by omega) (by omega) _).mono ?_
  rintro e V ⟨x, n6, rfl, g, -, rfl⟩
  have e6 : x = topW := cn_only' g (by decide +kernel)
  subst e6
  clear g
  have B23 := Lib.hid (below_drewN B22.out n6)
  go_wp2_with fail
  refine (hSQ.out (0, 0) one9 (0, 0) c2 _).mono ?_
  rintro e W24 hr
  obtain ⟨A7, k7, rfl, hr7, hle, hb⟩ := RetMs.liesM (M := 4) hr rfl
  have B24 := Lib.hid (B23.out.trans (hb.mono B23.out.size))
  have HRf := Lib.hid (refused_M (r := 2) (c := 2) exS_f (by decide) (show _ = 4 from rfl) hle hr7 (by decide +kernel))
  clear hr hr7 hle hb
  go_wp2_with fail
  refine HRf.out.mono ?_
  rintro e W25 ⟨rfl, hb⟩
  have B25 := Lib.hid (B24.out.trans (hb.mono B24.out.size))
  clear hb HRf
  go_wp2_with fail
  refine (hSQ.out one9 c2 c2 c4 _).mono ?_
  rintro e W26 hr
  obtain ⟨A7, k7, rfl, hr7, hle, hb⟩ := RetMs.liesM (M := 4) hr rfl
  have B26 := Lib.hid (B25.out.trans (hb.mono B25.out.size))
  have HRf := Lib.hid (refused_M (r := 2) (c := 2) exR_f (by decide) (show _ = 4 from rfl) hle hr7 (by decide +kernel))
  clear hr hr7 hle hb
  go_wp2_with fail
  refine HRf.out.mono ?_
  rintro e W27 ⟨rfl, hb⟩
  have B27 := Lib.hid (B26.out.trans (hb.mono B26.out.size))
  have HRf := Lib.hid (refused_M (r := 1) (c := 3) exW_f (by decide) (show _ = 3 from rfl) (Nat.le_refl 3) (reads_made W27 3) (ltAll_rep 3))
  have B28 := Lib.hid (B27.out.new (Nat.le_refl _) (.cells (madeCells #[.complex .f64 0 0] 3) 51))
  clear hb
  go_wp2_with fail
  refine HRf.out.mono ?_
  rintro e W29 ⟨rfl, hb⟩
  have B29 := Lib.hid (B28.out.trans (hb.mono B28.out.size))
  clear hb HRf
  go_wp2_with fail
  refine (mNaN_c _).mono ?_
  rintro e w' ⟨rfl, rfl⟩
  have HRf := Lib.hid (refused_M (r := 1) (c := 1) (M := 1) exN_f (by decide) rfl (Nat.le_refl 1) ((Reads.new W29 51 (nums [(9221120237041090561, 0)])).more (show W29.heap.size + 1 ≤ (W29.alloc (.cells (nums [(9221120237041090561, 0)]).toArray 51)).heap.size by simp)) (by decide +kernel))
  have B30 := Lib.hid (B29.out.new (Nat.le_refl _) (.cells (nums [(9221120237041090561, 0)]).toArray 51))
  go_wp2_with fail
  refine HRf.out.mono ?_
  rintro e W31 ⟨rfl, hb⟩
  have B31 := Lib.hid (B30.out.trans (hb.mono B30.out.size))
  clear hb HRf
  go_wp2_with fail
  refine (hSQ.out one9 (topW, 0) (13830554455654793216, 0) (topW, 0) _).mono ?_
  rintro e W32 hr
  obtain ⟨A7, k7, rfl, hr7, hle, hb⟩ := RetMs.liesM (M := 4) hr rfl
  have B32 := Lib.hid (B31.out.trans (hb.mono B31.out.size))
  have HRf := Lib.hid (refused_M (r := 2) (c := 2) exT_f (by decide) (show _ = 4 from rfl) hle hr7 (by decide +kernel))
  clear hr hr7 hle hb
  go_wp2_with fail
  refine HRf.out.mono ?_
  rintro e W33 ⟨rfl, hb⟩
  have B33 := Lib.hid (B32.out.trans (hb.mono B32.out.size))
  have HRf := Lib.hid (refused_M (r := 65) (c := 65) exG_f (by decide) (show _ = 4225 by simp) (Nat.le_refl 4225) (reads_made W33 4225) (ltAll_rep 4225))
  have B34 := Lib.hid (B33.out.new (Nat.le_refl _) (.cells (madeCells #[.complex .f64 0 0] 4225) 51))
  clear hb
  go_wp2_with fail
  refine HRf.out.mono ?_
  rintro e W35 ⟨rfl, hb⟩
  have B35 := Lib.hid (B34.out.trans (hb.mono B34.out.size))
  clear hb HRf hmk3 hmkG
  have HOf := Lib.hid (show Calls Try.prog 13 #[mval 0 0 (.slice none 0 0)] W35 fun e w' => ∃ b, e = .returned (.tuple #[.pointer (some ⟨b, 0, none⟩), .agg #[.int .i64 0, .int .i64 0]]) ∧ Has9 w' W35.heap.size b 0 SE ∧ Below W35.heap.size W35 w' from
    Of_ok (l := []) (n := 0) exE_f rfl (by decide) rfl (Nat.le_refl _) (fun h => by cases h))
  go_wp2_with fail
  refine HOf.out.mono ?_
  rintro e W36 ⟨b3, rfl, h9, hb⟩
  have N36 := Lib.hid ((show NW w W36 0 W35.heap.size b3 SE from ⟨h9, B35.out.trans (hb.mono B35.out.size)⟩).new (.cells #[.int .i64 0, .int .i64 0] 31))
  clear h9 hb HOf
  go_wp2_with fail
  refine (Size_c _ N36.out.x).mono ?_
  rintro e w' ⟨rfl, rfl⟩
  go_wp2_with fail
  refine (Sign_c _ N36.out.x).mono ?_
  rw [exE_s]
  rintro e w' ⟨rfl, rfl⟩
  go_wp2_with fail
  refine (Order_c _ N36.out.x (by decide)).mono ?_
  rintro e W37 hr
  obtain ⟨Ao, co, rfl, -, -, hb⟩ := hr.lies
  have N37 := Lib.hid (N36.out.below hb)
  clear hr hb
  go_wp2_with fail
  refine (L_c _ N37.out.x exE_fin' (by decide)).mono ?_
  rintro e W38 hr
  obtain ⟨A6, z6, k6, rfl, -, -, -, hb⟩ := RetMx.liesM (M := 0) hr rfl
  have B38 := Lib.hid (N37.out.below hb).bel
  clear hr hb
  go_wp2
  obtain ⟨o1, ho1⟩ : ∃ o1 : Obj, o1 = .cells #[.bool false, .slice none 0 0, .slice none 0 0, .int .i64 0] 67 := ⟨_, rfl⟩
  obtain ⟨o2, ho2⟩ : ∃ o2 : Obj, o2 = .cells #[.pointer none, .pointer (some ⟨W38.heap.size, 0, none⟩)] 39 := ⟨_, rfl⟩
  have hV1 := below_new W38 o1
  have hV2 := below_new (W38.alloc o1) o2
  have HBV := Lib.hid (B38.out.trans ((hV1.trans (hV2.mono hV1.size)).mono B38.out.size))
  have HLo := Lib.hid (row_keep hV2 (heap_alloc_new W38 o1))
  have HLi := Lib.hid (row_new2 W38 o1 o2)
  rw [ho1, ho2] at HBV
  have HO1 := Lib.hid ho1
  have HO2 := Lib.hid ho2
  clear hV1 hV2 ho1 ho2
  go_loopw [165] (fun i wr => ∃ k : Nat, k ≤ 2 ∧ i = .int .i64 (k : Nat) ∧ Below ((W38.alloc o1).alloc o2).heap.size ((W38.alloc o1).alloc o2) wr) (fun i _ => 2 - (intOf i).toNat)
  case atStart => exact ⟨0, Nat.zero_le _, rfl, by rw [HO1.out, HO2.out]; exact Below.refl _ _⟩
  case round =>
    obtain ⟨k, hk, rfl, hb⟩ := hrel
    have hrow := row_keep hb HLi.out
    have hlow := row_keep hb HLo.out
    rw [HO2.out] at hrow
    rw [HO1.out] at hlow
    have HBw := Lib.hid hb
    have HBf := Lib.hid (show Below w.heap.size w wr by
      have h := hb
      rw [HO1.out, HO2.out] at h
      exact HBV.out.trans (h.mono HBV.out.size))
    obtain ⟨r0, r1, -⟩ := row2 hrow
    obtain ⟨l0, -, -, -, -⟩ := box4 hlow
    have hlt := row_lt hlow
    have hkb : (k : Int) + 1 ≤ 3 := by omega
    by_cases h2 : k < 2
    · obtain ⟨a, hc, hno⟩ : ∃ a, wr.cell? ⟨W38.heap.size + 1, k, none⟩ = some (.pointer a) ∧ NoneV wr (.pointer a) := by
        match k, h2 with
        | 0, _ => exact ⟨none, r0, .inl rfl⟩
        | 1, _ => exact ⟨_, r1, .inr ⟨_, rfl, hlt, l0⟩⟩
      have HNo := Lib.hid hno
      have hki : (k : Int) < 2 := by omega
      clear hb hrow hlow r0 r1 l0 hlt hno
      go_wp2_with fail
      refine (Size_no _ HNo.out).mono ?_
      rintro e w' ⟨rfl, rfl⟩
      go_wp2_with fail
      refine (Sign_no _ HNo.out).mono ?_
      rintro e w' ⟨rfl, rfl⟩
      go_wp2_with fail
      refine (Order_no _ HNo.out).mono ?_
      rintro e w' ⟨rfl, rfl⟩
      go_wp2_with fail
      refine (L_no _ HNo.out).mono ?_
      rintro e V1 hr
      obtain ⟨Aa, za, ka, rfl, -, -, -, hb⟩ := RetMx.liesM (M := 0) hr rfl
      have X1 := Lib.hid hb
      clear hr hb
      go_wp2_with fail
      refine (L_no _ (HNo.out.below X1.out)).mono ?_
      rintro e V2 hr
      obtain ⟨Ab, zb, kb, rfl, -, -, -, hb⟩ := RetMx.liesM (M := 0) hr rfl
      have X2 := Lib.hid (X1.out.trans (hb.mono X1.out.size))
      clear hr hb
      go_wp2_with fail
      refine (U_no _ (HNo.out.below X2.out)).mono ?_
      rintro e V3 hr
      obtain ⟨Ac, zc, kc, rfl, -, -, -, hb⟩ := RetMx.liesM (M := 0) hr rfl
      have X3 := Lib.hid (X2.out.trans (hb.mono X2.out.size))
      clear hr hb
      go_wp2_with fail
      refine (U_no _ (HNo.out.below X3.out)).mono ?_
      rintro e V4 hr
      obtain ⟨Ad, zd, kd, rfl, -, -, -, hb⟩ := RetMx.liesM (M := 0) hr rfl
      have X4 := Lib.hid (X3.out.trans (hb.mono X3.out.size))
      clear hr hb
      go_wp2_with fail
      refine (Pivots_no _ (HNo.out.below X4.out)).mono ?_
      rintro e w' ⟨rfl, rfl⟩
      go_wp2
      go_roundw
      case rel => exact ⟨k + 1, by omega, by go_num, HBw.out.trans (X4.out.mono HBw.out.size)⟩
      case measure => simp [intOf]; omega
    · have e : k = 2 := by omega
      subst e
      clear hb hrow hlow r0 r1 l0 hlt
      go_wp2_with fail
      refine (awake9_c _).mono ?_
      rintro e V1 ⟨rfl, hb⟩
      have X1 := Lib.hid (HBf.out.trans (hb.mono HBf.out.size))
      clear hb
      go_wp2
      go_ret
      exact ⟨rfl, X1.out⟩
end Go.Proofs.Ytibjkmjccelcaaa
