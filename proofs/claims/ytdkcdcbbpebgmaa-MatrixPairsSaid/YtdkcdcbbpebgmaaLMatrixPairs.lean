/- Layer 7: of every two matrices sum, difference, product and so on, the code's and the document's (gridworklaw07.MatrixPairs): the walk. -/
import Derived.Test.YtdkcdcbbpebgmaaTL
import Derived.Test.YtdkcdcbbpebgmaaArg
import Derived.Test.YtdkcdcbbpebgmaaFr
namespace Go.Proofs.Ytdkcdcbbpebgmaa
open Go.RowKit Fl Ieee
set_option maxRecDepth 100000
attribute [local go_sem] run_store_float run_store_complex Fl.order_self Fl.order_self' Fl.order_eq Fl.order_ne Fl.order_lt Fl.order_gt
set_option maxHeartbeats 32000000 in
theorem Pairs_small (R0 C0 R1 C1 : Int) (A0 A1 : Option Addr) (l0 l1 : List C) (k0 k1 : Nat) (i j : Int) (w : World) (hl0 : l0.length ≤ 4098) (hl1 : l1.length ≤ 4098) (hr0 : Reads w w.heap.size A0 (zcells l0)) (hr1 : Reads w w.heap.size A1 (zcells l1)) (lt0 : ltCs l0) (lt1 : ltCs l1)
    (p1 q1 e1 p2 q2 e2 p3 q3 e3 p4 q4 e4 p5 q5 e5 p6 q6 e6 v3 : Int) (L1 L2 L3 L4 L5 L6 : List C) (b1 b2 b4 : Bool)
    (h1 : Ans2 29 R0 C0 R1 C1 l0 l1 p1 q1 L1 e1) (h1' : Ans2 35 R0 C0 R1 C1 l0 l1 p1 q1 L1 e1) (hm1 : L1.length ≤ 4096)
    (h2 : Ans2 30 R0 C0 R1 C1 l0 l1 p2 q2 L2 e2) (h2' : Ans2 36 R0 C0 R1 C1 l0 l1 p2 q2 L2 e2) (hm2 : L2.length ≤ 4096)
    (h3 : Ans2 31 R0 C0 R1 C1 l0 l1 p3 q3 L3 e3) (h3' : Ans2 37 R0 C0 R1 C1 l0 l1 p3 q3 L3 e3) (hm3 : L3.length ≤ 4096)
    (h4 : Ans1 32 R0 C0 l0 p4 q4 L4 e4) (h4' : Ans1 38 R0 C0 l0 p4 q4 L4 e4) (hm4 : L4.length ≤ 4096)
    (h5 : Ans1 33 R0 C0 l0 p5 q5 L5 e5) (h5' : Ans1 39 R0 C0 l0 p5 q5 L5 e5) (hm5 : L5.length ≤ 4096)
    (h6 : AnsS 34 i j R0 C0 l0 p6 q6 L6 e6) (h6' : AnsS 40 i j R0 C0 l0 p6 q6 L6 e6) (hm6 : L6.length ≤ 4096)
    (t1 : Tst2 42 R0 C0 R1 C1 l0 l1 b1) (t1' : Tst2 43 R0 C0 R1 C1 l0 l1 b1) (t2 : Tst2 44 R0 C0 R1 C1 l0 l1 b2) (t2' : Tst2 45 R0 C0 R1 C1 l0 l1 b2)
    (t3 : TstC 46 R0 C0 l0.length v3) (t3' : TstC 47 R0 C0 l0.length v3) (t4 : Tst1 48 R0 C0 l0 b4) (t4' : Tst1 49 R0 C0 l0 b4) :
    Calls Try.prog 4 #[mval R0 C0 (.slice A0 l0.length k0), mval R1 C1 (.slice A1 l1.length k1), .int .i64 i, .int .i64 j] w (RetBB true w) := by
  have hd0 : decide ((l0.length : Int) > 4098) = false := by simp; omega
  have hd1 : decide ((l1.length : Int) > 4098) = false := by simp; omega
  have HL0 := Lib.hid (large_c R0 C0 A0 l0.length k0)
  have HL1 := Lib.hid (large_c R1 C1 A1 l1.length k1)
  rw [hd0] at HL0
  rw [hd1] at HL1
  have HR0 := Lib.hid hr0
  have HR1 := Lib.hid hr1
  have HLn0 := Lib.hid (Nat.le_trans hl0 (by omega : 4098 ≤ 1000000))
  have HLn1 := Lib.hid (Nat.le_trans hl1 (by omega : 4098 ≤ 1000000))
  have HLo0 := Lib.hid hl0
  have HLo1 := Lib.hid hl1
  have LT0 := Lib.hid lt0
  have LT1 := Lib.hid lt1
  have H1 := Lib.hid h1
  have H1' := Lib.hid h1'
  have HM1 := Lib.hid hm1
  have H2 := Lib.hid h2
  have H2' := Lib.hid h2'
  have HM2 := Lib.hid hm2
  have H3 := Lib.hid h3
  have H3' := Lib.hid h3'
  have HM3 := Lib.hid hm3
  have H4 := Lib.hid h4
  have H4' := Lib.hid h4'
  have HM4 := Lib.hid hm4
  have H5 := Lib.hid h5
  have H5' := Lib.hid h5'
  have HM5 := Lib.hid hm5
  have H6 := Lib.hid h6
  have H6' := Lib.hid h6'
  have HM6 := Lib.hid hm6
  have T1 := Lib.hid t1
  have T1' := Lib.hid t1'
  have T2 := Lib.hid t2
  have T2' := Lib.hid t2'
  have T3 := Lib.hid t3
  have T3' := Lib.hid t3'
  have T4 := Lib.hid t4
  have T4' := Lib.hid t4'
  clear hd0 hd1 hr0 hr1 lt0 lt1 h1 h1' hm1 h2 h2' hm2 h3 h3' hm3 h4 h4' hm4 h5 h5' hm5 h6 h6' hm6 t1 t1' t2 t2' t3 t3' t4 t4'
  go_enter Try.func4, Try.ntmps4
  go_wp2_with fail
  refine (HL0.out _).mono ?_
  rintro e W2 ⟨rfl, h1⟩
  obtain ⟨bx, by_, hb1, hs1⟩ := frame2b h1
  have HX2 := Lib.hid bx
  have HY2 := Lib.hid by_
  have HS2 := Lib.hid hs1
  have HB2 := Lib.hid hb1
  obtain ⟨x3, x4, x5⟩ := bx
  obtain ⟨y3, y4, y5⟩ := by_
  clear h1 hb1 hs1 HL0
  go_wp2_with fail
  refine (HL1.out _).mono ?_
  rintro e W3 ⟨rfl, hb3⟩
  have l0 : w.heap.size < W2.heap.size := by have := HS2.out; omega
  have l1 : w.heap.size + 1 < W2.heap.size := by have := HS2.out; omega
  have hX3 := Box.below HX2.out hb3 l0
  have hY3 := Box.below HY2.out hb3 l1
  have HX3 := Lib.hid hX3
  have HY3 := Lib.hid hY3
  have HB3 := Lib.hid (HB2.out.trans (hb3.mono (Nat.le_of_lt l0)))
  have HS3 := Lib.hid (Nat.le_trans HS2.out hb3.size)
  obtain ⟨x6, x7, x8⟩ := hX3
  obtain ⟨y6, y7, y8⟩ := hY3
  clear x3 x4 x5 y3 y4 y5 hb3 l0 l1 HL1
  clear HX2 HY2 HS2 HB2
  have hp0 : ∀ Z, Below W3.heap.size W3 Z → Calls Try.prog 9 #[mval R0 C0 (.slice A0 l0.length k0)] Z (fun e w' => ∃ sA sn sc, e = .returned (mval R0 C0 (.slice sA sn sc)) ∧ OwnIn w' Z.heap.size w'.heap.size (.slice sA sn sc) l0.length (nums l0) ∧ Below Z.heap.size Z w' ∧ Below W3.heap.size W3 w') := fun Z hZ => by
    refine (plain_c R0 C0 A0 l0 k0 Z (by omega) ((HR0.out.below (HB3.out.trans (hZ.mono HB3.out.size))).more (Nat.le_trans HB3.out.size hZ.size))).mono ?_
    rintro e w' ⟨s, rfl, hown, hb⟩
    obtain ⟨sA, sn, sc, rfl, -⟩ := slice_of_own hown
    exact ⟨sA, sn, sc, rfl, OwnIn.of hown, hb, hZ.trans (hb.mono hZ.size)⟩
  have HP0 := Lib.hid hp0
  have hp1 : ∀ Z, Below W3.heap.size W3 Z → Calls Try.prog 9 #[mval R1 C1 (.slice A1 l1.length k1)] Z (fun e w' => ∃ sA sn sc, e = .returned (mval R1 C1 (.slice sA sn sc)) ∧ OwnIn w' Z.heap.size w'.heap.size (.slice sA sn sc) l1.length (nums l1) ∧ Below Z.heap.size Z w' ∧ Below W3.heap.size W3 w') := fun Z hZ => by
    refine (plain_c R1 C1 A1 l1 k1 Z (by omega) ((HR1.out.below (HB3.out.trans (hZ.mono HB3.out.size))).more (Nat.le_trans HB3.out.size hZ.size))).mono ?_
    rintro e w' ⟨s, rfl, hown, hb⟩
    obtain ⟨sA, sn, sc, rfl, -⟩ := slice_of_own hown
    exact ⟨sA, sn, sc, rfl, OwnIn.of hown, hb, hZ.trans (hb.mono hZ.size)⟩
  have HP1 := Lib.hid hp1
  have hk : ∀ w', Below W3.heap.size W3 w' → w'.cell? ⟨w.heap.size, 0, none⟩ = some (.int .i64 R0) ∧ w'.cell? ⟨w.heap.size, 1, none⟩ = some (.int .i64 C0) ∧ w'.cell? ⟨w.heap.size, 2, none⟩ = some (.slice A0 l0.length k0) ∧
      w'.cell? ⟨w.heap.size + 1, 0, none⟩ = some (.int .i64 R1) ∧ w'.cell? ⟨w.heap.size + 1, 1, none⟩ = some (.int .i64 C1) ∧ w'.cell? ⟨w.heap.size + 1, 2, none⟩ = some (.slice A1 l1.length k1) := fun w' h => by
    have l0 : w.heap.size < W3.heap.size := by have := HS3.out; omega
    have l1 : w.heap.size + 1 < W3.heap.size := by have := HS3.out; omega
    obtain ⟨a, b, c⟩ := Box.below HX3.out h l0
    obtain ⟨d, e, f⟩ := Box.below HY3.out h l1
    exact ⟨a, b, c, d, e, f⟩
  have HK := Lib.hid hk
  clear hk hp0 hp1
  go_wp2_with fail
  go_cut [9, 10] (fun s9 s10 wx => TwoR R0 C0 R1 C1 l0 l1 w s9 s10 wx)
  case first =>
    go_region_held3 (fun w' => w'.cell? ⟨w.heap.size, 0, none⟩ = some (.int .i64 R0) ∧ w'.cell? ⟨w.heap.size, 1, none⟩ = some (.int .i64 C0) ∧ w'.cell? ⟨w.heap.size, 2, none⟩ = some (.slice A0 l0.length k0) ∧
      w'.cell? ⟨w.heap.size + 1, 0, none⟩ = some (.int .i64 R1) ∧ w'.cell? ⟨w.heap.size + 1, 1, none⟩ = some (.int .i64 C1) ∧ w'.cell? ⟨w.heap.size + 1, 2, none⟩ = some (.slice A1 l1.length k1))
      (exact HK.out _ (by repeat (first | with_reducible assumption | with_reducible refine Below.setCell ?_ (by show W3.heap.size ≤ _; first | exact Nat.le_refl _ | exact Nat.le_succ _ | exact Below.size (B := W3.heap.size) (by assumption) | exact Nat.le_succ_of_le (Below.size (B := W3.heap.size) (by assumption))) _ | with_reducible refine Below.new ?_ (Nat.le_refl _) _ | with_reducible refine Below.drew ?_ | with_reducible exact Below.refl _ _)))
      (first
      | (go_at_call 9; (with_reducible refine (HP0.out _ ?_).mono ?_); (repeat (first | with_reducible assumption | with_reducible refine Below.setCell ?_ (by show W3.heap.size ≤ _; first | exact Nat.le_refl _ | exact Nat.le_succ _ | exact Below.size (B := W3.heap.size) (by assumption) | exact Nat.le_succ_of_le (Below.size (B := W3.heap.size) (by assumption))) _ | with_reducible refine Below.new ?_ (Nat.le_refl _) _ | with_reducible refine Below.drew ?_ | with_reducible exact Below.refl _ _)); (rintro e V ⟨sA, sn, sc, rfl, hown0, hZ0, hV⟩); have e0 := hZ0.size; (try simp at e0); (try (have ra0 := row_keep (b := W3.heap.size) (o := zrow) hZ0 (by first | exact heap_alloc_new _ _ | exact row_alloc (heap_alloc_new _ _)))); (try (have ra1 := row_keep (b := W3.heap.size + 1) (o := zrow) hZ0 (by first | exact row_new2 _ _ _))))
      | (go_at_call 9; (with_reducible refine (HP1.out _ ?_).mono ?_); (repeat (first | with_reducible assumption | with_reducible refine Below.setCell ?_ (by show W3.heap.size ≤ _; first | exact Nat.le_refl _ | exact Nat.le_succ _ | exact Below.size (B := W3.heap.size) (by assumption) | exact Nat.le_succ_of_le (Below.size (B := W3.heap.size) (by assumption))) _ | with_reducible refine Below.new ?_ (Nat.le_refl _) _ | with_reducible refine Below.drew ?_ | with_reducible exact Below.refl _ _)); (rintro e V' ⟨tA, tn, tc, rfl, hown1, hZ1, hV'⟩); have e1 := hZ1.size; (try simp at e1); (first | (with_reducible have hO0 := hown0.below hZ1) | (with_reducible have hO0 := (hown0.alloc zrow).below hZ1) | (with_reducible have hO0 := ((hown0.alloc zrow).alloc zrow).below hZ1)); (try (have rb0 := row_keep (b := W3.heap.size) (o := zrow) hZ1 (by first | exact ra0 | exact row_alloc ra0 | exact row_alloc (row_alloc ra0)); obtain ⟨xb0, yb0, zb0, fb0⟩ := box3 rb0; have gb0 := fb0 0; have hb0 := fb0 1; have kb0 := fb0 2; clear fb0; have Mb0 := Nat.ne_of_lt (row_lt rb0); have Nb0 := Nat.ne_of_gt (row_lt rb0); have Bb0 := fun o => box3 (row_alloc (o' := o) rb0); have Xb0 := fun o => (Bb0 o).1; have Yb0 := fun o => (Bb0 o).2.1; have Zb0 := fun o => (Bb0 o).2.2.1; have Gb0 := fun o => (Bb0 o).2.2.2 0; have Hb0 := fun o => (Bb0 o).2.2.2 1; have Kb0 := fun o => (Bb0 o).2.2.2 2; clear Bb0)); (try (have rb1 := row_keep (b := W3.heap.size + 1) (o := zrow) hZ1 (by first | exact ra1 | exact row_alloc ra1 | exact row_alloc (row_alloc ra1)); obtain ⟨xb1, yb1, zb1, fb1⟩ := box3 rb1; have gb1 := fb1 0; have hb1 := fb1 1; have kb1 := fb1 2; clear fb1; have Mb1 := Nat.ne_of_lt (row_lt rb1); have Nb1 := Nat.ne_of_gt (row_lt rb1); have Bb1 := fun o => box3 (row_alloc (o' := o) rb1); have Xb1 := fun o => (Bb1 o).1; have Yb1 := fun o => (Bb1 o).2.1; have Zb1 := fun o => (Bb1 o).2.2.1; have Gb1 := fun o => (Bb1 o).2.2.2 0; have Hb1 := fun o => (Bb1 o).2.2.2 1; have Kb1 := fun o => (Bb1 o).2.2.2 2; clear Bb1)); (try (have rb2 := row_keep (b := V.heap.size) (o := zrow) hZ1 (by first | exact heap_alloc_new _ _ | exact row_alloc (heap_alloc_new _ _)); obtain ⟨xb2, yb2, zb2, fb2⟩ := box3 rb2; have gb2 := fb2 0; have hb2 := fb2 1; have kb2 := fb2 2; clear fb2; have Mb2 := Nat.ne_of_lt (row_lt rb2); have Nb2 := Nat.ne_of_gt (row_lt rb2); have Bb2 := fun o => box3 (row_alloc (o' := o) rb2); have Xb2 := fun o => (Bb2 o).1; have Yb2 := fun o => (Bb2 o).2.1; have Zb2 := fun o => (Bb2 o).2.2.1; have Gb2 := fun o => (Bb2 o).2.2.2 0; have Hb2 := fun o => (Bb2 o).2.2.2 1; have Kb2 := fun o => (Bb2 o).2.2.2 2; clear Bb2)); (try (have rb3 := row_keep (b := V.heap.size + 1) (o := zrow) hZ1 (by first | exact row_new2 _ _ _); obtain ⟨xb3, yb3, zb3, fb3⟩ := box3 rb3; have gb3 := fb3 0; have hb3 := fb3 1; have kb3 := fb3 2; clear fb3; have Mb3 := Nat.ne_of_lt (row_lt rb3); have Nb3 := Nat.ne_of_gt (row_lt rb3); have Bb3 := fun o => box3 (row_alloc (o' := o) rb3); have Xb3 := fun o => (Bb3 o).1; have Yb3 := fun o => (Bb3 o).2.1; have Zb3 := fun o => (Bb3 o).2.2.1; have Gb3 := fun o => (Bb3 o).2.2.2 0; have Hb3 := fun o => (Bb3 o).2.2.2 1; have Kb3 := fun o => (Bb3 o).2.2.2 2; clear Bb3))))
    all_goals
      as_aux_lemma =>
        have hO1 := hown1
        clear HP0 HP1 HK
        go_wp2_with fail
        go_meet
        first
          | (with_reducible refine two_set (X := V') hO0 hO1 ?_ ?_ ?_ ?_ ?_ ?_ ?_ ?_ ?_ ?_; all_goals (first | with_reducible exact rb0 | with_reducible exact rb1 | with_reducible exact rb2 | with_reducible exact rb3 | (with_reducible refine Below.trans HB3.out (Below.mono (B := W3.heap.size) ?_ HB3.out.size); repeat (first | with_reducible assumption | with_reducible refine Below.setCell ?_ (by show W3.heap.size ≤ _; first | exact Nat.le_refl _ | exact Nat.le_succ _ | exact Below.size (B := W3.heap.size) (by assumption) | exact Nat.le_succ_of_le (Below.size (B := W3.heap.size) (by assumption))) _ | with_reducible refine Below.new ?_ (Nat.le_refl _) _ | with_reducible refine Below.drew ?_ | with_reducible exact Below.refl _ _)) | (simp; done) | (simp; omega) | omega))
          | (with_reducible refine two_set (X := V'.alloc zrow) (hO0.alloc zrow) (hO1.alloc zrow) ?_ ?_ ?_ ?_ ?_ ?_ ?_ ?_ ?_ ?_; all_goals (first | with_reducible exact row_alloc rb0 | with_reducible exact row_alloc rb1 | with_reducible exact row_alloc rb2 | with_reducible exact row_alloc rb3 | with_reducible exact heap_alloc_new _ _ | (with_reducible refine Below.trans HB3.out (Below.mono (B := W3.heap.size) ?_ HB3.out.size); repeat (first | with_reducible assumption | with_reducible refine Below.setCell ?_ (by show W3.heap.size ≤ _; first | exact Nat.le_refl _ | exact Nat.le_succ _ | exact Below.size (B := W3.heap.size) (by assumption) | exact Nat.le_succ_of_le (Below.size (B := W3.heap.size) (by assumption))) _ | with_reducible refine Below.new ?_ (Nat.le_refl _) _ | with_reducible refine Below.drew ?_ | with_reducible exact Below.refl _ _)) | (simp; done) | (simp; omega) | omega))
          | (with_reducible refine two_new_set (X := V') hO0 hO1 ?_ ?_ ?_ ?_ ?_ ?_ ?_; all_goals (first | with_reducible exact rb0 | with_reducible exact rb1 | with_reducible exact rb2 | with_reducible exact rb3 | (with_reducible refine Below.trans HB3.out (Below.mono (B := W3.heap.size) ?_ HB3.out.size); repeat (first | with_reducible assumption | with_reducible refine Below.setCell ?_ (by show W3.heap.size ≤ _; first | exact Nat.le_refl _ | exact Nat.le_succ _ | exact Below.size (B := W3.heap.size) (by assumption) | exact Nat.le_succ_of_le (Below.size (B := W3.heap.size) (by assumption))) _ | with_reducible refine Below.new ?_ (Nat.le_refl _) _ | with_reducible refine Below.drew ?_ | with_reducible exact Below.refl _ _)) | (simp; done) | (simp; omega) | omega))
          | (with_reducible refine two_new (X := V') hO0 hO1 ?_ ?_ ?_ ?_ ?_; all_goals (first | with_reducible exact rb0 | with_reducible exact rb1 | with_reducible exact rb2 | with_reducible exact rb3 | (with_reducible refine Below.trans HB3.out (Below.mono (B := W3.heap.size) ?_ HB3.out.size); repeat (first | with_reducible assumption | with_reducible refine Below.setCell ?_ (by show W3.heap.size ≤ _; first | exact Nat.le_refl _ | exact Nat.le_succ _ | exact Below.size (B := W3.heap.size) (by assumption) | exact Nat.le_succ_of_le (Below.size (B := W3.heap.size) (by assumption))) _ | with_reducible refine Below.new ?_ (Nat.le_refl _) _ | with_reducible refine Below.drew ?_ | with_reducible exact Below.refl _ _)) | (simp; done) | (simp; omega) | omega))
          | (with_reducible refine two_new' (X := V') hO0 hO1 ?_ ?_ ?_ ?_ ?_; all_goals (first | with_reducible exact rb0 | with_reducible exact rb1 | with_reducible exact rb2 | with_reducible exact rb3 | (with_reducible refine Below.trans HB3.out (Below.mono (B := W3.heap.size) ?_ HB3.out.size); repeat (first | with_reducible assumption | with_reducible refine Below.setCell ?_ (by show W3.heap.size ≤ _; first | exact Nat.le_refl _ | exact Nat.le_succ _ | exact Below.size (B := W3.heap.size) (by assumption) | exact Nat.le_succ_of_le (Below.size (B := W3.heap.size) (by assumption))) _ | with_reducible refine Below.new ?_ (Nat.le_refl _) _ | with_reducible refine Below.drew ?_ | with_reducible exact Below.refl _ _)) | (simp; done) | (simp; omega) | omega))
  case rest =>
    as_aux_lemma =>
      obtain ⟨bX, bY, A, B, kx, ky, rfl, rfl, hX0, hY0, hB0⟩ := hcut
      rename World => W0
      clear HX3 HY3 HS3 HB3 HP0 HP1 HK x6 x7 x8 y6 y7 y8 hl0 hl1 HR0 HR1
      have BE0 := Lib.hid hB0
      have HX0 := Lib.hid hX0
      have HY0 := Lib.hid hY0
      obtain ⟨⟨xa, xb, xc⟩, -⟩ := hX0
      clear hB0 hY0
      go_wp2_with fail
      refine (Lentq_c R0 C0 A l0 kx _ HLn0.out ⟨HX0.out.2.2.1, HX0.out.2.2.2.1, HX0.out.2.2.2.2, LT0.out⟩).mono ?_
      rintro e W1 ⟨gP, zp, zf, pc, rfl, hz, hlz, hown, hzf, hLf, hb⟩
      clear xa xb xc
      have HX1 := Lib.hid (HX0.out.below hb)
      have HY1 := Lib.hid (HY0.out.below hb)
      have BE1 := Lib.hid (BE0.out.trans (hb.mono BE0.out.size))
      have SZ1 := Lib.hid hb.size
      have BS0 := Lib.hid BE0.out.size
      have HXl := Lib.hid HX0.out.2.1
      have HYl := Lib.hid HY0.out.2.1
      have HZP := Lib.hid hz
      have HTP := Lib.hid hlz
      have OWNP := Lib.hid hown
      have HZF := Lib.hid hzf
      have Lf1 := Lib.hid hLf
      clear HX0 HY0 BE0 hz hlz hown hzf hLf hb
      have ya := fun o => (HY1.out.alloc o).1.1
      have yb := fun o => (HY1.out.alloc o).1.2.1
      have yc := fun o => (HY1.out.alloc o).1.2.2
      go_wp2_with fail
      refine (Lentq_c R1 C1 B l1 ky _ HLn1.out ⟨(HY1.out.alloc _).2.2.1, HY1.out.2.2.2.1, HY1.out.2.2.2.2, LT1.out⟩).mono ?_
      rintro e W2 ⟨gQ, zq, zo, qc, rfl, hz, hlz, hown, hzf, hLo, hb⟩
      clear ya yb yc
      obtain ⟨-, hP2, hq⟩ := Has.new OWNP.out hb
      have HX2 := Lib.hid (HX1.out.below hq)
      have HY2 := Lib.hid (HY1.out.below hq)
      have HP2 := Lib.hid hP2
      have Lf2 := Lib.hid (Lf1.out.below hq)
      have BE2 := Lib.hid (BE1.out.trans (hq.mono BE1.out.size))
      have SZ2 := Lib.hid hb.size
      have HZQ := Lib.hid hz
      have HTQ := Lib.hid hlz
      have OWNQ := Lib.hid hown
      have HZO := Lib.hid hzf
      have Lo2 := Lib.hid (Lst.weak hLo (below_new W1 _).size)
      have hQa := (Has.new (t := 28) (r := R1) (c := C1) OWNQ.out (Below.refl _ _)).2.1
      have HQa := Lib.hid hQa
      clear HX1 HY1 OWNP Lf1 BE1 hz hlz hown hzf hLo hb hq hP2 hQa
      have pa := fun o o' => ((HP2.out.alloc o).alloc o').1.1
      have pb := fun o o' => ((HP2.out.alloc o).alloc o').1.2.1
      have pcc := fun o o' => ((HP2.out.alloc o).alloc o').1.2.2
      have qa := fun o' => (HQa.out.alloc o').1.1
      have qb := fun o' => (HQa.out.alloc o').1.2.1
      have qcc := fun o' => (HQa.out.alloc o').1.2.2
      go_wp2_with fail
      clear pa pb pcc qa qb qcc
      obtain ⟨W3, hW3⟩ : ∃ W3, W3 = (W2.alloc (.cells #[.int .i64 R1, .int .i64 C1, .slice (some ⟨gQ, 0, none⟩) zq.length qc] 28)).alloc (.cells #[.slice none 0 0, .slice none 0 0] 53) := ⟨_, rfl⟩
      rw [← hW3]
      have hb3 : Below W2.heap.size W2 W3 := by rw [hW3]; exact (below_new _ _).new (Nat.le_refl _) _
      have hQ3 : Has W3 W2.heap.size R1 C1 (some ⟨gQ, 0, none⟩) zq qc := by rw [hW3]; exact HQa.out.alloc _
      have hT3 : W3.heap[W2.heap.size + 1]? = some (.cells #[.slice none 0 0, .slice none 0 0] 53) := by rw [hW3]; exact row_new2 _ _ _
      have hs3 : W3.heap.size = W2.heap.size + 2 := by rw [hW3]; simp
      have HX3 := Lib.hid (HX2.out.below hb3)
      have HY3 := Lib.hid (HY2.out.below hb3)
      have HP3 := Lib.hid (HP2.out.below hb3)
      have HQ3 := Lib.hid hQ3
      have RX3 := Lib.hid (HX2.out.2.2.1.below hb3)
      have RY3 := Lib.hid (HY2.out.2.2.1.below hb3)
      have RP3 := Lib.hid (HP2.out.2.2.1.below hb3)
      have RQ3 := Lib.hid ((Reads.of_own OWNQ.out).below hb3)
      have HT3 := Lib.hid hT3
      have HS3 := Lib.hid hs3
      have Lf3 := Lib.hid (Lf2.out.below hb3)
      have Lo3 := Lib.hid (Lo2.out.below hb3)
      have BE3 := Lib.hid (BE2.out.trans (hb3.mono BE2.out.size))
      have BS2 := Lib.hid BE2.out.size
      have BC3 := Lib.hid (Below.refl W3.heap.size W3)
      clear hW3 hb3 hQ3 hT3 hs3 HX2 HY2 HP2 OWNQ Lf2 Lo2 BE2 HQa
      refine (H1.out _ _ zp zq pc qc _ HZP.out HZQ.out HP3.out.2.2.1 HQ3.out.2.2.1).mono ?_
      rintro e W4 ⟨sA1, s1, sc1, rfl, hz, hlz, hL, hb⟩
      have hq := hb
      have BC4 := Lib.hid (BC3.out.trans (hq.mono BC3.out.size))
      have SZ4 := Lib.hid hq.size
      have SC4 := Lib.hid BC4.out.size
      clear BC3
      have HZ1 := Lib.hid hz
      have HL1 := Lib.hid (Lst.weak hL (Nat.le_refl W3.heap.size))
      clear hz hlz hL hb hq
      have hp := Lib.hid (HP3.out.below BC4.out)
      have p0 := fun o => (hp.out.alloc o).1.1
      have p1 := fun o => (hp.out.alloc o).1.2.1
      have p2 := fun o => (hp.out.alloc o).1.2.2
      have hq := Lib.hid (HQ3.out.below BC4.out)
      have q0 := fun o => (hq.out.alloc o).1.1
      have q1 := fun o => (hq.out.alloc o).1.2.1
      have q2 := fun o => (hq.out.alloc o).1.2.2
      go_wp2_with fail
      refine (H2.out _ _ zp zq pc qc _ HZP.out HZQ.out (hp.out.alloc _).2.2.1 (hq.out.alloc _).2.2.1).mono ?_
      rintro e W5 ⟨sA2, s2, sc2, rfl, hz, hlz, hL, hb⟩
      clear hp p0 p1 p2 hq q0 q1 q2
      obtain ⟨hm, hq⟩ := MI.new HL1.out hb
      have M1x5 := Lib.hid (show (⟨W4.heap.size, p1, q1, sA1, s1, sc1, W3.heap.size, W4.heap.size⟩ : MI).At W5 from hm)
      clear hm HL1
      have BC5 := Lib.hid (BC4.out.trans (hq.mono BC4.out.size))
      have SZ5 := Lib.hid hq.size
      have SC5 := Lib.hid BC5.out.size
      clear BC4
      have HZ2 := Lib.hid hz
      have HL2 := Lib.hid (Lst.weak hL (below_new W4 _).size)
      clear hz hlz hL hb hq
      have hp := Lib.hid (HP3.out.below BC5.out)
      have p0 := fun o => (hp.out.alloc o).1.1
      have p1 := fun o => (hp.out.alloc o).1.2.1
      have p2 := fun o => (hp.out.alloc o).1.2.2
      have hq := Lib.hid (HQ3.out.below BC5.out)
      have q0 := fun o => (hq.out.alloc o).1.1
      have q1 := fun o => (hq.out.alloc o).1.2.1
      have q2 := fun o => (hq.out.alloc o).1.2.2
      go_wp2_with fail
      refine (H3.out _ _ zp zq pc qc _ HZP.out HZQ.out (hp.out.alloc _).2.2.1 (hq.out.alloc _).2.2.1).mono ?_
      rintro e W6 ⟨sA3, s3, sc3, rfl, hz, hlz, hL, hb⟩
      clear hp p0 p1 p2 hq q0 q1 q2
      obtain ⟨hm, hq⟩ := MI.new HL2.out hb
      have M2x6 := Lib.hid (show (⟨W5.heap.size, p2, q2, sA2, s2, sc2, W4.heap.size, W5.heap.size⟩ : MI).At W6 from hm)
      have M1x6 := Lib.hid (M1x5.out.below hq)
      clear M1x5
      clear hm HL2
      have BC6 := Lib.hid (BC5.out.trans (hq.mono BC5.out.size))
      have SZ6 := Lib.hid hq.size
      have SC6 := Lib.hid BC6.out.size
      clear BC5
      have HZ3 := Lib.hid hz
      have HL3 := Lib.hid (Lst.weak hL (below_new W5 _).size)
      clear hz hlz hL hb hq
      have hp := Lib.hid (HP3.out.below BC6.out)
      have p0 := fun o => (hp.out.alloc o).1.1
      have p1 := fun o => (hp.out.alloc o).1.2.1
      have p2 := fun o => (hp.out.alloc o).1.2.2
      go_wp2_with fail
      refine (H4.out _ zp pc _ HZP.out HTP.out (hp.out.alloc _).2.2.1).mono ?_
      rintro e W7 ⟨sA4, s4, sc4, rfl, hz, hlz, hL, hb⟩
      clear hp p0 p1 p2
      obtain ⟨hm, hq⟩ := MI.new HL3.out hb
      have M3x7 := Lib.hid (show (⟨W6.heap.size, p3, q3, sA3, s3, sc3, W5.heap.size, W6.heap.size⟩ : MI).At W7 from hm)
      have M1x7 := Lib.hid (M1x6.out.below hq)
      clear M1x6
      have M2x7 := Lib.hid (M2x6.out.below hq)
      clear M2x6
      clear hm HL3
      have BC7 := Lib.hid (BC6.out.trans (hq.mono BC6.out.size))
      have SZ7 := Lib.hid hq.size
      have SC7 := Lib.hid BC7.out.size
      clear BC6
      have HZ4 := Lib.hid hz
      have HL4 := Lib.hid (Lst.weak hL (below_new W6 _).size)
      clear hz hlz hL hb hq
      have hp := Lib.hid (HP3.out.below BC7.out)
      have p0 := fun o => (hp.out.alloc o).1.1
      have p1 := fun o => (hp.out.alloc o).1.2.1
      have p2 := fun o => (hp.out.alloc o).1.2.2
      go_wp2_with fail
      refine (H5.out _ zp pc _ HZP.out HTP.out (hp.out.alloc _).2.2.1).mono ?_
      rintro e W8 ⟨sA5, s5, sc5, rfl, hz, hlz, hL, hb⟩
      clear hp p0 p1 p2
      obtain ⟨hm, hq⟩ := MI.new HL4.out hb
      have M4x8 := Lib.hid (show (⟨W7.heap.size, p4, q4, sA4, s4, sc4, W6.heap.size, W7.heap.size⟩ : MI).At W8 from hm)
      have M1x8 := Lib.hid (M1x7.out.below hq)
      clear M1x7
      have M2x8 := Lib.hid (M2x7.out.below hq)
      clear M2x7
      have M3x8 := Lib.hid (M3x7.out.below hq)
      clear M3x7
      clear hm HL4
      have BC8 := Lib.hid (BC7.out.trans (hq.mono BC7.out.size))
      have SZ8 := Lib.hid hq.size
      have SC8 := Lib.hid BC8.out.size
      clear BC7
      have HZ5 := Lib.hid hz
      have HL5 := Lib.hid (Lst.weak hL (below_new W7 _).size)
      clear hz hlz hL hb hq
      have hp := Lib.hid (HP3.out.below BC8.out)
      have p0 := fun o => (hp.out.alloc o).1.1
      have p1 := fun o => (hp.out.alloc o).1.2.1
      have p2 := fun o => (hp.out.alloc o).1.2.2
      go_wp2_with fail
      refine (H6.out _ zp pc _ HZP.out HTP.out (hp.out.alloc _).2.2.1).mono ?_
      rintro e W9 ⟨sA6, s6, sc6, rfl, hz, hlz, hL, hb⟩
      clear hp p0 p1 p2
      obtain ⟨hm, hq⟩ := MI.new HL5.out hb
      have M5x9 := Lib.hid (show (⟨W8.heap.size, p5, q5, sA5, s5, sc5, W7.heap.size, W8.heap.size⟩ : MI).At W9 from hm)
      have M1x9 := Lib.hid (M1x8.out.below hq)
      clear M1x8
      have M2x9 := Lib.hid (M2x8.out.below hq)
      clear M2x8
      have M3x9 := Lib.hid (M3x8.out.below hq)
      clear M3x8
      have M4x9 := Lib.hid (M4x8.out.below hq)
      clear M4x8
      clear hm HL5
      have BC9 := Lib.hid (BC8.out.trans (hq.mono BC8.out.size))
      have SZ9 := Lib.hid hq.size
      have SC9 := Lib.hid BC9.out.size
      clear BC8
      have HZ6 := Lib.hid hz
      have HL6 := Lib.hid (Lst.weak hL (below_new W8 _).size)
      clear hz hlz hL hb hq
      have hx := Lib.hid (HX3.out.below BC9.out)
      have x0 := fun o => (hx.out.alloc o).1.1
      have x1 := fun o => (hx.out.alloc o).1.2.1
      have x2 := fun o => (hx.out.alloc o).1.2.2
      have hy := Lib.hid (HY3.out.below BC9.out)
      have y0 := fun o => (hy.out.alloc o).1.1
      have y1 := fun o => (hy.out.alloc o).1.2.1
      have y2 := fun o => (hy.out.alloc o).1.2.2
      go_wp2_with fail
      refine (H1'.out _ _ l0 l1 kx ky _ rfl rfl (hx.out.alloc _).2.2.1 (hy.out.alloc _).2.2.1).mono ?_
      rintro e W10 ⟨sA7, s7, sc7, rfl, hz, hlz, hL, hb⟩
      clear hx x0 x1 x2 hy y0 y1 y2
      obtain ⟨hm, hq⟩ := MI.new HL6.out hb
      have M6x10 := Lib.hid (show (⟨W9.heap.size, p6, q6, sA6, s6, sc6, W8.heap.size, W9.heap.size⟩ : MI).At W10 from hm)
      have M1x10 := Lib.hid (M1x9.out.below hq)
      clear M1x9
      have M2x10 := Lib.hid (M2x9.out.below hq)
      clear M2x9
      have M3x10 := Lib.hid (M3x9.out.below hq)
      clear M3x9
      have M4x10 := Lib.hid (M4x9.out.below hq)
      clear M4x9
      have M5x10 := Lib.hid (M5x9.out.below hq)
      clear M5x9
      clear hm HL6
      have BC10 := Lib.hid (BC9.out.trans (hq.mono BC9.out.size))
      have SZ10 := Lib.hid hq.size
      have SC10 := Lib.hid BC10.out.size
      clear BC9
      have HZ7 := Lib.hid hz
      have HL7 := Lib.hid (Lst.weak hL (below_new W9 _).size)
      clear hz hlz hL hb hq
      have hx := Lib.hid (HX3.out.below BC10.out)
      have x0 := fun o => (hx.out.alloc o).1.1
      have x1 := fun o => (hx.out.alloc o).1.2.1
      have x2 := fun o => (hx.out.alloc o).1.2.2
      have hy := Lib.hid (HY3.out.below BC10.out)
      have y0 := fun o => (hy.out.alloc o).1.1
      have y1 := fun o => (hy.out.alloc o).1.2.1
      have y2 := fun o => (hy.out.alloc o).1.2.2
      go_wp2_with fail
      refine (H2'.out _ _ l0 l1 kx ky _ rfl rfl (hx.out.alloc _).2.2.1 (hy.out.alloc _).2.2.1).mono ?_
      rintro e W11 ⟨sA8, s8, sc8, rfl, hz, hlz, hL, hb⟩
      clear hx x0 x1 x2 hy y0 y1 y2
      obtain ⟨hm, hq⟩ := MI.new HL7.out hb
      have M7x11 := Lib.hid (show (⟨W10.heap.size, p1, q1, sA7, s7, sc7, W9.heap.size, W10.heap.size⟩ : MI).At W11 from hm)
      have M1x11 := Lib.hid (M1x10.out.below hq)
      clear M1x10
      have M2x11 := Lib.hid (M2x10.out.below hq)
      clear M2x10
      have M3x11 := Lib.hid (M3x10.out.below hq)
      clear M3x10
      have M4x11 := Lib.hid (M4x10.out.below hq)
      clear M4x10
      have M5x11 := Lib.hid (M5x10.out.below hq)
      clear M5x10
      have M6x11 := Lib.hid (M6x10.out.below hq)
      clear M6x10
      clear hm HL7
      have BC11 := Lib.hid (BC10.out.trans (hq.mono BC10.out.size))
      have SZ11 := Lib.hid hq.size
      have SC11 := Lib.hid BC11.out.size
      clear BC10
      have HZ8 := Lib.hid hz
      have HL8 := Lib.hid (Lst.weak hL (below_new W10 _).size)
      clear hz hlz hL hb hq
      have hx := Lib.hid (HX3.out.below BC11.out)
      have x0 := fun o => (hx.out.alloc o).1.1
      have x1 := fun o => (hx.out.alloc o).1.2.1
      have x2 := fun o => (hx.out.alloc o).1.2.2
      have hy := Lib.hid (HY3.out.below BC11.out)
      have y0 := fun o => (hy.out.alloc o).1.1
      have y1 := fun o => (hy.out.alloc o).1.2.1
      have y2 := fun o => (hy.out.alloc o).1.2.2
      go_wp2_with fail
      refine (H3'.out _ _ l0 l1 kx ky _ rfl rfl (hx.out.alloc _).2.2.1 (hy.out.alloc _).2.2.1).mono ?_
      rintro e W12 ⟨sA9, s9, sc9, rfl, hz, hlz, hL, hb⟩
      clear hx x0 x1 x2 hy y0 y1 y2
      obtain ⟨hm, hq⟩ := MI.new HL8.out hb
      have M8x12 := Lib.hid (show (⟨W11.heap.size, p2, q2, sA8, s8, sc8, W10.heap.size, W11.heap.size⟩ : MI).At W12 from hm)
      have M1x12 := Lib.hid (M1x11.out.below hq)
      clear M1x11
      have M2x12 := Lib.hid (M2x11.out.below hq)
      clear M2x11
      have M3x12 := Lib.hid (M3x11.out.below hq)
      clear M3x11
      have M4x12 := Lib.hid (M4x11.out.below hq)
      clear M4x11
      have M5x12 := Lib.hid (M5x11.out.below hq)
      clear M5x11
      have M6x12 := Lib.hid (M6x11.out.below hq)
      clear M6x11
      have M7x12 := Lib.hid (M7x11.out.below hq)
      clear M7x11
      clear hm HL8
      have BC12 := Lib.hid (BC11.out.trans (hq.mono BC11.out.size))
      have SZ12 := Lib.hid hq.size
      have SC12 := Lib.hid BC12.out.size
      clear BC11
      have HZ9 := Lib.hid hz
      have HL9 := Lib.hid (Lst.weak hL (below_new W11 _).size)
      clear hz hlz hL hb hq
      have hx := Lib.hid (HX3.out.below BC12.out)
      have x0 := fun o => (hx.out.alloc o).1.1
      have x1 := fun o => (hx.out.alloc o).1.2.1
      have x2 := fun o => (hx.out.alloc o).1.2.2
      go_wp2_with fail
      refine (H4'.out _ l0 kx _ rfl LT0.out (hx.out.alloc _).2.2.1).mono ?_
      rintro e W13 ⟨sA10, s10, sc10, rfl, hz, hlz, hL, hb⟩
      clear hx x0 x1 x2
      obtain ⟨hm, hq⟩ := MI.new HL9.out hb
      have M9x13 := Lib.hid (show (⟨W12.heap.size, p3, q3, sA9, s9, sc9, W11.heap.size, W12.heap.size⟩ : MI).At W13 from hm)
      have M1x13 := Lib.hid (M1x12.out.below hq)
      clear M1x12
      have M2x13 := Lib.hid (M2x12.out.below hq)
      clear M2x12
      have M3x13 := Lib.hid (M3x12.out.below hq)
      clear M3x12
      have M4x13 := Lib.hid (M4x12.out.below hq)
      clear M4x12
      have M5x13 := Lib.hid (M5x12.out.below hq)
      clear M5x12
      have M6x13 := Lib.hid (M6x12.out.below hq)
      clear M6x12
      have M7x13 := Lib.hid (M7x12.out.below hq)
      clear M7x12
      have M8x13 := Lib.hid (M8x12.out.below hq)
      clear M8x12
      clear hm HL9
      have BC13 := Lib.hid (BC12.out.trans (hq.mono BC12.out.size))
      have SZ13 := Lib.hid hq.size
      have SC13 := Lib.hid BC13.out.size
      clear BC12
      have HZ10 := Lib.hid hz
      have HL10 := Lib.hid (Lst.weak hL (below_new W12 _).size)
      clear hz hlz hL hb hq
      have hx := Lib.hid (HX3.out.below BC13.out)
      have x0 := fun o => (hx.out.alloc o).1.1
      have x1 := fun o => (hx.out.alloc o).1.2.1
      have x2 := fun o => (hx.out.alloc o).1.2.2
      go_wp2_with fail
      refine (H5'.out _ l0 kx _ rfl LT0.out (hx.out.alloc _).2.2.1).mono ?_
      rintro e W14 ⟨sA11, s11, sc11, rfl, hz, hlz, hL, hb⟩
      clear hx x0 x1 x2
      obtain ⟨hm, hq⟩ := MI.new HL10.out hb
      have M10x14 := Lib.hid (show (⟨W13.heap.size, p4, q4, sA10, s10, sc10, W12.heap.size, W13.heap.size⟩ : MI).At W14 from hm)
      have M1x14 := Lib.hid (M1x13.out.below hq)
      clear M1x13
      have M2x14 := Lib.hid (M2x13.out.below hq)
      clear M2x13
      have M3x14 := Lib.hid (M3x13.out.below hq)
      clear M3x13
      have M4x14 := Lib.hid (M4x13.out.below hq)
      clear M4x13
      have M5x14 := Lib.hid (M5x13.out.below hq)
      clear M5x13
      have M6x14 := Lib.hid (M6x13.out.below hq)
      clear M6x13
      have M7x14 := Lib.hid (M7x13.out.below hq)
      clear M7x13
      have M8x14 := Lib.hid (M8x13.out.below hq)
      clear M8x13
      have M9x14 := Lib.hid (M9x13.out.below hq)
      clear M9x13
      clear hm HL10
      have BC14 := Lib.hid (BC13.out.trans (hq.mono BC13.out.size))
      have SZ14 := Lib.hid hq.size
      have SC14 := Lib.hid BC14.out.size
      clear BC13
      have HZ11 := Lib.hid hz
      have HL11 := Lib.hid (Lst.weak hL (below_new W13 _).size)
      clear hz hlz hL hb hq
      have hx := Lib.hid (HX3.out.below BC14.out)
      have x0 := fun o => (hx.out.alloc o).1.1
      have x1 := fun o => (hx.out.alloc o).1.2.1
      have x2 := fun o => (hx.out.alloc o).1.2.2
      go_wp2_with fail
      refine (H6'.out _ l0 kx _ rfl LT0.out (hx.out.alloc _).2.2.1).mono ?_
      rintro e W15 ⟨sA12, s12, sc12, rfl, hz, hlz, hL, hb⟩
      clear hx x0 x1 x2
      obtain ⟨hm, hq⟩ := MI.new HL11.out hb
      have M11x15 := Lib.hid (show (⟨W14.heap.size, p5, q5, sA11, s11, sc11, W13.heap.size, W14.heap.size⟩ : MI).At W15 from hm)
      have M1x15 := Lib.hid (M1x14.out.below hq)
      clear M1x14
      have M2x15 := Lib.hid (M2x14.out.below hq)
      clear M2x14
      have M3x15 := Lib.hid (M3x14.out.below hq)
      clear M3x14
      have M4x15 := Lib.hid (M4x14.out.below hq)
      clear M4x14
      have M5x15 := Lib.hid (M5x14.out.below hq)
      clear M5x14
      have M6x15 := Lib.hid (M6x14.out.below hq)
      clear M6x14
      have M7x15 := Lib.hid (M7x14.out.below hq)
      clear M7x14
      have M8x15 := Lib.hid (M8x14.out.below hq)
      clear M8x14
      have M9x15 := Lib.hid (M9x14.out.below hq)
      clear M9x14
      have M10x15 := Lib.hid (M10x14.out.below hq)
      clear M10x14
      clear hm HL11
      have BC15 := Lib.hid (BC14.out.trans (hq.mono BC14.out.size))
      have SZ15 := Lib.hid hq.size
      have SC15 := Lib.hid BC15.out.size
      clear BC14
      have HZ12 := Lib.hid hz
      have HL12 := Lib.hid (Lst.weak hL (below_new W14 _).size)
      clear hz hlz hL hb hq
      have m1_0 : ∀ o, (W15.alloc o).cell? ⟨W4.heap.size, 0, none⟩ = some (.int .i64 p1) := fun o => (M1x15.out.below (below_new W15 o)).box.1
      have m1_1 : ∀ o, (W15.alloc o).cell? ⟨W4.heap.size, 1, none⟩ = some (.int .i64 q1) := fun o => (M1x15.out.below (below_new W15 o)).box.2.1
      have m1_2 : ∀ o, (W15.alloc o).cell? ⟨W4.heap.size, 2, none⟩ = some (.slice sA1 s1.length sc1) := fun o => (M1x15.out.below (below_new W15 o)).box.2.2
      have m7_0 : ∀ o, (W15.alloc o).cell? ⟨W10.heap.size, 0, none⟩ = some (.int .i64 p1) := fun o => (M7x15.out.below (below_new W15 o)).box.1
      have m7_1 : ∀ o, (W15.alloc o).cell? ⟨W10.heap.size, 1, none⟩ = some (.int .i64 q1) := fun o => (M7x15.out.below (below_new W15 o)).box.2.1
      have m7_2 : ∀ o, (W15.alloc o).cell? ⟨W10.heap.size, 2, none⟩ = some (.slice sA7 s7.length sc7) := fun o => (M7x15.out.below (below_new W15 o)).box.2.2
      go_wp2_with fail
      clear m1_0 m1_1 m1_2 m7_0 m7_1 m7_2
      obtain ⟨V0, hV0⟩ : ∃ V0, V0 = W15.alloc (.cells #[.int .i64 p6, .int .i64 q6, .slice sA12 s12.length sc12] 28) := ⟨_, rfl⟩
      rw [← hV0]
      have hb0 : Below W15.heap.size W15 V0 := by rw [hV0]; exact below_new _ _
      have M1 := Lib.hid (M1x15.out.below hb0)
      clear M1x15
      have M2 := Lib.hid (M2x15.out.below hb0)
      clear M2x15
      have M3 := Lib.hid (M3x15.out.below hb0)
      clear M3x15
      have M4 := Lib.hid (M4x15.out.below hb0)
      clear M4x15
      have M5 := Lib.hid (M5x15.out.below hb0)
      clear M5x15
      have M6 := Lib.hid (M6x15.out.below hb0)
      clear M6x15
      have M7 := Lib.hid (M7x15.out.below hb0)
      clear M7x15
      have M8 := Lib.hid (M8x15.out.below hb0)
      clear M8x15
      have M9 := Lib.hid (M9x15.out.below hb0)
      clear M9x15
      have M10 := Lib.hid (M10x15.out.below hb0)
      clear M10x15
      have M11 := Lib.hid (M11x15.out.below hb0)
      clear M11x15
      have M12 := Lib.hid (show (⟨W15.heap.size, p6, q6, sA12, s12, sc12, W14.heap.size, W15.heap.size⟩ : MI).At V0 by rw [hV0]; exact (MI.new HL12.out (Below.refl _ _)).1)
      have BV := Lib.hid (BC15.out.trans (hb0.mono BC15.out.size))
      have SV := Lib.hid hb0.size
      clear hV0 hb0 BC15 HL12
      have iz4 := SZ4.out
      have iz5 := SZ5.out
      have iz6 := SZ6.out
      have iz7 := SZ7.out
      have iz8 := SZ8.out
      have iz9 := SZ9.out
      have iz10 := SZ10.out
      have iz11 := SZ11.out
      have iz12 := SZ12.out
      have iz13 := SZ13.out
      have iz14 := SZ14.out
      have iz15 := SZ15.out
      have iz3 := HS3.out
      have b2 := BS2.out
      have sv := SV.out
      have TW1 := Lib.hid (show Two V0 w.heap.size (W2.heap.size + 1) (⟨W4.heap.size, p1, q1, sA1, s1, sc1, W3.heap.size, W4.heap.size⟩ : MI) (⟨W10.heap.size, p1, q1, sA7, s7, sc7, W9.heap.size, W10.heap.size⟩ : MI) from ⟨M1.out, M7.out, rfl, rfl, HZ1.out.trans HZ7.out.symm, (by show s1.length ≤ 4096; have h := HM1.out; rw [← HZ1.out, List.length_map] at h; exact h), (by show (W2.heap.size + 1) < W3.heap.size; omega), (by show (W2.heap.size + 1) < W9.heap.size; omega), (by show w.heap.size ≤ W3.heap.size; omega)⟩)
      have NE1 := Lib.hid (show W4.heap.size ≠ (W2.heap.size + 1) by omega)
      have NE7 := Lib.hid (show W10.heap.size ≠ (W2.heap.size + 1) by omega)
      have ORD1 := Lib.hid (show W3.heap.size ≤ W4.heap.size by omega)
      have TW2 := Lib.hid (show Two V0 w.heap.size (W2.heap.size + 1) (⟨W5.heap.size, p2, q2, sA2, s2, sc2, W4.heap.size, W5.heap.size⟩ : MI) (⟨W11.heap.size, p2, q2, sA8, s8, sc8, W10.heap.size, W11.heap.size⟩ : MI) from ⟨M2.out, M8.out, rfl, rfl, HZ2.out.trans HZ8.out.symm, (by show s2.length ≤ 4096; have h := HM2.out; rw [← HZ2.out, List.length_map] at h; exact h), (by show (W2.heap.size + 1) < W4.heap.size; omega), (by show (W2.heap.size + 1) < W10.heap.size; omega), (by show w.heap.size ≤ W4.heap.size; omega)⟩)
      have NE2 := Lib.hid (show W5.heap.size ≠ (W2.heap.size + 1) by omega)
      have NE8 := Lib.hid (show W11.heap.size ≠ (W2.heap.size + 1) by omega)
      have ORD2 := Lib.hid (show W4.heap.size ≤ W5.heap.size by omega)
      have TW3 := Lib.hid (show Two V0 w.heap.size (W2.heap.size + 1) (⟨W6.heap.size, p3, q3, sA3, s3, sc3, W5.heap.size, W6.heap.size⟩ : MI) (⟨W12.heap.size, p3, q3, sA9, s9, sc9, W11.heap.size, W12.heap.size⟩ : MI) from ⟨M3.out, M9.out, rfl, rfl, HZ3.out.trans HZ9.out.symm, (by show s3.length ≤ 4096; have h := HM3.out; rw [← HZ3.out, List.length_map] at h; exact h), (by show (W2.heap.size + 1) < W5.heap.size; omega), (by show (W2.heap.size + 1) < W11.heap.size; omega), (by show w.heap.size ≤ W5.heap.size; omega)⟩)
      have NE3 := Lib.hid (show W6.heap.size ≠ (W2.heap.size + 1) by omega)
      have NE9 := Lib.hid (show W12.heap.size ≠ (W2.heap.size + 1) by omega)
      have ORD3 := Lib.hid (show W5.heap.size ≤ W6.heap.size by omega)
      have TW4 := Lib.hid (show Two V0 w.heap.size (W2.heap.size + 1) (⟨W7.heap.size, p4, q4, sA4, s4, sc4, W6.heap.size, W7.heap.size⟩ : MI) (⟨W13.heap.size, p4, q4, sA10, s10, sc10, W12.heap.size, W13.heap.size⟩ : MI) from ⟨M4.out, M10.out, rfl, rfl, HZ4.out.trans HZ10.out.symm, (by show s4.length ≤ 4096; have h := HM4.out; rw [← HZ4.out, List.length_map] at h; exact h), (by show (W2.heap.size + 1) < W6.heap.size; omega), (by show (W2.heap.size + 1) < W12.heap.size; omega), (by show w.heap.size ≤ W6.heap.size; omega)⟩)
      have NE4 := Lib.hid (show W7.heap.size ≠ (W2.heap.size + 1) by omega)
      have NE10 := Lib.hid (show W13.heap.size ≠ (W2.heap.size + 1) by omega)
      have ORD4 := Lib.hid (show W6.heap.size ≤ W7.heap.size by omega)
      have TW5 := Lib.hid (show Two V0 w.heap.size (W2.heap.size + 1) (⟨W8.heap.size, p5, q5, sA5, s5, sc5, W7.heap.size, W8.heap.size⟩ : MI) (⟨W14.heap.size, p5, q5, sA11, s11, sc11, W13.heap.size, W14.heap.size⟩ : MI) from ⟨M5.out, M11.out, rfl, rfl, HZ5.out.trans HZ11.out.symm, (by show s5.length ≤ 4096; have h := HM5.out; rw [← HZ5.out, List.length_map] at h; exact h), (by show (W2.heap.size + 1) < W7.heap.size; omega), (by show (W2.heap.size + 1) < W13.heap.size; omega), (by show w.heap.size ≤ W7.heap.size; omega)⟩)
      have NE5 := Lib.hid (show W8.heap.size ≠ (W2.heap.size + 1) by omega)
      have NE11 := Lib.hid (show W14.heap.size ≠ (W2.heap.size + 1) by omega)
      have ORD5 := Lib.hid (show W7.heap.size ≤ W8.heap.size by omega)
      have TW6 := Lib.hid (show Two V0 w.heap.size (W2.heap.size + 1) (⟨W9.heap.size, p6, q6, sA6, s6, sc6, W8.heap.size, W9.heap.size⟩ : MI) (⟨W15.heap.size, p6, q6, sA12, s12, sc12, W14.heap.size, W15.heap.size⟩ : MI) from ⟨M6.out, M12.out, rfl, rfl, HZ6.out.trans HZ12.out.symm, (by show s6.length ≤ 4096; have h := HM6.out; rw [← HZ6.out, List.length_map] at h; exact h), (by show (W2.heap.size + 1) < W8.heap.size; omega), (by show (W2.heap.size + 1) < W14.heap.size; omega), (by show w.heap.size ≤ W8.heap.size; omega)⟩)
      have NE6 := Lib.hid (show W9.heap.size ≠ (W2.heap.size + 1) by omega)
      have NE12 := Lib.hid (show W15.heap.size ≠ (W2.heap.size + 1) by omega)
      have ORD6 := Lib.hid (show W8.heap.size ≤ W9.heap.size by omega)
      have QLO := Lib.hid (show (W2.heap.size + 1) < V0.heap.size by omega)
      have WLO := Lib.hid (show w.heap.size ≤ V0.heap.size by omega)
      have W2LO := Lib.hid (show W2.heap.size ≤ V0.heap.size by omega)
      clear iz3 iz4 iz5 iz6 iz7 iz8 iz9 iz10 iz11 iz12 iz13 iz14 iz15 b2 sv
      have HTD := Lib.hid (Told2.start (lo := V0.heap.size) (row_keep BV.out HT3.out))
      clear M1 HZ1
      clear M2 HZ2
      clear M3 HZ3
      clear M4 HZ4
      clear M5 HZ5
      clear M6 HZ6
      clear M7 HZ7
      clear M8 HZ8
      clear M9 HZ9
      clear M10 HZ10
      clear M11 HZ11
      clear M12 HZ12
      have BT0 := Lib.hid (But.refl V0.heap.size (W2.heap.size + 1) V0)
      clear HT3 SC4 SC5 SC6 SC7 SC8 SC9 SC10 SC11 SC12 SC13 SC14 SC15
      refine (tell_c (x := (⟨W4.heap.size, p1, q1, sA1, s1, sc1, W3.heap.size, W4.heap.size⟩ : MI)) (y := (⟨W10.heap.size, p1, q1, sA7, s7, sc7, W9.heap.size, W10.heap.size⟩ : MI)) HTD.out QLO.out rfl BT0.out (by simp) (by simp) TW1.out).mono ?_
      rintro e V1 ⟨rfl, ⟨Sg1, Sw1, hT⟩, hbt⟩
      have HTD' := Lib.hid hT
      have BT1 := Lib.hid hbt
      clear HTD BT0 hT hbt
      have HTD := HTD'
      clear HTD'
      have mb2 := (TW2.out.x0.but BT1.out (Nat.le_refl _) NE2.out TW2.out.xq).box
      have m2_0 : V1.cell? ⟨W5.heap.size, 0, none⟩ = some (.int .i64 p2) := mb2.1
      have m2_1 : V1.cell? ⟨W5.heap.size, 1, none⟩ = some (.int .i64 q2) := mb2.2.1
      have m2_2 : V1.cell? ⟨W5.heap.size, 2, none⟩ = some (.slice sA2 s2.length sc2) := mb2.2.2
      clear mb2
      have mb8 := (TW2.out.y0.but BT1.out (Nat.le_refl _) NE8.out TW2.out.yq).box
      have m8_0 : V1.cell? ⟨W11.heap.size, 0, none⟩ = some (.int .i64 p2) := mb8.1
      have m8_1 : V1.cell? ⟨W11.heap.size, 1, none⟩ = some (.int .i64 q2) := mb8.2.1
      have m8_2 : V1.cell? ⟨W11.heap.size, 2, none⟩ = some (.slice sA8 s8.length sc8) := mb8.2.2
      clear mb8
      go_wp2_with fail
      refine (tell_c (x := (⟨W5.heap.size, p2, q2, sA2, s2, sc2, W4.heap.size, W5.heap.size⟩ : MI)) (y := (⟨W11.heap.size, p2, q2, sA8, s8, sc8, W10.heap.size, W11.heap.size⟩ : MI)) HTD.out QLO.out rfl BT1.out (by simp) (by simp) TW2.out).mono ?_
      rintro e V2 ⟨rfl, ⟨Sg2, Sw2, hT⟩, hbt⟩
      clear m2_0 m2_1 m2_2 m8_0 m8_1 m8_2
      have HTD' := Lib.hid hT
      have BT2 := Lib.hid hbt
      clear HTD BT1 hT hbt
      have HTD := HTD'
      clear HTD'
      have mb3 := (TW3.out.x0.but BT2.out (Nat.le_refl _) NE3.out TW3.out.xq).box
      have m3_0 : V2.cell? ⟨W6.heap.size, 0, none⟩ = some (.int .i64 p3) := mb3.1
      have m3_1 : V2.cell? ⟨W6.heap.size, 1, none⟩ = some (.int .i64 q3) := mb3.2.1
      have m3_2 : V2.cell? ⟨W6.heap.size, 2, none⟩ = some (.slice sA3 s3.length sc3) := mb3.2.2
      clear mb3
      have mb9 := (TW3.out.y0.but BT2.out (Nat.le_refl _) NE9.out TW3.out.yq).box
      have m9_0 : V2.cell? ⟨W12.heap.size, 0, none⟩ = some (.int .i64 p3) := mb9.1
      have m9_1 : V2.cell? ⟨W12.heap.size, 1, none⟩ = some (.int .i64 q3) := mb9.2.1
      have m9_2 : V2.cell? ⟨W12.heap.size, 2, none⟩ = some (.slice sA9 s9.length sc9) := mb9.2.2
      clear mb9
      go_wp2_with fail
      refine (tell_c (x := (⟨W6.heap.size, p3, q3, sA3, s3, sc3, W5.heap.size, W6.heap.size⟩ : MI)) (y := (⟨W12.heap.size, p3, q3, sA9, s9, sc9, W11.heap.size, W12.heap.size⟩ : MI)) HTD.out QLO.out rfl BT2.out (by simp) (by simp) TW3.out).mono ?_
      rintro e V3 ⟨rfl, ⟨Sg3, Sw3, hT⟩, hbt⟩
      clear m3_0 m3_1 m3_2 m9_0 m9_1 m9_2
      have HTD' := Lib.hid hT
      have BT3 := Lib.hid hbt
      clear HTD BT2 hT hbt
      have HTD := HTD'
      clear HTD'
      have mb4 := (TW4.out.x0.but BT3.out (Nat.le_refl _) NE4.out TW4.out.xq).box
      have m4_0 : V3.cell? ⟨W7.heap.size, 0, none⟩ = some (.int .i64 p4) := mb4.1
      have m4_1 : V3.cell? ⟨W7.heap.size, 1, none⟩ = some (.int .i64 q4) := mb4.2.1
      have m4_2 : V3.cell? ⟨W7.heap.size, 2, none⟩ = some (.slice sA4 s4.length sc4) := mb4.2.2
      clear mb4
      have mb10 := (TW4.out.y0.but BT3.out (Nat.le_refl _) NE10.out TW4.out.yq).box
      have m10_0 : V3.cell? ⟨W13.heap.size, 0, none⟩ = some (.int .i64 p4) := mb10.1
      have m10_1 : V3.cell? ⟨W13.heap.size, 1, none⟩ = some (.int .i64 q4) := mb10.2.1
      have m10_2 : V3.cell? ⟨W13.heap.size, 2, none⟩ = some (.slice sA10 s10.length sc10) := mb10.2.2
      clear mb10
      go_wp2_with fail
      refine (tell_c (x := (⟨W7.heap.size, p4, q4, sA4, s4, sc4, W6.heap.size, W7.heap.size⟩ : MI)) (y := (⟨W13.heap.size, p4, q4, sA10, s10, sc10, W12.heap.size, W13.heap.size⟩ : MI)) HTD.out QLO.out rfl BT3.out (by simp) (by simp) TW4.out).mono ?_
      rintro e V4 ⟨rfl, ⟨Sg4, Sw4, hT⟩, hbt⟩
      clear m4_0 m4_1 m4_2 m10_0 m10_1 m10_2
      have HTD' := Lib.hid hT
      have BT4 := Lib.hid hbt
      clear HTD BT3 hT hbt
      have HTD := HTD'
      clear HTD'
      have mb5 := (TW5.out.x0.but BT4.out (Nat.le_refl _) NE5.out TW5.out.xq).box
      have m5_0 : V4.cell? ⟨W8.heap.size, 0, none⟩ = some (.int .i64 p5) := mb5.1
      have m5_1 : V4.cell? ⟨W8.heap.size, 1, none⟩ = some (.int .i64 q5) := mb5.2.1
      have m5_2 : V4.cell? ⟨W8.heap.size, 2, none⟩ = some (.slice sA5 s5.length sc5) := mb5.2.2
      clear mb5
      have mb11 := (TW5.out.y0.but BT4.out (Nat.le_refl _) NE11.out TW5.out.yq).box
      have m11_0 : V4.cell? ⟨W14.heap.size, 0, none⟩ = some (.int .i64 p5) := mb11.1
      have m11_1 : V4.cell? ⟨W14.heap.size, 1, none⟩ = some (.int .i64 q5) := mb11.2.1
      have m11_2 : V4.cell? ⟨W14.heap.size, 2, none⟩ = some (.slice sA11 s11.length sc11) := mb11.2.2
      clear mb11
      go_wp2_with fail
      refine (tell_c (x := (⟨W8.heap.size, p5, q5, sA5, s5, sc5, W7.heap.size, W8.heap.size⟩ : MI)) (y := (⟨W14.heap.size, p5, q5, sA11, s11, sc11, W13.heap.size, W14.heap.size⟩ : MI)) HTD.out QLO.out rfl BT4.out (by simp) (by simp) TW5.out).mono ?_
      rintro e V5 ⟨rfl, ⟨Sg5, Sw5, hT⟩, hbt⟩
      clear m5_0 m5_1 m5_2 m11_0 m11_1 m11_2
      have HTD' := Lib.hid hT
      have BT5 := Lib.hid hbt
      clear HTD BT4 hT hbt
      have HTD := HTD'
      clear HTD'
      have mb6 := (TW6.out.x0.but BT5.out (Nat.le_refl _) NE6.out TW6.out.xq).box
      have m6_0 : V5.cell? ⟨W9.heap.size, 0, none⟩ = some (.int .i64 p6) := mb6.1
      have m6_1 : V5.cell? ⟨W9.heap.size, 1, none⟩ = some (.int .i64 q6) := mb6.2.1
      have m6_2 : V5.cell? ⟨W9.heap.size, 2, none⟩ = some (.slice sA6 s6.length sc6) := mb6.2.2
      clear mb6
      have mb12 := (TW6.out.y0.but BT5.out (Nat.le_refl _) NE12.out TW6.out.yq).box
      have m12_0 : V5.cell? ⟨W15.heap.size, 0, none⟩ = some (.int .i64 p6) := mb12.1
      have m12_1 : V5.cell? ⟨W15.heap.size, 1, none⟩ = some (.int .i64 q6) := mb12.2.1
      have m12_2 : V5.cell? ⟨W15.heap.size, 2, none⟩ = some (.slice sA12 s12.length sc12) := mb12.2.2
      clear mb12
      go_wp2_with fail
      refine (tell_c (x := (⟨W9.heap.size, p6, q6, sA6, s6, sc6, W8.heap.size, W9.heap.size⟩ : MI)) (y := (⟨W15.heap.size, p6, q6, sA12, s12, sc12, W14.heap.size, W15.heap.size⟩ : MI)) HTD.out QLO.out rfl BT5.out (by simp) (by simp) TW6.out).mono ?_
      rintro e V6 ⟨rfl, ⟨Sg6, Sw6, hT⟩, hbt⟩
      clear m6_0 m6_1 m6_2 m12_0 m12_1 m12_2
      have HTD' := Lib.hid hT
      have BT6 := Lib.hid hbt
      clear HTD BT5 hT hbt
      have HTD := HTD'
      clear HTD'
      have HTD' := Lib.hid (show Told2 V6 V0.heap.size (W2.heap.size + 1) Sg6 Sw6 [(⟨W4.heap.size, p1, q1, sA1, s1, sc1, W3.heap.size, W4.heap.size⟩ : MI), (⟨W5.heap.size, p2, q2, sA2, s2, sc2, W4.heap.size, W5.heap.size⟩ : MI), (⟨W6.heap.size, p3, q3, sA3, s3, sc3, W5.heap.size, W6.heap.size⟩ : MI), (⟨W7.heap.size, p4, q4, sA4, s4, sc4, W6.heap.size, W7.heap.size⟩ : MI), (⟨W8.heap.size, p5, q5, sA5, s5, sc5, W7.heap.size, W8.heap.size⟩ : MI), (⟨W9.heap.size, p6, q6, sA6, s6, sc6, W8.heap.size, W9.heap.size⟩ : MI)] [(⟨W10.heap.size, p1, q1, sA7, s7, sc7, W9.heap.size, W10.heap.size⟩ : MI), (⟨W11.heap.size, p2, q2, sA8, s8, sc8, W10.heap.size, W11.heap.size⟩ : MI), (⟨W12.heap.size, p3, q3, sA9, s9, sc9, W11.heap.size, W12.heap.size⟩ : MI), (⟨W13.heap.size, p4, q4, sA10, s10, sc10, W12.heap.size, W13.heap.size⟩ : MI), (⟨W14.heap.size, p5, q5, sA11, s11, sc11, W13.heap.size, W14.heap.size⟩ : MI), (⟨W15.heap.size, p6, q6, sA12, s12, sc12, W14.heap.size, W15.heap.size⟩ : MI)] from HTD.out)
      clear HTD
      have HTD := HTD'
      clear HTD'
      have hs3 := HS3.out
      have hz1 := SZ1.out
      have hz2 := SZ2.out
      have hxl := HXl.out
      have hyl := HYl.out
      have w2lo := W2LO.out
      simp at hz2
      have RP0 := RP3.out.below (BV.out.mono (by omega : W2.heap.size ≤ W3.heap.size))
      have HP6 := Lib.hid (Has.but (n := W2.heap.size) (HP3.out.below BV.out) RP0 (by omega) QLO.out W2LO.out (by omega : W1.heap.size < (W2.heap.size + 1)) BT6.out)
      clear RP0
      have RQ0 := RQ3.out.below (BV.out.mono (by omega : W2.heap.size ≤ W3.heap.size))
      have HQ6 := Lib.hid (Has.but (n := W2.heap.size) (HQ3.out.below BV.out) RQ0 (by omega) QLO.out W2LO.out (by omega : W2.heap.size < (W2.heap.size + 1)) BT6.out)
      clear RQ0
      have RX0 := RX3.out.below (BV.out.mono (by omega : W2.heap.size ≤ W3.heap.size))
      have HX6 := Lib.hid (Has.but (n := W2.heap.size) (HX3.out.below BV.out) RX0 (by omega) QLO.out W2LO.out (by omega : bX < (W2.heap.size + 1)) BT6.out)
      clear RX0
      have RY0 := RY3.out.below (BV.out.mono (by omega : W2.heap.size ≤ W3.heap.size))
      have HY6 := Lib.hid (Has.but (n := W2.heap.size) (HY3.out.below BV.out) RY0 (by omega) QLO.out W2LO.out (by omega : bY < (W2.heap.size + 1)) BT6.out)
      clear RY0
      have Lf6 := Lib.hid (BT6.out.lst (Lf3.out.below BV.out) (by omega) (Or.inr (by omega)))
      have Lo6 := Lib.hid (BT6.out.lst (Lo3.out.below BV.out) (by omega) (Or.inr (by omega)))
      have LO6 := Lib.hid BT6.out.size
      clear w2lo
      clear hs3 hz1 hz2 hxl hyl HX3 HY3 HP3 HQ3 RX3 RY3 RP3 RQ3 Lf3 Lo3 H1 H1' H2 H2' H3 H3' H4 H4' H5 H5' H6 H6'
      as_aux_lemma =>
        have hT1 : ∀ V, Below V6.heap.size V6 V → Calls Try.prog 42 #[mval R0 C0 (.slice (some ⟨gP, 0, none⟩) zp.length pc), mval R1 C1 (.slice (some ⟨gQ, 0, none⟩) zq.length qc)] V (FromV (.bool b1) V6.heap.size V6) := fun V hV => (T1.out _ _ zp zq _ _ V HZP.out HZQ.out (HP6.out.below hV).2.2.1 (HQ6.out.below hV).2.2.1).mono fun e V' ⟨h1, h2⟩ => ⟨h1, hV.trans (h2.mono hV.size)⟩
        have AT1 := Lib.hid hT1
        clear hT1
        have hT1r : ∀ V, Below V6.heap.size V6 V → Calls Try.prog 43 #[mval R0 C0 (.slice A l0.length kx), mval R1 C1 (.slice B l1.length ky)] V (FromV (.bool b1) V6.heap.size V6) := fun V hV => (T1'.out _ _ l0 l1 _ _ V rfl rfl (HX6.out.below hV).2.2.1 (HY6.out.below hV).2.2.1).mono fun e V' ⟨h1, h2⟩ => ⟨h1, hV.trans (h2.mono hV.size)⟩
        have AT1r := Lib.hid hT1r
        clear hT1r
        have hT2 : ∀ V, Below V6.heap.size V6 V → Calls Try.prog 44 #[mval R0 C0 (.slice (some ⟨gP, 0, none⟩) zp.length pc), mval R1 C1 (.slice (some ⟨gQ, 0, none⟩) zq.length qc)] V (FromV (.bool b2) V6.heap.size V6) := fun V hV => (T2.out _ _ zp zq _ _ V HZP.out HZQ.out (HP6.out.below hV).2.2.1 (HQ6.out.below hV).2.2.1).mono fun e V' ⟨h1, h2⟩ => ⟨h1, hV.trans (h2.mono hV.size)⟩
        have AT2 := Lib.hid hT2
        clear hT2
        have hT2r : ∀ V, Below V6.heap.size V6 V → Calls Try.prog 45 #[mval R0 C0 (.slice A l0.length kx), mval R1 C1 (.slice B l1.length ky)] V (FromV (.bool b2) V6.heap.size V6) := fun V hV => (T2'.out _ _ l0 l1 _ _ V rfl rfl (HX6.out.below hV).2.2.1 (HY6.out.below hV).2.2.1).mono fun e V' ⟨h1, h2⟩ => ⟨h1, hV.trans (h2.mono hV.size)⟩
        have AT2r := Lib.hid hT2r
        clear hT2r
        have hT3 : ∀ V, Below V6.heap.size V6 V → Calls Try.prog 46 #[mval R0 C0 (.slice (some ⟨gP, 0, none⟩) zp.length pc)] V (FromV (.int .i64 v3) V6.heap.size V6) := fun V hV => (T3.out _ _ _ V (map_len HZP.out)).mono fun e V' ⟨h1, h2⟩ => ⟨h1, hV.trans (h2.mono hV.size)⟩
        have AT3 := Lib.hid hT3
        clear hT3
        have hT3r : ∀ V, Below V6.heap.size V6 V → Calls Try.prog 47 #[mval R0 C0 (.slice A l0.length kx)] V (FromV (.int .i64 v3) V6.heap.size V6) := fun V hV => (T3'.out _ _ _ V rfl).mono fun e V' ⟨h1, h2⟩ => ⟨h1, hV.trans (h2.mono hV.size)⟩
        have AT3r := Lib.hid hT3r
        clear hT3r
        have hT4 : ∀ V, Below V6.heap.size V6 V → Calls Try.prog 48 #[mval R0 C0 (.slice (some ⟨gP, 0, none⟩) zp.length pc)] V (FromV (.bool b4) V6.heap.size V6) := fun V hV => (T4.out _ zp _ V HZP.out HTP.out (HP6.out.below hV).2.2.1).mono fun e V' ⟨h1, h2⟩ => ⟨h1, hV.trans (h2.mono hV.size)⟩
        have AT4 := Lib.hid hT4
        clear hT4
        have hT4r : ∀ V, Below V6.heap.size V6 V → Calls Try.prog 49 #[mval R0 C0 (.slice A l0.length kx)] V (FromV (.bool b4) V6.heap.size V6) := fun V hV => (T4'.out _ l0 _ V rfl LT0.out (HX6.out.below hV).2.2.1).mono fun e V' ⟨h1, h2⟩ => ⟨h1, hV.trans (h2.mono hV.size)⟩
        have AT4r := Lib.hid hT4r
        clear hT4r
        have hkp : ∀ V, Below V6.heap.size V6 V → V.cell? ⟨W1.heap.size, 0, none⟩ = some (.int .i64 R0) ∧ V.cell? ⟨W1.heap.size, 1, none⟩ = some (.int .i64 C0) ∧ V.cell? ⟨W1.heap.size, 2, none⟩ = some (.slice (some ⟨gP, 0, none⟩) zp.length pc) ∧ V.cell? ⟨W2.heap.size, 0, none⟩ = some (.int .i64 R1) ∧ V.cell? ⟨W2.heap.size, 1, none⟩ = some (.int .i64 C1) ∧ V.cell? ⟨W2.heap.size, 2, none⟩ = some (.slice (some ⟨gQ, 0, none⟩) zq.length qc) ∧ V.cell? ⟨bX, 0, none⟩ = some (.int .i64 R0) ∧ V.cell? ⟨bX, 1, none⟩ = some (.int .i64 C0) ∧ V.cell? ⟨bX, 2, none⟩ = some (.slice A l0.length kx) ∧ V.cell? ⟨bY, 0, none⟩ = some (.int .i64 R1) ∧ V.cell? ⟨bY, 1, none⟩ = some (.int .i64 C1) ∧ V.cell? ⟨bY, 2, none⟩ = some (.slice B l1.length ky) := fun V hV => by
          obtain ⟨p0, p1, p2⟩ := (HP6.out.below hV).1
          obtain ⟨q0, q1, q2⟩ := (HQ6.out.below hV).1
          obtain ⟨x0, x1, x2⟩ := (HX6.out.below hV).1
          obtain ⟨y0, y1, y2⟩ := (HY6.out.below hV).1
          exact ⟨p0, p1, p2, q0, q1, q2, x0, x1, x2, y0, y1, y2⟩
        have HKP := Lib.hid hkp
        have d1 : (b1 != b1) = false := by simp
        have d2 : (b2 != b2) = false := by simp
        have d3 : (v3 != v3) = false := by simp
        have d4 : (b4 != b4) = false := by simp
        clear hkp
        go_wp2_with fail
        go_cut [213] (fun s213 wx => s213 = .bool false ∧ Below V6.heap.size V6 wx)
        case first =>
          go_region_held3 (fun V => V.cell? ⟨W1.heap.size, 0, none⟩ = some (.int .i64 R0) ∧ V.cell? ⟨W1.heap.size, 1, none⟩ = some (.int .i64 C0) ∧ V.cell? ⟨W1.heap.size, 2, none⟩ = some (.slice (some ⟨gP, 0, none⟩) zp.length pc) ∧ V.cell? ⟨W2.heap.size, 0, none⟩ = some (.int .i64 R1) ∧ V.cell? ⟨W2.heap.size, 1, none⟩ = some (.int .i64 C1) ∧ V.cell? ⟨W2.heap.size, 2, none⟩ = some (.slice (some ⟨gQ, 0, none⟩) zq.length qc) ∧ V.cell? ⟨bX, 0, none⟩ = some (.int .i64 R0) ∧ V.cell? ⟨bX, 1, none⟩ = some (.int .i64 C0) ∧ V.cell? ⟨bX, 2, none⟩ = some (.slice A l0.length kx) ∧ V.cell? ⟨bY, 0, none⟩ = some (.int .i64 R1) ∧ V.cell? ⟨bY, 1, none⟩ = some (.int .i64 C1) ∧ V.cell? ⟨bY, 2, none⟩ = some (.slice B l1.length ky))
            (with_reducible refine HKP.out _ ?_; (repeat (first | with_reducible assumption | with_reducible refine Below.drew ?_ | with_reducible exact Below.refl _ _)); done)
            (first
            | (go_at_call 42; (with_reducible refine (AT1.out _ ?_).mono ?_); (repeat (first | with_reducible assumption | with_reducible refine Below.drew ?_ | with_reducible exact Below.refl _ _)); (rintro e V ⟨rfl, hV⟩))
            | (go_at_call 43; (with_reducible refine (AT1r.out _ ?_).mono ?_); (repeat (first | with_reducible assumption | with_reducible refine Below.drew ?_ | with_reducible exact Below.refl _ _)); (rintro e V ⟨rfl, hV⟩))
            | (go_at_call 44; (with_reducible refine (AT2.out _ ?_).mono ?_); (repeat (first | with_reducible assumption | with_reducible refine Below.drew ?_ | with_reducible exact Below.refl _ _)); (rintro e V ⟨rfl, hV⟩))
            | (go_at_call 45; (with_reducible refine (AT2r.out _ ?_).mono ?_); (repeat (first | with_reducible assumption | with_reducible refine Below.drew ?_ | with_reducible exact Below.refl _ _)); (rintro e V ⟨rfl, hV⟩))
            | (go_at_call 46; (with_reducible refine (AT3.out _ ?_).mono ?_); (repeat (first | with_reducible assumption | with_reducible refine Below.drew ?_ | with_reducible exact Below.refl _ _)); (rintro e V ⟨rfl, hV⟩))
            | (go_at_call 47; (with_reducible refine (AT3r.out _ ?_).mono ?_); (repeat (first | with_reducible assumption | with_reducible refine Below.drew ?_ | with_reducible exact Below.refl _ _)); (rintro e V ⟨rfl, hV⟩))
            | (go_at_call 48; (with_reducible refine (AT4.out _ ?_).mono ?_); (repeat (first | with_reducible assumption | with_reducible refine Below.drew ?_ | with_reducible exact Below.refl _ _)); (rintro e V ⟨rfl, hV⟩))
            | (go_at_call 49; (with_reducible refine (AT4r.out _ ?_).mono ?_); (repeat (first | with_reducible assumption | with_reducible refine Below.drew ?_ | with_reducible exact Below.refl _ _)); (rintro e V ⟨rfl, hV⟩)))
          all_goals
            have HVV := Lib.hid ‹Below V6.heap.size V6 _›
            go_wp2
            go_meet
            exact ⟨rfl, HVV.out⟩
        case rest =>
          as_aux_lemma =>
            obtain ⟨rfl, hbd⟩ := hcut
            rename World => Y7
            have BD7 := Lib.hid hbd
            clear hbd HKP d1 d2 d3 d4 AT1 AT1r AT2 AT2r AT3 AT3r AT4 AT4r
            have hx := Lib.hid (HX6.out.below BD7.out)
            have x0 := hx.out.1.1
            have x1 := hx.out.1.2.1
            have x2 := hx.out.1.2.2
            go_wp2_with fail
            refine (Kept_t A (some ⟨gP, 0, none⟩) l0 zf kx pc _ HLn0.out LT0.out hx.out.2.2.2.1 hx.out.2.2.1 HZF.out (Lf6.out.below BD7.out).reads).mono ?_
            rintro e Y8 ⟨rfl, hb⟩
            clear hx x0 x1 x2
            have BD8 := Lib.hid (BD7.out.trans (hb.mono BD7.out.size))
            clear BD7 hb
            have hy := Lib.hid (HY6.out.below BD8.out)
            have y0 := hy.out.1.1
            have y1 := hy.out.1.2.1
            have y2 := hy.out.1.2.2
            go_wp2_with fail
            refine (Kept_t B (some ⟨gQ, 0, none⟩) l1 zo ky qc _ HLn1.out LT1.out hy.out.2.2.2.1 hy.out.2.2.1 HZO.out (Lo6.out.below BD8.out).reads).mono ?_
            rintro e Y9 ⟨rfl, hb⟩
            clear hy y0 y1 y2
            have BD9 := Lib.hid (BD8.out.trans (hb.mono BD8.out.size))
            clear BD8 hb
            have Lf9 := Lib.hid (Lf6.out.below BD9.out)
            have Lo9 := Lib.hid (Lo6.out.below BD9.out)
            have HT9 := Lib.hid (HTD.out.below BD9.out HTD.out.lt)
            have MD9 := Lib.hid ((Mid.of_but BT6.out).trans (Mid.of_below BD9.out LO6.out))
            have LO9 := Lib.hid (Nat.le_trans LO6.out BD9.out.size)
            have BE9 := Lib.hid ((((BE3.out.trans (BV.out.mono BE3.out.size))).trans (BT6.out.below WLO.out (by have := BS2.out; omega))).trans (BD9.out.mono (Nat.le_trans WLO.out LO6.out)))
            clear HTD Lf6 Lo6 BE3 BD9 BT6 HX6 HY6 HP6 HQ6
            have hnl : zf.length ≤ 1000000 := by have h1 := lent_len HZF.out; have h2 := HLo0.out; omega
            have HNL := Lib.hid hnl
            clear hnl
            go_wp2_with fail
            refine (Over_c _ gP pc zf.length zf _ rfl HNL.out Lf9.out.1).mono ?_
            rintro e Y10 ⟨z', rfl, -, -, hg⟩
            clear HNL
            obtain ⟨hg1, hg2⟩ := Lf9.out.blk gP rfl
            have hz1 := SZ1.out
            have hz2 := SZ2.out
            simp at hz2
            have hgq : gP < (W2.heap.size + 1) := by omega
            have Lo10 := Lib.hid (Lo9.out.over hg (Or.inr (by omega)))
            have HT10 := Lib.hid (HT9.out.over hg hgq QLO.out)
            have MD10 := Lib.hid (MD9.out.trans (Mid.of_grown hg LO9.out hgq))
            have LO10 := Lib.hid (Nat.le_trans LO9.out hg.size)
            have BE10 := Lib.hid (BE9.out.grown hg BE9.out.size (fun j hj => by injection hj with hj; subst hj; have := BS0.out; omega))
            clear hg hg1 hg2 hz1 hz2 hgq HT9 MD9 LO9 BE9
            have hnl : zo.length ≤ 1000000 := by have h1 := lent_len HZO.out; have h2 := HLo1.out; omega
            have HNL := Lib.hid hnl
            clear hnl
            go_wp2_with fail
            refine (Over_c _ gQ qc zo.length zo _ rfl HNL.out Lo10.out.1).mono ?_
            rintro e Y11 ⟨z', rfl, -, -, hg⟩
            clear HNL
            obtain ⟨hg1, hg2⟩ := Lo10.out.blk gQ rfl
            have hz1 := SZ1.out
            have hz2 := SZ2.out
            simp at hz2
            have hgq : gQ < (W2.heap.size + 1) := by omega
            have HT11 := Lib.hid (HT10.out.over hg hgq QLO.out)
            have MD11 := Lib.hid (MD10.out.trans (Mid.of_grown hg LO10.out hgq))
            have LO11 := Lib.hid (Nat.le_trans LO10.out hg.size)
            have BE11 := Lib.hid (BE10.out.grown hg BE10.out.size (fun j hj => by injection hj with hj; subst hj; have := BS0.out; omega))
            clear hg hg1 hg2 hz1 hz2 hgq HT10 MD10 LO10 BE10
            have hF := fit6 rfl MD11.out (by have := BS2.out; omega) TW1.out TW2.out TW3.out TW4.out TW5.out TW6.out (Nat.le_refl _) (Nat.le_refl _) (Nat.le_refl _) (Nat.le_refl _) (Nat.le_refl _) ORD2.out ORD3.out ORD4.out ORD5.out
            have HRI := Lib.hid (right_c HT11.out (Nat.le_trans WLO.out LO11.out) hF)
            clear hF
            go_wp2_with fail
            refine HRI.out.mono ?_
            rintro e Y12 ⟨rfl, hb⟩
            have BE12 := Lib.hid (BE11.out.trans hb)
            clear hb
            go_wp2
            go_ret
            exact ⟨rfl, BE12.out⟩
theorem Pairs_big0 (R0 C0 R1 C1 : Int) (A0 A1 : Option Addr) (l0 : List C) (m1 k0 k1 : Nat) (i j : Int) (w : World) (hl0 : 4098 < l0.length) :
    Calls Try.prog 4 #[mval R0 C0 (.slice A0 l0.length k0), mval R1 C1 (.slice A1 m1 k1), .int .i64 i, .int .i64 j] w (RetBB true w) := by
  have hd : decide ((l0.length : Int) > 4098) = true := by simp; omega
  have HL := Lib.hid (large_c R0 C0 A0 l0.length k0)
  rw [hd] at HL
  clear hd hl0
  go_enter Try.func4, Try.ntmps4
  go_wp2_with fail
  refine (HL.out _).mono ?_
  rintro e W1 ⟨rfl, hb⟩
  obtain ⟨-, -, hb1, -⟩ := frame2b hb
  have BE1 := Lib.hid hb1
  clear hb hb1 HL
  go_wp2
  go_ret
  exact ⟨rfl, BE1.out⟩
theorem Pairs_big1 (R0 C0 R1 C1 : Int) (A0 A1 : Option Addr) (l0 l1 : List C) (k0 k1 : Nat) (i j : Int) (w : World) (hl0 : l0.length ≤ 4098) (hl1 : 4098 < l1.length) :
    Calls Try.prog 4 #[mval R0 C0 (.slice A0 l0.length k0), mval R1 C1 (.slice A1 l1.length k1), .int .i64 i, .int .i64 j] w (RetBB true w) := by
  have hd0 : decide ((l0.length : Int) > 4098) = false := by simp; omega
  have hd1 : decide ((l1.length : Int) > 4098) = true := by simp; omega
  have HL0 := Lib.hid (large_c R0 C0 A0 l0.length k0)
  have HL1 := Lib.hid (large_c R1 C1 A1 l1.length k1)
  rw [hd0] at HL0
  rw [hd1] at HL1
  clear hd0 hd1 hl0 hl1
  go_enter Try.func4, Try.ntmps4
  go_wp2_with fail
  refine (HL0.out _).mono ?_
  rintro e W2 ⟨rfl, h1⟩
  obtain ⟨bx, by_, hb1, hs1⟩ := frame2b h1
  have HB2 := Lib.hid hb1
  have HS2 := Lib.hid hs1
  obtain ⟨y3, y4, y5⟩ := by_
  clear h1 hb1 hs1 HL0 bx
  go_wp2_with fail
  refine (HL1.out _).mono ?_
  rintro e W3 ⟨rfl, hb3⟩
  have HB3 := Lib.hid (HB2.out.trans (hb3.mono HB2.out.size))
  clear hb3 HL1
  go_wp2
  go_ret
  exact ⟨rfl, HB3.out⟩
end Go.Proofs.Ytdkcdcbbpebgmaa
namespace Go.Proofs.Ytdkcdcbbpebgmaa
open Go.RowKit Go.WideElems Go.Maps Go.Deep Fl Ieee
set_option maxRecDepth 20000
theorem MatrixPairs_walk (R0 C0 : Int) (A0 : Option Addr) (l0 : List C) (k0 : Nat) (_ : l0.length ≤ k0) (_ : k0 ≤ maxLen) (_ : A0 = none → k0 = 0) {w0 : World} (hr0 : Reads w0 w0.heap.size A0 (zcells l0)) (lt0 : ltCs l0)
    (R1 C1 : Int) (A1 : Option Addr) (l1 : List C) (k1 : Nat) (_ : l1.length ≤ k1) (_ : k1 ≤ maxLen) (_ : A1 = none → k1 = 0) (hr1 : Reads w0 w0.heap.size A1 (zcells l1)) (lt1 : ltCs l1)
    (i : Int) (_ : (Lit.int .i64 i).wf = true) (j : Int) (_ : (Lit.int .i64 j).wf = true) (w : World) (hw : w0 = w := by rfl) :
    Calls Try.prog 4 #[mval R0 C0 (.slice A0 l0.length k0), mval R1 C1 (.slice A1 l1.length k1), .int .i64 i, .int .i64 j] w fun e w' => e = .returned (.bool true) ∧ Below w.heap.size w w' := by
  subst hw
  rcases Nat.lt_or_ge 4098 l0.length with h | h
  · exact Pairs_big0 R0 C0 R1 C1 A0 A1 l0 l1.length k0 k1 i j _ h
  · rcases Nat.lt_or_ge 4098 l1.length with h' | h'
    · exact Pairs_big1 R0 C0 R1 C1 A0 A1 l0 l1 k0 k1 i j _ h h'
    · exact Pairs_small R0 C0 R1 C1 A0 A1 l0 l1 k0 k1 i j _ h h' hr0 hr1 lt0 lt1 _ _ _ _ _ _ _ _ _ _ _ _ _ _ _ _ _ _ _ _ _ _ _ _ _ _ _ _
        Add_s rAdd_s (bothL_len _ _ _ _ _ _ _) Sub_s rSub_s (bothL_len _ _ _ _ _ _ _) Mul_s rMul_s (mulL_len _ _ _ _ _ _) Tr_s rTr_s (trL_len _ _ _) Cj_s rCj_s (cjL_len _ _ _) Sw_s rSw_s (swL_len _ _ _ _ _)
        Same_s rSame_s Equal_s rEqual_s Check_s rCheck_s Sym_s rSym_s
/-! ### The row's step -/
namespace matrixPairs_frame
open Go.ChangeShapes Go.WideShapes Go.ChangeAt Go.RowKit
theorem own : ownKnob Try.prog.godebug = none := by kernel_rfl
set_option maxRecDepth 100000 in
theorem lifted (os : Os) (started : os.Started) (H : Type) (enc : TypeId × Value → H) :
    ReturnsInHanded {} Try.checked os 4 .any (Rows.matrixPairsSpec.pre6 enc Try.prog Try.f4 Rows.matrixPairsRow.domain false) (Rows.matrixPairsSpec.post enc Try.prog Try.f4 false true false false) := by
  refine returnsInHanded_of_change (C := Try.checked) own started (by kernel_rfl) Try.func4
    (ChangeSpec.witness6 (enc := enc) (C := Try.checked) false ⟨#[], #[.agg #[.int .i64 0, .int .i64 0, .slice none 0 0], .agg #[.int .i64 0, .int .i64 0, .slice none 0 0], .int .i64 0, .int .i64 0], []⟩ 8 (by kernel_rfl) (by kernel_rfl) (by kernel_rfl) (by kernel_rfl)) ?_
  intro W base args ds gs before hval0 hW hcnd _
  have hval : ∀ (j : Nat) t v, Try.f4.params[j]? = some t → args[j]? = some v → Value.okWide Try.prog W .any base t v := hval0
  have hW' := hW
  obtain ⟨p, q, hA0, hV, rfl, hfz, hnd⟩ := hW
  have hA : DataW.TrodAll enc Try.prog W 0 (fun _ => true) true Try.f4.params.toList args.toList ds p := hA0
  rw [Try.params4] at hA hval
  obtain ⟨v0, vs0, d0, ds0, p0, q0, hargs, rfl, rfl, h0, r0⟩ := trodAll_cons hA
  obtain ⟨v1, vs1, d1, ds1, p1, q1, rfl, rfl, rfl, h1, r1⟩ := trodAll_cons r0
  obtain ⟨v2, vs2, d2, ds2, p2, q2, rfl, rfl, rfl, h2, r2⟩ := trodAll_cons r1
  obtain ⟨v3, vs3, d3, ds3, p3, q3, rfl, rfl, rfl, h3, r3⟩ := trodAll_cons r2
  obtain ⟨rfl, rfl, rfl⟩ := trodAll_nil r3
  obtain rfl : args = #[v0, v1, v2, v3] := by cases args; simp_all
  obtain ⟨rfl, rfl⟩ := trodVars_none hV
  obtain ⟨R0, C0, A0, l0, k0, rfl, wr0, wc0, hk0, hm0, hn0, hrd0, hlt0⟩ := open_mat Try.underlying24 rfl rfl rfl (by kernel_rfl) (by kernel_rfl) (hval 0 24 v0 rfl rfl) h0
  obtain ⟨R1, C1, A1, l1, k1, rfl, wr1, wc1, hk1, hm1, hn1, hrd1, hlt1⟩ := open_mat Try.underlying24 rfl rfl rfl (by kernel_rfl) (by kernel_rfl) (hval 1 24 v1 rfl rfl) h1
  obtain ⟨a2, rfl, rfl, rfl, w2⟩ := open_int Try.underlying3 (hval 2 3 v2 rfl rfl) h2
  obtain ⟨a3, rfl, rfl, rfl, w3⟩ := open_int Try.underlying3 (hval 3 3 v3 rfl rfl) h3
  clear hval0
  refine (MatrixPairs_walk R0 C0 A0 l0 k0 hk0 hm0 hn0 hrd0 hlt0 R1 C1 A1 l1 k1 hk1 hm1 hn1 hrd1 hlt1 a2 w2 a3 w3 W).mono fun e W' ⟨he, hg⟩ => ?_
  subst he
  have hT : ∀ t ∈ Try.f4.params.toList, t < Try.prog.types.size := fun t ht => of_decide_eq_true (List.all_eq_true.1 (show (Try.f4.params.toList.all fun t => decide (t < Try.prog.types.size)) = true by kernel_rfl) t ht)
  exact ⟨_, rfl, post_of_below (pv := []) hW' (fun _ _ _ => (trodAll_cons_mk (shut_bool Try.underlying4 _) trodAll_mk0)) (fun sp hsp => trodAll_move kidsP slicesP hT hA0 hg (fun p hp => hsp p (List.mem_append_left _ hp))) (fun _ _ => rfl) rfl
    hg (ok_one (by kernel_rfl) rfl (okWide_bool_mk Try.underlying4 _))⟩
theorem over : Rows.matrixPairsRow.holds Try.pinned (OpenSpec.ofChange Rows.matrixPairsSpec) :=
  OpenClaim.holds_of_wide 4 Try.f4 rfl rfl rfl rfl rfl rfl rfl ⟨rfl, rfl, rfl, rfl, rfl⟩ rfl rfl rfl rfl rfl (by kernel_rfl) Try.func4 (by kernel_rfl)
    (of_decide_eq_true (by kernel_rfl)) (by unfold Func.isWrapper; first | (rw [if_pos (by decide +kernel)]; kernel_rfl) | (rw [if_neg (by decide +kernel)]; exact ⟨rfl, rfl⟩))
    (fun os started H enc _ => lifted os started H enc)
end matrixPairs_frame

/-- THE STATEMENT. -/
theorem matrixPairs_holds : Rows.MatrixPairsSaid := matrixPairs_frame.over
#print axioms matrixPairs_holds
end Go.Proofs.Ytdkcdcbbpebgmaa
