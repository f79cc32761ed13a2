/- Layer 7: what a product's entry is; a row of the transpose is a column (gridworklaw07.MatrixMeans). -/
import Derived.Test.YtdkcdcbbpebgmaaL07C
import Derived.Test.YtdkcdcbbpebgmaaHas
import Derived.Test.YtdkcdcbbpebgmaaMXp
namespace Go.Proofs.Ytdkcdcbbpebgmaa
open Go.RowKit Fl Ieee
set_option maxRecDepth 20000
attribute [local go_sem] run_store_float run_store_complex
theorem Mul_bad (R0 C0 R1 C1 : Int) (A B : Option Addr) (l0 l1 : List C) (c d : Nat) (W : World) (h : (okM R0 C0 l0.length && okM R1 C1 l1.length && (C0 == R1)) = false) :
    Calls Try.prog 31 #[mval R0 C0 (.slice A l0.length c), mval R1 C1 (.slice B l1.length d)] W (RetMxE 0 0 [] 4 W) := by
  cases h0 : okM R0 C0 l0.length
  · exact Mul_first R0 C0 R1 C1 A B _ _ c d W h0
  · rw [h0, Bool.true_and, Bool.and_eq_false_iff] at h
    exact Mul_second R0 C0 R1 C1 A B _ _ c d W h0 h
theorem nil_of_map {zs : List C} (h : zs.map cnC = []) : zs = [] := List.map_eq_nil_iff.1 h
def MeanR (l0 l1 : List C) (k q a b : Nat) (W : World) (s i : Value) (wr : World) : Prop :=
  ∃ (n : Nat) (z : C), n ≤ k ∧ i = .int .i64 (n : Nat) ∧ s = .complex .f64 z.1 z.2 ∧ cnC z = dot l0 l1 k q a b n ∧ Below W.heap.size W wr

set_option maxHeartbeats 16000000 in
theorem Means_small (R0 C0 R1 C1 : Int) (A0 A1 : Option Addr) (l0 l1 : List C) (k0 k1 : Nat) (i j : Int) (w : World) (hl0 : l0.length ≤ 4098) (hl1 : l1.length ≤ 4098) (hr0 : Reads w w.heap.size A0 (zcells l0)) (hr1 : Reads w w.heap.size A1 (zcells l1)) (lt0 : ltCs l0) (_lt1 : ltCs l1) :
    Calls Try.prog 5 #[mval R0 C0 (.slice A0 l0.length k0), mval R1 C1 (.slice A1 l1.length k1), .int .i64 i, .int .i64 j] w (RetBB true w) := by
  have hb0 : Below w.heap.size w ((w.alloc (.cells #[.int .i64 R0, .int .i64 C0, .slice A0 l0.length k0] 24)).alloc (.cells #[.int .i64 R1, .int .i64 C1, .slice A1 l1.length k1] 24)) :=
    ((Below.refl _ w).new (Nat.le_refl _) _).new (Nat.le_refl _) _
  have HB0 := Lib.hid hb0
  have HR0 := Lib.hid hr0
  have HR1 := Lib.hid hr1
  clear hb0 hr0 hr1
  go_enter Try.func5, Try.ntmps5
  go_wp2_with fail
  refine (awake7_c _).mono ?_
  rintro e W1 ⟨rfl, h1⟩
  obtain ⟨bx, by_, hb1, hs1⟩ := frame2b h1
  have HX1 := Lib.hid bx
  have HY1 := Lib.hid by_
  have HS1 := Lib.hid hs1
  have HB1 := Lib.hid hb1
  obtain ⟨x0, x1, x2⟩ := bx
  obtain ⟨y0, y1, y2⟩ := by_
  clear h1 hb1 hs1
  go_wp2_with fail
  refine (large_c _ _ _ _ _ _).mono ?_
  rintro e W2 ⟨rfl, hb2⟩
  have l0 : w.heap.size < W1.heap.size := by have := HS1.out; omega
  have l1 : w.heap.size + 1 < W1.heap.size := by have := HS1.out; omega
  have hX2 := Box.below HX1.out hb2 l0
  have hY2 := Box.below HY1.out hb2 l1
  have HX2 := Lib.hid hX2
  have HY2 := Lib.hid hY2
  have HB2 := Lib.hid (HB1.out.trans (hb2.mono (Nat.le_of_lt l0)))
  have HS2 := Lib.hid (Nat.le_trans HS1.out hb2.size)
  obtain ⟨x3, x4, x5⟩ := hX2
  obtain ⟨y3, y4, y5⟩ := hY2
  clear x0 x1 x2 y0 y1 y2 hb2 l0 l1
  go_wp2_with fail
  refine (large_c _ _ _ _ _ _).mono ?_
  rintro e W3 ⟨rfl, hb3⟩
  have l0 : w.heap.size < W2.heap.size := by have := HS2.out; omega
  have l1 : w.heap.size + 1 < W2.heap.size := by have := HS2.out; omega
  have hX3 := Box.below HX2.out hb3 l0
  have hY3 := Box.below HY2.out hb3 l1
  have HX3 := Lib.hid hX3
  have HY3 := Lib.hid hY3
  have HB3 := Lib.hid (HB2.out.trans (hb3.mono (Nat.le_of_lt l0)))
  have HS3 := Lib.hid (Nat.le_trans HS2.out hb3.size)
  obtain ⟨x6, x7, x8⟩ := hX3
  obtain ⟨y6, y7, y8⟩ := hY3
  clear x3 x4 x5 y3 y4 y5 hb3 l0 l1
  clear HX1 HY1 HS1 HB1 HX2 HY2 HS2 HB2
  have hp0 : ∀ Z, Below W3.heap.size W3 Z → Calls Try.prog 9 #[mval R0 C0 (.slice A0 l0.length k0)] Z (fun e w' => ∃ sA sn sc, e = .returned (mval R0 C0 (.slice sA sn sc)) ∧ OwnIn w' Z.heap.size w'.heap.size (.slice sA sn sc) l0.length (nums l0) ∧ Below Z.heap.size Z w' ∧ Below W3.heap.size W3 w') := fun Z hZ => by
    refine (plain_c R0 C0 A0 l0 k0 Z (by omega) ((HR0.out.below (HB3.out.trans (hZ.mono HB3.out.size))).more (Nat.le_trans HB3.out.size hZ.size))).mono ?_
    rintro e w' ⟨s, rfl, hown, hb⟩
    obtain ⟨sA, sn, sc, rfl, -⟩ := slice_of_own hown
    exact ⟨sA, sn, sc, rfl, OwnIn.of hown, hb, hZ.trans (hb.mono hZ.size)⟩
  have HP0 := Lib.hid hp0
  have hp1 : ∀ Z, Below W3.heap.size W3 Z → Calls Try.prog 9 #[mval R1 C1 (.slice A1 l1.length k1)] Z (fun e w' => ∃ sA sn sc, e = .returned (mval R1 C1 (.slice sA sn sc)) ∧ OwnIn w' Z.heap.size w'.heap.size (.slice sA sn sc) l1.length (nums l1) ∧ Below Z.heap.size Z w' ∧ Below W3.heap.size W3 w') := fun Z hZ => by
    refine (plain_c R1 C1 A1 l1 k1 Z (by omega) ((HR1.out.below (HB3.out.trans (hZ.mono HB3.out.size))).more (Nat.le_trans HB3.out.size hZ.size))).mono ?_
    rintro e w' ⟨s, rfl, hown, hb⟩
    obtain ⟨sA, sn, sc, rfl, -⟩ := slice_of_own hown
    exact ⟨sA, sn, sc, rfl, OwnIn.of hown, hb, hZ.trans (hb.mono hZ.size)⟩
  have HP1 := Lib.hid hp1
  have hk : ∀ w', Below W3.heap.size W3 w' → w'.cell? ⟨w.heap.size, 0, none⟩ = some (.int .i64 R0) ∧ w'.cell? ⟨w.heap.size, 1, none⟩ = some (.int .i64 C0) ∧ w'.cell? ⟨w.heap.size, 2, none⟩ = some (.slice A0 l0.length k0) ∧
      w'.cell? ⟨w.heap.size + 1, 0, none⟩ = some (.int .i64 R1) ∧ w'.cell? ⟨w.heap.size + 1, 1, none⟩ = some (.int .i64 C1) ∧ w'.cell? ⟨w.heap.size + 1, 2, none⟩ = some (.slice A1 l1.length k1) := fun w' h => by
    have l0 : w.heap.size < W3.heap.size := by have := HS3.out; omega
    have l1 : w.heap.size + 1 < W3.heap.size := by have := HS3.out; omega
    obtain ⟨a, b, c⟩ := Box.below HX3.out h l0
    obtain ⟨d, e, f⟩ := Box.below HY3.out h l1
    exact ⟨a, b, c, d, e, f⟩
  have HK := Lib.hid hk
  clear hk hp0 hp1
  go_wp2_with fail
  go_cut [10, 11] (fun s10 s11 wx => TwoR R0 C0 R1 C1 l0 l1 w s10 s11 wx)
  case first =>
    go_region_held3 (fun w' => w'.cell? ⟨w.heap.size, 0, none⟩ = some (.int .i64 R0) ∧ w'.cell? ⟨w.heap.size, 1, none⟩ = some (.int .i64 C0) ∧ w'.cell? ⟨w.heap.size, 2, none⟩ = some (.slice A0 l0.length k0) ∧
      w'.cell? ⟨w.heap.size + 1, 0, none⟩ = some (.int .i64 R1) ∧ w'.cell? ⟨w.heap.size + 1, 1, none⟩ = some (.int .i64 C1) ∧ w'.cell? ⟨w.heap.size + 1, 2, none⟩ = some (.slice A1 l1.length k1))
      (exact HK.out _ (by repeat (first | with_reducible assumption | with_reducible refine Below.setCell ?_ (by show W3.heap.size ≤ _; first | exact Nat.le_refl _ | exact Nat.le_succ _ | exact Below.size (B := W3.heap.size) (by assumption) | exact Nat.le_succ_of_le (Below.size (B := W3.heap.size) (by assumption))) _ | with_reducible refine Below.new ?_ (Nat.le_refl _) _ | with_reducible refine Below.drew ?_ | with_reducible exact Below.refl _ _)))
      (first
      | (go_at_call 9; (with_reducible refine (HP0.out _ ?_).mono ?_); (repeat (first | with_reducible assumption | with_reducible refine Below.setCell ?_ (by show W3.heap.size ≤ _; first | exact Nat.le_refl _ | exact Nat.le_succ _ | exact Below.size (B := W3.heap.size) (by assumption) | exact Nat.le_succ_of_le (Below.size (B := W3.heap.size) (by assumption))) _ | with_reducible refine Below.new ?_ (Nat.le_refl _) _ | with_reducible refine Below.drew ?_ | with_reducible exact Below.refl _ _)); (rintro e V ⟨sA, sn, sc, rfl, hown0, hZ0, hV⟩); have e0 := hZ0.size; (try simp at e0); (try (have ra0 := row_keep (b := W3.heap.size) (o := zrow) hZ0 (by first | exact heap_alloc_new _ _ | exact row_alloc (heap_alloc_new _ _)); have qa0 := box3 ra0; obtain ⟨xa0, ya0, za0, fa0⟩ := qa0; have ga0 := fa0 0; have ha0 := fa0 1; have ka0 := fa0 2; clear fa0; have Xa0 := fun o => (box3 (row_alloc (o' := o) ra0)).1; have Ya0 := fun o => (box3 (row_alloc (o' := o) ra0)).2.1; have Za0 := fun o => (box3 (row_alloc (o' := o) ra0)).2.2.1; have Ga0 := fun o => (box3 (row_alloc (o' := o) ra0)).2.2.2 0; have Ha0 := fun o => (box3 (row_alloc (o' := o) ra0)).2.2.2 1; have Ka0 := fun o => (box3 (row_alloc (o' := o) ra0)).2.2.2 2; have Ma0 := Nat.ne_of_lt (row_lt ra0); have Na0 := Nat.ne_of_gt (row_lt ra0))); (try (have ra1 := row_keep (b := W3.heap.size + 1) (o := zrow) hZ0 (by first | exact row_new2 _ _ _); have qa1 := box3 ra1; obtain ⟨xa1, ya1, za1, fa1⟩ := qa1; have ga1 := fa1 0; have ha1 := fa1 1; have ka1 := fa1 2; clear fa1; have Xa1 := fun o => (box3 (row_alloc (o' := o) ra1)).1; have Ya1 := fun o => (box3 (row_alloc (o' := o) ra1)).2.1; have Za1 := fun o => (box3 (row_alloc (o' := o) ra1)).2.2.1; have Ga1 := fun o => (box3 (row_alloc (o' := o) ra1)).2.2.2 0; have Ha1 := fun o => (box3 (row_alloc (o' := o) ra1)).2.2.2 1; have Ka1 := fun o => (box3 (row_alloc (o' := o) ra1)).2.2.2 2; have Ma1 := Nat.ne_of_lt (row_lt ra1); have Na1 := Nat.ne_of_gt (row_lt ra1))))
      | (go_at_call 9; (with_reducible refine (HP1.out _ ?_).mono ?_); (repeat (first | with_reducible assumption | with_reducible refine Below.setCell ?_ (by show W3.heap.size ≤ _; first | exact Nat.le_refl _ | exact Nat.le_succ _ | exact Below.size (B := W3.heap.size) (by assumption) | exact Nat.le_succ_of_le (Below.size (B := W3.heap.size) (by assumption))) _ | with_reducible refine Below.new ?_ (Nat.le_refl _) _ | with_reducible refine Below.drew ?_ | with_reducible exact Below.refl _ _)); (rintro e V' ⟨tA, tn, tc, rfl, hown1, hZ1, hV'⟩); have e1 := hZ1.size; (try simp at e1); (first | (with_reducible have hO0 := hown0.below hZ1) | (with_reducible have hO0 := (hown0.alloc zrow).below hZ1) | (with_reducible have hO0 := ((hown0.alloc zrow).alloc zrow).below hZ1)); (try (have rb0 := row_keep (b := W3.heap.size) (o := zrow) hZ1 (by first | exact ra0 | exact row_alloc ra0 | exact row_alloc (row_alloc ra0)); have qb0 := box3 rb0; obtain ⟨xb0, yb0, zb0, fb0⟩ := qb0; have gb0 := fb0 0; have hb0 := fb0 1; have kb0 := fb0 2; clear fb0; have Xb0 := fun o => (box3 (row_alloc (o' := o) rb0)).1; have Yb0 := fun o => (box3 (row_alloc (o' := o) rb0)).2.1; have Zb0 := fun o => (box3 (row_alloc (o' := o) rb0)).2.2.1; have Gb0 := fun o => (box3 (row_alloc (o' := o) rb0)).2.2.2 0; have Hb0 := fun o => (box3 (row_alloc (o' := o) rb0)).2.2.2 1; have Kb0 := fun o => (box3 (row_alloc (o' := o) rb0)).2.2.2 2; have Mb0 := Nat.ne_of_lt (row_lt rb0); have Nb0 := Nat.ne_of_gt (row_lt rb0))); (try (have rb1 := row_keep (b := W3.heap.size + 1) (o := zrow) hZ1 (by first | exact ra1 | exact row_alloc ra1 | exact row_alloc (row_alloc ra1)); have qb1 := box3 rb1; obtain ⟨xb1, yb1, zb1, fb1⟩ := qb1; have gb1 := fb1 0; have hb1 := fb1 1; have kb1 := fb1 2; clear fb1; have Xb1 := fun o => (box3 (row_alloc (o' := o) rb1)).1; have Yb1 := fun o => (box3 (row_alloc (o' := o) rb1)).2.1; have Zb1 := fun o => (box3 (row_alloc (o' := o) rb1)).2.2.1; have Gb1 := fun o => (box3 (row_alloc (o' := o) rb1)).2.2.2 0; have Hb1 := fun o => (box3 (row_alloc (o' := o) rb1)).2.2.2 1; have Kb1 := fun o => (box3 (row_alloc (o' := o) rb1)).2.2.2 2; have Mb1 := Nat.ne_of_lt (row_lt rb1); have Nb1 := Nat.ne_of_gt (row_lt rb1))); (try (have rb2 := row_keep (b := V.heap.size) (o := zrow) hZ1 (by first | exact heap_alloc_new _ _ | exact row_alloc (heap_alloc_new _ _)); have qb2 := box3 rb2; obtain ⟨xb2, yb2, zb2, fb2⟩ := qb2; have gb2 := fb2 0; have hb2 := fb2 1; have kb2 := fb2 2; clear fb2; have Xb2 := fun o => (box3 (row_alloc (o' := o) rb2)).1; have Yb2 := fun o => (box3 (row_alloc (o' := o) rb2)).2.1; have Zb2 := fun o => (box3 (row_alloc (o' := o) rb2)).2.2.1; have Gb2 := fun o => (box3 (row_alloc (o' := o) rb2)).2.2.2 0; have Hb2 := fun o => (box3 (row_alloc (o' := o) rb2)).2.2.2 1; have Kb2 := fun o => (box3 (row_alloc (o' := o) rb2)).2.2.2 2; have Mb2 := Nat.ne_of_lt (row_lt rb2); have Nb2 := Nat.ne_of_gt (row_lt rb2))); (try (have rb3 := row_keep (b := V.heap.size + 1) (o := zrow) hZ1 (by first | exact row_new2 _ _ _); have qb3 := box3 rb3; obtain ⟨xb3, yb3, zb3, fb3⟩ := qb3; have gb3 := fb3 0; have hb3 := fb3 1; have kb3 := fb3 2; clear fb3; have Xb3 := fun o => (box3 (row_alloc (o' := o) rb3)).1; have Yb3 := fun o => (box3 (row_alloc (o' := o) rb3)).2.1; have Zb3 := fun o => (box3 (row_alloc (o' := o) rb3)).2.2.1; have Gb3 := fun o => (box3 (row_alloc (o' := o) rb3)).2.2.2 0; have Hb3 := fun o => (box3 (row_alloc (o' := o) rb3)).2.2.2 1; have Kb3 := fun o => (box3 (row_alloc (o' := o) rb3)).2.2.2 2; have Mb3 := Nat.ne_of_lt (row_lt rb3); have Nb3 := Nat.ne_of_gt (row_lt rb3)))))
    all_goals
      have hO1 := hown1
      clear HP0 HP1 HK
      go_wp2_with fail
      go_meet
      first
        | (with_reducible refine two_set (X := V') hO0 hO1 ?_ ?_ ?_ ?_ ?_ ?_ ?_ ?_ ?_ ?_; all_goals (first | with_reducible exact rb0 | with_reducible exact rb1 | with_reducible exact rb2 | with_reducible exact rb3 | (with_reducible refine Below.trans HB3.out (Below.mono (B := W3.heap.size) ?_ HB3.out.size); repeat (first | with_reducible assumption | with_reducible refine Below.setCell ?_ (by show W3.heap.size ≤ _; first | exact Nat.le_refl _ | exact Nat.le_succ _ | exact Below.size (B := W3.heap.size) (by assumption) | exact Nat.le_succ_of_le (Below.size (B := W3.heap.size) (by assumption))) _ | with_reducible refine Below.new ?_ (Nat.le_refl _) _ | with_reducible refine Below.drew ?_ | with_reducible exact Below.refl _ _)) | (simp; done) | (simp; omega) | omega))
        | (with_reducible refine two_set (X := V'.alloc zrow) (hO0.alloc zrow) (hO1.alloc zrow) ?_ ?_ ?_ ?_ ?_ ?_ ?_ ?_ ?_ ?_; all_goals (first | with_reducible exact row_alloc rb0 | with_reducible exact row_alloc rb1 | with_reducible exact row_alloc rb2 | with_reducible exact row_alloc rb3 | with_reducible exact heap_alloc_new _ _ | (with_reducible refine Below.trans HB3.out (Below.mono (B := W3.heap.size) ?_ HB3.out.size); repeat (first | with_reducible assumption | with_reducible refine Below.setCell ?_ (by show W3.heap.size ≤ _; first | exact Nat.le_refl _ | exact Nat.le_succ _ | exact Below.size (B := W3.heap.size) (by assumption) | exact Nat.le_succ_of_le (Below.size (B := W3.heap.size) (by assumption))) _ | with_reducible refine Below.new ?_ (Nat.le_refl _) _ | with_reducible refine Below.drew ?_ | with_reducible exact Below.refl _ _)) | (simp; done) | (simp; omega) | omega))
        | (with_reducible refine two_new_set (X := V') hO0 hO1 ?_ ?_ ?_ ?_ ?_ ?_ ?_; all_goals (first | with_reducible exact rb0 | with_reducible exact rb1 | with_reducible exact rb2 | with_reducible exact rb3 | (with_reducible refine Below.trans HB3.out (Below.mono (B := W3.heap.size) ?_ HB3.out.size); repeat (first | with_reducible assumption | with_reducible refine Below.setCell ?_ (by show W3.heap.size ≤ _; first | exact Nat.le_refl _ | exact Nat.le_succ _ | exact Below.size (B := W3.heap.size) (by assumption) | exact Nat.le_succ_of_le (Below.size (B := W3.heap.size) (by assumption))) _ | with_reducible refine Below.new ?_ (Nat.le_refl _) _ | with_reducible refine Below.drew ?_ | with_reducible exact Below.refl _ _)) | (simp; done) | (simp; omega) | omega))
        | (with_reducible refine two_new (X := V') hO0 hO1 ?_ ?_ ?_ ?_ ?_; all_goals (first | with_reducible exact rb0 | with_reducible exact rb1 | with_reducible exact rb2 | with_reducible exact rb3 | (with_reducible refine Below.trans HB3.out (Below.mono (B := W3.heap.size) ?_ HB3.out.size); repeat (first | with_reducible assumption | with_reducible refine Below.setCell ?_ (by show W3.heap.size ≤ _; first | exact Nat.le_refl _ | exact Nat.le_succ _ | exact Below.size (B := W3.heap.size) (by assumption) | exact Nat.le_succ_of_le (Below.size (B := W3.heap.size) (by assumption))) _ | with_reducible refine Below.new ?_ (Nat.le_refl _) _ | with_reducible refine Below.drew ?_ | with_reducible exact Below.refl _ _)) | (simp; done) | (simp; omega) | omega))
        | (with_reducible refine two_new' (X := V') hO0 hO1 ?_ ?_ ?_ ?_ ?_; all_goals (first | with_reducible exact rb0 | with_reducible exact rb1 | with_reducible exact rb2 | with_reducible exact rb3 | (with_reducible refine Below.trans HB3.out (Below.mono (B := W3.heap.size) ?_ HB3.out.size); repeat (first | with_reducible assumption | with_reducible refine Below.setCell ?_ (by show W3.heap.size ≤ _; first | exact Nat.le_refl _ | exact Nat.le_succ _ | exact Below.size (B := W3.heap.size) (by assumption) | exact Nat.le_succ_of_le (Below.size (B := W3.heap.size) (by assumption))) _ | with_reducible refine Below.new ?_ (Nat.le_refl _) _ | with_reducible refine Below.drew ?_ | with_reducible exact Below.refl _ _)) | (simp; done) | (simp; omega) | omega))
  case rest =>
  obtain ⟨b0, b1, A, B, c, d, rfl, rfl, hX0, hY0, hB0⟩ := hcut
  clear HX3 HY3 HS3 HB3 HP0 HP1 HK x6 x7 x8 y6 y7 y8 HB0
  have HB0 := Lib.hid hB0
  clear hB0
  have HX0 := Lib.hid hX0
  obtain ⟨⟨xa0, xb0, xc0⟩, -⟩ := hX0
  have xA0 := fun o => (HX0.out.alloc o).1.1
  have xB0 := fun o => (HX0.out.alloc o).1.2.1
  have xC0 := fun o => (HX0.out.alloc o).1.2.2
  have HY0 := Lib.hid hY0
  obtain ⟨⟨ya0, yb0, yc0⟩, -⟩ := hY0
  have yA0 := fun o => (HY0.out.alloc o).1.1
  have yB0 := fun o => (HY0.out.alloc o).1.2.1
  have yC0 := fun o => (HY0.out.alloc o).1.2.2
  cases hbad : (okM R0 C0 l0.length && okM R1 C1 l1.length && (C0 == R1))
  · have HM := Lib.hid (Mul_bad R0 C0 R1 C1 A B l0 l1 c d wc hbad)
    go_wp2_with fail
    refine HM.out.mono ?_
    rintro e W4 ⟨s, zs, rfl, hz, hlz, hown, hb⟩
    obtain rfl := nil_of_map hz
    obtain ⟨sA, sn, sc, rfl, -⟩ := slice_of_own hown
    obtain ⟨e4, -, -⟩ := own_slice hown
    subst e4
    have hX4 := HX0.out.below hb
    have hY4 := HY0.out.below hb
    clear xa0 xb0 xc0 xA0 xB0 xC0 HX0
    have HX4 := Lib.hid hX4
    obtain ⟨⟨xa4, xb4, xc4⟩, -⟩ := hX4
    have xA4 := fun o => (HX4.out.alloc o).1.1
    have xB4 := fun o => (HX4.out.alloc o).1.2.1
    have xC4 := fun o => (HX4.out.alloc o).1.2.2
    clear ya0 yb0 yc0 yA0 yB0 yC0 HY0
    have HY4 := Lib.hid hY4
    obtain ⟨⟨ya4, yb4, yc4⟩, -⟩ := hY4
    have yA4 := fun o => (HY4.out.alloc o).1.1
    have yB4 := fun o => (HY4.out.alloc o).1.2.1
    have yC4 := fun o => (HY4.out.alloc o).1.2.2
    have HB4 := Lib.hid (HB0.out.trans (hb.mono HB0.out.size))
    clear HB0
    clear hz hlz hown hb HM
    go_wp2_with fail
    refine (is_c _ _ _ _ _ _).mono ?_
    rintro e W5 ⟨rfl, hb5⟩
    obtain ⟨⟨m0, m1, m2⟩, hq5, hl5⟩ := frame0 hb5
    have hX5 := HX4.out.below hq5
    have hY5 := HY4.out.below hq5
    clear xa4 xb4 xc4 xA4 xB4 xC4 HX4
    have HX5 := Lib.hid hX5
    obtain ⟨⟨xa5, xb5, xc5⟩, -⟩ := hX5
    have xA5 := fun o => (HX5.out.alloc o).1.1
    have xB5 := fun o => (HX5.out.alloc o).1.2.1
    have xC5 := fun o => (HX5.out.alloc o).1.2.2
    clear ya4 yb4 yc4 yA4 yB4 yC4 HY4
    have HY5 := Lib.hid hY5
    obtain ⟨⟨ya5, yb5, yc5⟩, -⟩ := hY5
    have yA5 := fun o => (HY5.out.alloc o).1.1
    have yB5 := fun o => (HY5.out.alloc o).1.2.1
    have yC5 := fun o => (HY5.out.alloc o).1.2.2
    have HB5 := Lib.hid (HB4.out.trans (hq5.mono HB4.out.size))
    clear HB4
    cases h0 : okM R0 C0 l0.length
    · clear hb5 hq5
      go_wp2
      go_ret
      exact ⟨rfl, HB5.out⟩
    · go_wp2_with fail
      refine (is_c _ _ _ _ _ _).mono ?_
      rintro e W6 ⟨rfl, hb6⟩
      obtain ⟨n0, n1, n2⟩ := Box.below (W := W5) ⟨m0, m1, m2⟩ hb6 hl5
      have hX6 := HX5.out.below hb6
      have hY6 := HY5.out.below hb6
      clear xa5 xb5 xc5 xA5 xB5 xC5 HX5
      have HX6 := Lib.hid hX6
      obtain ⟨⟨xa6, xb6, xc6⟩, -⟩ := hX6
      have xA6 := fun o => (HX6.out.alloc o).1.1
      have xB6 := fun o => (HX6.out.alloc o).1.2.1
      have xC6 := fun o => (HX6.out.alloc o).1.2.2
      clear ya5 yb5 yc5 yA5 yB5 yC5 HY5
      have HY6 := Lib.hid hY6
      obtain ⟨⟨ya6, yb6, yc6⟩, -⟩ := hY6
      have yA6 := fun o => (HY6.out.alloc o).1.1
      have yB6 := fun o => (HY6.out.alloc o).1.2.1
      have yC6 := fun o => (HY6.out.alloc o).1.2.2
      have HB6 := Lib.hid (HB5.out.trans (hb6.mono HB5.out.size))
      clear HB5
      clear hb5 hq5 hb6 m0 m1 m2
      cases h1 : okM R1 C1 l1.length
      · go_wp2
        go_ret
        exact ⟨rfl, HB6.out⟩
      · rw [h0, h1] at hbad
        have hne : (C0 == R1) = false := by simpa using hbad
        clear hbad h0 h1
        go_wp2
        go_ret
        exact ⟨rfl, HB6.out⟩

  · rw [Bool.and_eq_true, Bool.and_eq_true] at hbad
    obtain ⟨⟨hox, hoy⟩, heq⟩ := hbad
    have heq' : C0 = R1 := by simpa using heq
    obtain ⟨p1, p2, p3, p4, p5⟩ := okM_iff.1 hox
    obtain ⟨p6, p7, p8, p9, p10⟩ := okM_iff.1 hoy
    obtain ⟨r, rfl⟩ : ∃ n : Nat, R0 = (n : Int) := ⟨R0.toNat, by omega⟩
    obtain ⟨k, rfl⟩ : ∃ n : Nat, C0 = (n : Int) := ⟨C0.toNat, by omega⟩
    obtain ⟨q, rfl⟩ : ∃ n : Nat, C1 = (n : Int) := ⟨C1.toNat, by omega⟩
    subst heq'
    have hr : r ≤ 64 := by omega
    have hk : k ≤ 64 := by omega
    have hq : q ≤ 64 := by omega
    have hL0 : l0.length = r * k := by rw [← Int.natCast_mul] at p5; exact Int.ofNat_inj.1 p5
    have hL1 : l1.length = k * q := by rw [← Int.natCast_mul] at p10; exact Int.ofNat_inj.1 p10
    have HL0 := Lib.hid hL0
    have HL1 := Lib.hid hL1
    have HOX := Lib.hid hox
    have HOY := Lib.hid hoy
    have HM := Lib.hid (MMul_c r k q A B l0 l1 c d wc hr hk hq hL0 hL1 HX0.out.2.2.1 HY0.out.2.2.1)
    clear p1 p2 p3 p4 p5 p6 p7 p8 p9 p10 hL0 hL1 hox hoy heq
    go_wp2_with fail
    refine HM.out.mono ?_
    rintro e W4 ⟨s, zm, rfl, hz, hlz, hown, hb⟩
    have hzl : zm.length = r * q := by have := congrArg List.length hz; simpa [entries] using this
    have hel : (entries q (fun i j => dot l0 l1 k q i j k) (r * q)).length = zm.length := by rw [← hz, List.length_map]
    rw [hel] at hown
    clear hel
    obtain ⟨sA, sn, sc, rfl, -⟩ := slice_of_own hown
    have HZM := Lib.hid hz
    have HZL := Lib.hid hzl
    have HOWN := Lib.hid hown

    have hX4 := HX0.out.below hb
    have hY4 := HY0.out.below hb
    clear xa0 xb0 xc0 xA0 xB0 xC0 HX0
    have HX4 := Lib.hid hX4
    obtain ⟨⟨xa4, xb4, xc4⟩, -⟩ := hX4
    have xA4 := fun o => (HX4.out.alloc o).1.1
    have xB4 := fun o => (HX4.out.alloc o).1.2.1
    have xC4 := fun o => (HX4.out.alloc o).1.2.2
    clear ya0 yb0 yc0 yA0 yB0 yC0 HY0
    have HY4 := Lib.hid hY4
    obtain ⟨⟨ya4, yb4, yc4⟩, -⟩ := hY4
    have yA4 := fun o => (HY4.out.alloc o).1.1
    have yB4 := fun o => (HY4.out.alloc o).1.2.1
    have yC4 := fun o => (HY4.out.alloc o).1.2.2
    have HB4 := Lib.hid (HB0.out.trans (hb.mono HB0.out.size))
    clear HB0
    clear hz hlz hzl hown hb HM
    go_wp2_with fail
    refine (is_c _ _ _ _ _ _).mono ?_
    rintro e W5 ⟨rfl, hb5⟩
    obtain ⟨em, hM5, hq5⟩ := Has.new HOWN.out hb5
    subst em
    have hX5 := HX4.out.below hq5
    have hY5 := HY4.out.below hq5
    clear xa4 xb4 xc4 xA4 xB4 xC4 HX4
    have HX5 := Lib.hid hX5
    obtain ⟨⟨xa5, xb5, xc5⟩, -⟩ := hX5
    have xA5 := fun o => (HX5.out.alloc o).1.1
    have xB5 := fun o => (HX5.out.alloc o).1.2.1
    have xC5 := fun o => (HX5.out.alloc o).1.2.2
    clear ya4 yb4 yc4 yA4 yB4 yC4 HY4
    have HY5 := Lib.hid hY5
    obtain ⟨⟨ya5, yb5, yc5⟩, -⟩ := hY5
    have yA5 := fun o => (HY5.out.alloc o).1.1
    have yB5 := fun o => (HY5.out.alloc o).1.2.1
    have yC5 := fun o => (HY5.out.alloc o).1.2.2
    have HB5 := Lib.hid (HB4.out.trans (hq5.mono HB4.out.size))
    clear HB4
    have HM5 := Lib.hid hM5
    obtain ⟨⟨ma5, mb5, mc5⟩, -⟩ := hM5
    have mA5 := fun o => (HM5.out.alloc o).1.1
    have mB5 := fun o => (HM5.out.alloc o).1.2.1
    have mC5 := fun o => (HM5.out.alloc o).1.2.2
    clear hb5 hq5 HOWN
    rw [HOX.out]
    go_wp2_with fail
    refine (is_c _ _ _ _ _ _).mono ?_
    rintro e W6 ⟨rfl, hb6⟩
    have hX6 := HX5.out.below hb6
    have hY6 := HY5.out.below hb6
    have hM6 := HM5.out.below hb6
    clear xa5 xb5 xc5 xA5 xB5 xC5 HX5
    have HX6 := Lib.hid hX6
    obtain ⟨⟨xa6, xb6, xc6⟩, -⟩ := hX6
    have xA6 := fun o => (HX6.out.alloc o).1.1
    have xB6 := fun o => (HX6.out.alloc o).1.2.1
    have xC6 := fun o => (HX6.out.alloc o).1.2.2
    clear ya5 yb5 yc5 yA5 yB5 yC5 HY5
    have HY6 := Lib.hid hY6
    obtain ⟨⟨ya6, yb6, yc6⟩, -⟩ := hY6
    have yA6 := fun o => (HY6.out.alloc o).1.1
    have yB6 := fun o => (HY6.out.alloc o).1.2.1
    have yC6 := fun o => (HY6.out.alloc o).1.2.2
    clear ma5 mb5 mc5 mA5 mB5 mC5 HM5
    have HM6 := Lib.hid hM6
    obtain ⟨⟨ma6, mb6, mc6⟩, -⟩ := hM6
    have mA6 := fun o => (HM6.out.alloc o).1.1
    have mB6 := fun o => (HM6.out.alloc o).1.2.1
    have mC6 := fun o => (HM6.out.alloc o).1.2.2
    have HB6 := Lib.hid (HB5.out.trans (hb6.mono HB5.out.size))
    clear HB5
    clear hb6
    rw [HOY.out]
    go_wp2_with fail
    refine (is_c _ _ _ _ _ _).mono ?_
    rintro e W7 ⟨rfl, hb7⟩
    have hom : okM (r : Nat) (q : Nat) zm.length = true := okM_iff.2 ⟨by omega, by omega, by omega, by omega, by rw [HZL.out, Int.natCast_mul]⟩
    rw [hom]
    have hX7 := HX6.out.below hb7
    have hY7 := HY6.out.below hb7
    have hM7 := HM6.out.below hb7
    clear xa6 xb6 xc6 xA6 xB6 xC6 HX6
    have HX7 := Lib.hid hX7
    obtain ⟨⟨xa7, xb7, xc7⟩, -⟩ := hX7
    have xA7 := fun o => (HX7.out.alloc o).1.1
    have xB7 := fun o => (HX7.out.alloc o).1.2.1
    have xC7 := fun o => (HX7.out.alloc o).1.2.2
    clear ya6 yb6 yc6 yA6 yB6 yC6 HY6
    have HY7 := Lib.hid hY7
    obtain ⟨⟨ya7, yb7, yc7⟩, -⟩ := hY7
    have yA7 := fun o => (HY7.out.alloc o).1.1
    have yB7 := fun o => (HY7.out.alloc o).1.2.1
    have yC7 := fun o => (HY7.out.alloc o).1.2.2
    clear ma6 mb6 mc6 mA6 mB6 mC6 HM6
    have HM7 := Lib.hid hM7
    obtain ⟨⟨ma7, mb7, mc7⟩, -⟩ := hM7
    have mA7 := fun o => (HM7.out.alloc o).1.1
    have mB7 := fun o => (HM7.out.alloc o).1.2.1
    have mC7 := fun o => (HM7.out.alloc o).1.2.2
    have HB7 := Lib.hid (HB6.out.trans (hb7.mono HB6.out.size))
    clear HB6
    clear hb7 hom
    have HT := Lib.hid (Transpose_c r k A l0 c W7 hr hk HL0.out HX7.out.2.2.1 lt0)
    go_wp2_with fail
    refine HT.out.mono ?_
    rintro e W8 ⟨s, zt, rfl, hz, hlz, hown, hb⟩
    have hzl : zt.length = k * r := by have := congrArg List.length hz; simpa [entries] using this
    have hel : (entries r (fun i j => ent l0 k j i) (k * r)).length = zt.length := by rw [← hz, List.length_map]
    rw [hel] at hown
    clear hel
    obtain ⟨tA, tn, tc, rfl, -⟩ := slice_of_own hown
    have HZT := Lib.hid hz
    have HTL := Lib.hid hzl
    have HTLt := Lib.hid hlz
    have HOWN := Lib.hid hown
    have hX8 := HX7.out.below hb
    have hY8 := HY7.out.below hb
    have hM8 := HM7.out.below hb
    clear xa7 xb7 xc7 xA7 xB7 xC7 HX7
    have HX8 := Lib.hid hX8
    obtain ⟨⟨xa8, xb8, xc8⟩, -⟩ := hX8
    have xA8 := fun o => (HX8.out.alloc o).1.1
    have xB8 := fun o => (HX8.out.alloc o).1.2.1
    have xC8 := fun o => (HX8.out.alloc o).1.2.2
    clear ya7 yb7 yc7 yA7 yB7 yC7 HY7
    have HY8 := Lib.hid hY8
    obtain ⟨⟨ya8, yb8, yc8⟩, -⟩ := hY8
    have yA8 := fun o => (HY8.out.alloc o).1.1
    have yB8 := fun o => (HY8.out.alloc o).1.2.1
    have yC8 := fun o => (HY8.out.alloc o).1.2.2
    clear ma7 mb7 mc7 mA7 mB7 mC7 HM7
    have HM8 := Lib.hid hM8
    obtain ⟨⟨ma8, mb8, mc8⟩, -⟩ := hM8
    have mA8 := fun o => (HM8.out.alloc o).1.1
    have mB8 := fun o => (HM8.out.alloc o).1.2.1
    have mC8 := fun o => (HM8.out.alloc o).1.2.2
    have HB8 := Lib.hid (HB7.out.trans (hb.mono HB7.out.size))
    clear HB7
    clear hz hlz hzl hown hb HT
    go_wp2_with fail
    refine (is_c _ _ _ _ _ _).mono ?_
    rintro e W9 ⟨rfl, hb9⟩
    obtain ⟨et, hT9, hq9⟩ := Has.new HOWN.out hb9
    subst et
    have hot : okM (k : Nat) (r : Nat) zt.length = true := okM_iff.2 ⟨by omega, by omega, by omega, by omega, by rw [HTL.out, Int.natCast_mul]⟩
    rw [hot]
    have hX9 := HX8.out.below hq9
    have hY9 := HY8.out.below hq9
    have hM9 := HM8.out.below hq9
    clear xa8 xb8 xc8 xA8 xB8 xC8 HX8
    have HX9 := Lib.hid hX9
    obtain ⟨⟨xa9, xb9, xc9⟩, -⟩ := hX9
    have xA9 := fun o => (HX9.out.alloc o).1.1
    have xB9 := fun o => (HX9.out.alloc o).1.2.1
    have xC9 := fun o => (HX9.out.alloc o).1.2.2
    clear ya8 yb8 yc8 yA8 yB8 yC8 HY8
    have HY9 := Lib.hid hY9
    obtain ⟨⟨ya9, yb9, yc9⟩, -⟩ := hY9
    have yA9 := fun o => (HY9.out.alloc o).1.1
    have yB9 := fun o => (HY9.out.alloc o).1.2.1
    have yC9 := fun o => (HY9.out.alloc o).1.2.2
    clear ma8 mb8 mc8 mA8 mB8 mC8 HM8
    have HM9 := Lib.hid hM9
    obtain ⟨⟨ma9, mb9, mc9⟩, -⟩ := hM9
    have mA9 := fun o => (HM9.out.alloc o).1.1
    have mB9 := fun o => (HM9.out.alloc o).1.2.1
    have mC9 := fun o => (HM9.out.alloc o).1.2.2
    have HB9 := Lib.hid (HB8.out.trans (hq9.mono HB8.out.size))
    clear HB8
    have HT9 := Lib.hid hT9
    obtain ⟨⟨ta9, tb9, tc9⟩, -⟩ := hT9
    have tA9 := fun o => (HT9.out.alloc o).1.1
    have tB9 := fun o => (HT9.out.alloc o).1.2.1
    have tC9 := fun o => (HT9.out.alloc o).1.2.2
    clear hb9 hq9 HOWN hot
    by_cases hr0 : r = 0
    · subst hr0
      go_wp2
      go_ret
      exact ⟨rfl, HB9.out⟩
    by_cases hq0 : q = 0
    · subst hq0
      have hr1 : ((r : Int) == 0) = false := by simp; omega
      clear hr0
      go_wp2
      go_ret
      exact ⟨rfl, HB9.out⟩
    have hr1 : ((r : Int) == 0) = false := by simp; omega
    have hq1 : ((q : Int) == 0) = false := by simp; omega
    obtain ⟨a, ha⟩ : ∃ a : Nat, i % (r : Int) = (a : Int) := ⟨(i % (r : Int)).toNat, by have := Int.emod_nonneg i (show (r : Int) ≠ 0 by omega); omega⟩
    obtain ⟨b, hb'⟩ : ∃ b : Nat, j % (q : Int) = (b : Int) := ⟨(j % (q : Int)).toNat, by have := Int.emod_nonneg j (show (q : Int) ≠ 0 by omega); omega⟩
    have hal : a < r := by have := Int.emod_lt_of_pos i (show (0 : Int) < (r : Int) by omega); omega
    have hbl : b < q := by have := Int.emod_lt_of_pos j (show (0 : Int) < (q : Int) by omega); omega
    have hpi := Pick_c i (r : Int) (by omega) (by omega)
    have hpj := Pick_c j (q : Int) (by omega) (by omega)
    rw [ha] at hpi
    rw [hb'] at hpj
    have HPI := Lib.hid hpi
    have HPJ := Lib.hid hpj
    clear hpi hpj ha hb' hr0 hq0
    go_wp2_with fail
    refine (HPI.out _).mono ?_
    rintro e w' ⟨rfl, rfl⟩
    go_wp2_with fail
    refine (HPJ.out _).mono ?_
    rintro e w' ⟨rfl, rfl⟩
    clear HPI HPJ hr1 hq1
    go_wp2
    go_loopw [16, 17] (fun s i wr => MeanR l0 l1 k q a b W9 s i wr) (fun _ i _ => k - (intOf i).toNat)
    case atStart => exact ⟨0, (0, 0), Nat.zero_le _, rfl, rfl, (by decide : cnC (0, 0) = (0, 0)), Below.refl _ _⟩
    case round =>
      obtain ⟨n, z, hn, rfl, rfl, hz, hbv⟩ := hrel
      have HZ := Lib.hid hz
      have HBV := Lib.hid hbv
      have hXr := HX9.out.below hbv
      have hYr := HY9.out.below hbv
      have hMr := HM9.out.below hbv
      have hTr := HT9.out.below hbv
      have HXR := Lib.hid hXr
      have HYR := Lib.hid hYr
      have HMR := Lib.hid hMr
      have HTR := Lib.hid hTr
      obtain ⟨⟨x0, x1, x2⟩, -⟩ := hXr
      obtain ⟨⟨y0, y1, y2⟩, -⟩ := hYr
      obtain ⟨⟨m0, m1, m2⟩, -⟩ := hMr
      obtain ⟨⟨t0, t1, t2⟩, -⟩ := hTr
      clear hz hbv xa9 xb9 xc9 xA9 xB9 xC9 ya9 yb9 yc9 yA9 yB9 yC9 ma9 mb9 mc9 mA9 mB9 mC9 ta9 tb9 tc9 tA9 tB9 tC9
      by_cases hlt : n < k
      · rename World => wv
        have hea : ∀ V, Below wv.heap.size wv V → Calls Try.prog 56 #[mval r k (.slice A l0.length c), .int .i64 (a : Nat), .int .i64 (n : Nat)] V (FromV (.complex .f64 (l0.getD (a * k + n) (0, 0)).1 (l0.getD (a * k + n) (0, 0)).2) wv.heap.size wv) := fun V hV =>
          from_v (entry7_c r k A l0 c a n V HL0.out hr hk hal hlt ((HXR.out.2.2.1.below hV).more hV.size)) hV (Nat.le_refl _)
        have heb : ∀ V, Below wv.heap.size wv V → Calls Try.prog 56 #[mval k q (.slice B l1.length d), .int .i64 (n : Nat), .int .i64 (b : Nat)] V (FromV (.complex .f64 (l1.getD (n * q + b) (0, 0)).1 (l1.getD (n * q + b) (0, 0)).2) wv.heap.size wv) := fun V hV =>
          from_v (entry7_c k q B l1 d n b V HL1.out hk hq hlt hbl ((HYR.out.2.2.1.below hV).more hV.size)) hV (Nat.le_refl _)
        have hkk : ∀ w', Below wv.heap.size wv w' → w'.cell? ⟨b0, 0, none⟩ = some (.int .i64 (r : Nat)) ∧ w'.cell? ⟨b0, 1, none⟩ = some (.int .i64 (k : Nat)) ∧ w'.cell? ⟨b0, 2, none⟩ = some (.slice A l0.length c) ∧
            w'.cell? ⟨b1, 0, none⟩ = some (.int .i64 (k : Nat)) ∧ w'.cell? ⟨b1, 1, none⟩ = some (.int .i64 (q : Nat)) ∧ w'.cell? ⟨b1, 2, none⟩ = some (.slice B l1.length d) := fun w' h =>
          ⟨(HXR.out.below h).1.1, (HXR.out.below h).1.2.1, (HXR.out.below h).1.2.2, (HYR.out.below h).1.1, (HYR.out.below h).1.2.1, (HYR.out.below h).1.2.2⟩
        have HEA := Lib.hid hea
        have HEB := Lib.hid heb
        have HKK := Lib.hid hkk
        clear hea heb hkk
        go_wp2
        go_region_held3 (fun w' => w'.cell? ⟨b0, 0, none⟩ = some (.int .i64 (r : Nat)) ∧ w'.cell? ⟨b0, 1, none⟩ = some (.int .i64 (k : Nat)) ∧ w'.cell? ⟨b0, 2, none⟩ = some (.slice A l0.length c) ∧
            w'.cell? ⟨b1, 0, none⟩ = some (.int .i64 (k : Nat)) ∧ w'.cell? ⟨b1, 1, none⟩ = some (.int .i64 (q : Nat)) ∧ w'.cell? ⟨b1, 2, none⟩ = some (.slice B l1.length d))
          (exact HKK.out _ (by repeat (first | with_reducible assumption | with_reducible refine Below.drew ?_ | with_reducible exact Below.refl _ _)))
          (first
          | (go_at_call 56; (with_reducible refine (HEA.out _ ?_).mono ?_); (repeat (first | with_reducible assumption | with_reducible refine Below.drew ?_ | with_reducible exact Below.refl _ _)); (rintro e V ⟨rfl, hV⟩))
          | (go_at_call 56; (with_reducible refine (HEB.out _ ?_).mono ?_); (repeat (first | with_reducible assumption | with_reducible refine Below.drew ?_ | with_reducible exact Below.refl _ _)); (rintro e V ⟨rfl, hV⟩))
          | (go_at_call 55; refine (from_c (B := wv.heap.size) (w := wv) (Mul_c _ _ _ _ _) ?_).mono ?_; (with_reducible assumption); (rintro e V ⟨y, rfl, hy, ly, hV⟩))
          | (go_at_call 54; refine (from_c (B := wv.heap.size) (w := wv) (Add_c _ _ _ _ _) ?_).mono ?_; (with_reducible assumption); (rintro e V ⟨x, rfl, hx, lx, hV⟩)))
        all_goals
          have hs : cnC x = dot l0 l1 k q a b (n + 1) := by
            rw [hx]
            show pAdd (cnC z) (cnC y) = pAdd (dot l0 l1 k q a b n) (pMul (ent l0 k a n) (ent l1 q n b))
            rw [HZ.out, hy]
            unfold ent
            rw [List.getD_eq_getElem?_getD, List.getD_eq_getElem?_getD]
          have HSS := Lib.hid hs
          have HV3 := Lib.hid (HBV.out.trans (hV.mono HBV.out.size))
          clear hs hx hy hV
          go_wp2
          go_roundw
          case rel => exact ⟨n + 1, x, hlt, by go_num, rfl, HSS.out, HV3.out⟩
          case measure => simp [intOf]; omega
      · have e : n = k := by omega
        subst e
        rename World => wv
        have HBW := Lib.hid (HB9.out.trans (HBV.out.mono HB9.out.size))
        have HRow := Lib.hid (Row_c r n A l0 c a wv hr hk HL0.out HXR.out.2.2.2.2 HXR.out.2.2.2.1 hal HXR.out.2.2.1)
        clear HBV hn
        have xA := fun o => (HXR.out.alloc o).1.1
        go_wp2_with fail
        refine HRow.out.mono ?_
        rintro e V1 ⟨s1, rfl, hown1, hb1⟩
        have hT1 := HTR.out.below hb1
        have HT1 := Lib.hid hT1
        have HM1 := Lib.hid (HMR.out.below hb1)
        have hlr : (rowOf l0 n a).length = n := rowOf_length HL0.out hal
        rw [hlr] at hown1
        obtain ⟨rA, rc, rfl, hrd1, -, -⟩ := own_reads hown1
        have HRd1 := Lib.hid hrd1
        have HB1 := Lib.hid (HBW.out.trans (hb1.mono HBW.out.size))
        obtain ⟨⟨t3, t4, t5⟩, -⟩ := hT1
        have HCol := Lib.hid (Col_c n r tA zt tc a V1 hk hr HTL.out hal HT1.out.2.2.1 HTLt.out)
        clear hown1 hb1 hrd1 x0 x1 x2 y0 y1 y2 m0 m1 m2 t0 t1 t2 xA
        go_wp2_with fail
        refine HCol.out.mono ?_
        rintro e V2 ⟨s2, zc, rfl, hzc, hlc, hown2, hb2⟩
        have hM2 := HM1.out.below hb2
        have HM2 := Lib.hid hM2
        obtain ⟨⟨m3, m4, m5⟩, -⟩ := hM2
        have hlcn : ((List.range n).map fun i => ent zt r i a).length = n := by simp
        rw [hlcn] at hown2
        obtain ⟨cA, cc, rfl, hrd2, -, -⟩ := own_reads hown2
        have HRd1' := Lib.hid ((HRd1.out.below hb2).more hb2.size)
        have HRd2 := Lib.hid hrd2
        have HB2 := Lib.hid (HB1.out.trans (hb2.mono HB1.out.size))
        have HEn := Lib.hid (entry7_c r q sA zm sc a b V2 HZL.out hr hq hal hbl HM2.out.2.2.1)
        have hps : pSame (cnC z) (cnC (zm.getD (a * q + b) (0, 0))) = true := by
          have h1 := at_made HZM.out hal hbl
          unfold ent at h1
          rw [HZ.out, h1]
          unfold pSame; simp
        have HPS := Lib.hid hps
        have hmm : (rowOf l0 n a).map cnC = zc.map cnC := by
          rw [rowOf_ent HL0.out hal, hzc]
          exact map_range_congr fun i hi => (at_made HZT.out hi hal).symm
        have HMM := Lib.hid hmm
        have HLR := Lib.hid hlr
        have HLC := Lib.hid (show zc.length = n by have := congrArg List.length hzc; simpa using this)
        clear hzc hlc hown2 hb2 hrd2 hps hmm t3 t4 t5
        go_wp2_with fail
        refine HEn.out.mono ?_
        rintro e V3 ⟨rfl, hb3⟩
        have HR1 := Lib.hid ((HRd1'.out.below hb3).more hb3.size)
        have HR2 := Lib.hid ((HRd2.out.below hb3).more hb3.size)
        have HB3 := Lib.hid (HB2.out.trans (hb3.mono HB2.out.size))
        clear hb3
        go_wp2_with fail
        refine (Same_c _ _ _ _ _).mono ?_
        rintro e w' ⟨rfl, rfl⟩
        have hps2 : pSame (cn .f64 z.1, cn .f64 z.2) (cn .f64 (zm[a * q + b]?.getD (0, 0)).1, cn .f64 (zm[a * q + b]?.getD (0, 0)).2) = true := by
          have h := HPS.out
          rw [List.getD_eq_getElem?_getD] at h; exact h
        rw [hps2]
        clear hps2
        go_wp2_with fail
        refine (SameNumbers_t rA cA (rowOf l0 n a) zc n rc cc V3 HLR.out HLC.out HMM.out (by omega) HR1.out HR2.out).mono ?_
        rintro e w' ⟨nn, rfl, rfl⟩
        go_wp2
        go_ret
        exact ⟨rfl, below_drewN HB3.out nn⟩
theorem Means_big0 (R0 C0 R1 C1 : Int) (A0 A1 : Option Addr) (l0 l1 : List C) (k0 k1 : Nat) (i j : Int) (w : World) (hl0 : 4098 < l0.length) :
    Calls Try.prog 5 #[mval R0 C0 (.slice A0 l0.length k0), mval R1 C1 (.slice A1 l1.length k1), .int .i64 i, .int .i64 j] w (RetBB true w) := by
  have hd : decide ((l0.length : Int) > 4098) = true := by simp; omega
  have HL := Lib.hid (large_c R0 C0 A0 l0.length k0)
  rw [hd] at HL
  clear hd hl0
  go_enter Try.func5, Try.ntmps5
  go_wp2_with fail
  refine (awake7_c _).mono ?_
  rintro e W1 ⟨rfl, h1⟩
  obtain ⟨⟨x0, x1, x2⟩, -, hb1, hs1⟩ := frame2b h1
  have HB1 := Lib.hid hb1
  clear h1 hb1 hs1
  go_wp2_with fail
  refine (HL.out _).mono ?_
  rintro e W2 ⟨rfl, hb2⟩
  have HB2 := Lib.hid (HB1.out.trans (hb2.mono HB1.out.size))
  clear hb2
  go_wp2
  go_ret
  exact ⟨rfl, HB2.out⟩
theorem Means_big1 (R0 C0 R1 C1 : Int) (A0 A1 : Option Addr) (l0 l1 : List C) (k0 k1 : Nat) (i j : Int) (w : World) (hl0 : l0.length ≤ 4098) (hl1 : 4098 < l1.length) :
    Calls Try.prog 5 #[mval R0 C0 (.slice A0 l0.length k0), mval R1 C1 (.slice A1 l1.length k1), .int .i64 i, .int .i64 j] w (RetBB true w) := by
  have hd : decide ((l0.length : Int) > 4098) = false := by simp; omega
  have hd1 : decide ((l1.length : Int) > 4098) = true := by simp; omega
  have HL := Lib.hid (large_c R0 C0 A0 l0.length k0)
  have HL1 := Lib.hid (large_c R1 C1 A1 l1.length k1)
  rw [hd] at HL
  rw [hd1] at HL1
  clear hd hd1 hl0 hl1
  go_enter Try.func5, Try.ntmps5
  go_wp2_with fail
  refine (awake7_c _).mono ?_
  rintro e W1 ⟨rfl, h1⟩
  obtain ⟨⟨x0, x1, x2⟩, hY, hb1, hs1⟩ := frame2b h1
  have HY := Lib.hid hY
  have HB1 := Lib.hid hb1
  have HS1 := Lib.hid hs1
  clear h1 hb1 hs1 hY
  go_wp2_with fail
  refine (HL.out _).mono ?_
  rintro e W2 ⟨rfl, hb2⟩
  obtain ⟨y0, y1, y2⟩ := Box.below HY.out hb2 (by have := HS1.out; omega)
  have HB2 := Lib.hid (HB1.out.trans (hb2.mono HB1.out.size))
  clear hb2 x0 x1 x2
  go_wp2_with fail
  refine (HL1.out _).mono ?_
  rintro e W3 ⟨rfl, hb3⟩
  have HB3 := Lib.hid (HB2.out.trans (hb3.mono HB2.out.size))
  clear hb3
  go_wp2
  go_ret
  exact ⟨rfl, HB3.out⟩
end Go.Proofs.Ytdkcdcbbpebgmaa
