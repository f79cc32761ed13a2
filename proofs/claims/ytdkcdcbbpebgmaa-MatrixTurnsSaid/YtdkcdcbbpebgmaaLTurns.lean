/- Layer 7: there and back: transposes, conjugates, changed rows; sums, products (gridworklaw07.MatrixTurns). -/
import Derived.Test.YtdkcdcbbpebgmaaL07C
import Derived.Test.YtdkcdcbbpebgmaaLSums
import Derived.Test.YtdkcdcbbpebgmaaMX12
namespace Go.Proofs.Ytdkcdcbbpebgmaa
open Go.RowKit Fl Ieee
set_option maxRecDepth 20000
attribute [local go_sem] run_store_float run_store_complex Fl.order_self Fl.order_self' Fl.order_eq Fl.order_ne Fl.order_lt Fl.order_gt
theorem Mul_bad2 (R0 C0 R1 C1 : Int) (A B : Option Addr) (n0 n1 c d : Nat) (W : World) (h0 : okM R0 C0 n0 = true) (h : (C0 == R1) = false) :
    Calls Try.prog 31 #[mval R0 C0 (.slice A n0 c), mval R1 C1 (.slice B n1 d)] W (RetMxE 0 0 [] 4 W) :=
  Mul_second R0 C0 R1 C1 A B _ _ c d W h0 (Or.inr h)
theorem MConj_nil (A : Option Addr) (l : List C) (cap : Nat) (w : World) (hl : l.map cnC = []) : Calls Try.prog 33 #[mval 0 0 (.slice A l.length cap)] w (RetMxE 0 0 [] 0 w) := by
  have e : l = [] := List.map_eq_nil_iff.1 hl
  subst e
  exact MConj_c 0 0 A [] cap w (by omega) (by omega) rfl (fun h => absurd h (by simp)) (by simp [ltCs])
theorem Swap_nil (A : Option Addr) (l : List C) (cap : Nat) (i j : Int) (w : World) (hl : l.map cnC = []) : Calls Try.prog 34 #[mval 0 0 (.slice A l.length cap), .int .i64 i, .int .i64 j] w (RetMxE 0 0 [] 2 w) := by
  have e : l = [] := List.map_eq_nil_iff.1 hl
  subst e
  refine Swap_arg 0 0 A 0 cap i j w (by decide) ?_
  rcases Int.lt_or_le i 0 with h | h
  · exact .inl (by simpa using h)
  · exact .inr (.inl ⟨by simpa using h, by simpa using h⟩)
theorem conj_ent {l : List C} (h : ltCs l) (c i j : Nat) : pConj (pConj (ent l c i j)) = ent l c i j := conj_conj (ltC_ent h c i j) (cn_cn .f64 _)
theorem sums_c (r c p q : Nat) (A B T : Option Addr) (l0 l1 zt : List C) (k0 k1 k2 : Nat) (w : World) (hr : r ≤ 64) (hc : c ≤ 64) (hp : p ≤ 64) (hq : q ≤ 64) (hl0 : l0.length = r * c) (hl1 : l1.length = p * q) (hX : Mat w A l0 k0) (hY : Mat w B l1 k1) (hT : Mat w T zt k2)
    (hzt : zt.map cnC = entries r (fun i j => ent l0 c j i) (c * r)) :
    Calls Try.prog 59 #[mval r c (.slice A l0.length k0), mval p q (.slice B l1.length k1), mval c r (.slice T zt.length k2)] w (RetBB true w) := by
  by_cases h : r = p ∧ c = q
  · obtain ⟨rfl, rfl⟩ := h
    exact sums_same r c A B T l0 l1 zt k0 k1 k2 w hr hc hl0 hl1 hX hY hT hzt
  · exact sums_diff r c p q A B T l0 l1 zt k0 k1 k2 w hr hc hp hq (by omega) hl0 hl1 hX hY hT hzt
theorem ents_of {zs l : List C} {r c : Nat} {E : Nat → Nat → C} (hz : zs.map cnC = entries c E (r * c)) (hl : l.length = r * c) (h : ∀ i j, i < r → j < c → E i j = ent l c i j) : zs.map cnC = l.map cnC := by
  rw [hz, ents_self hl]
  refine entries_congr fun k hk => ?_
  have hc0 : 0 < c := by
    rcases Nat.eq_zero_or_pos c with h | h
    · subst h; simp at hk
    · exact h
  exact h _ _ (Nat.div_lt_of_lt_mul (by rw [Nat.mul_comm]; exact hk)) (Nat.mod_lt _ hc0)
theorem turn_last {l0 l1 zg zv zo zf zm : List C} {r c q n : Nat} {z z' z'' : C} (h0 : ltCs l0) (h1 : ltCs l1) (hg : zg.map cnC = entries c (fun i j => pConj (ent l0 c i j)) (r * c)) (hv : zv.map cnC = entries q (fun i j => pConj (ent l1 q i j)) (c * q))
    (ho : zo.map cnC = entries q (fun i j => dot l0 l1 c q i j c) (r * q)) (hf : zf.map cnC = entries q (fun i j => dot zg zv c q i j c) (r * q)) (hm : zm.map cnC = entries q (fun i j => pConj (ent zo q i j)) (r * q))
    (ez : zo[n]? = some z) (ez' : zm[n]? = some z') (ez'' : zf[n]? = some z'') (n1 : feq .f64 z.1 z.1 = true) (n2 : feq .f64 z.2 z.2 = true) : feq .f64 z'.1 z''.1 = true ∧ feq .f64 z'.2 z''.2 = true := by
  have hk := lt_of_some ez
  rw [len_made ho] at hk
  have hq0 : 0 < q := by
    rcases Nat.eq_zero_or_pos q with h | h
    · subst h; simp at hk
    · exact h
  have hi : n / q < r := Nat.div_lt_of_lt_mul (by rw [Nat.mul_comm]; exact hk)
  have hj : n % q < q := Nat.mod_lt _ hq0
  have e : n / q * q + n % q = n := by rw [Nat.mul_comm]; exact Nat.div_add_mod n q
  have place : ∀ {zs : List C} {u : C}, zs[n]? = some u → ent zs q (n / q) (n % q) = cnC u := fun h => by unfold ent; rw [e, List.getD_eq_getElem?_getD, h]; rfl
  have a1 := at_made ho hi hj
  have a2 := at_made hm hi hj
  have a3 := at_made hf hi hj
  rw [place ez] at a1
  rw [place ez', place ez, a1] at a2
  rw [place ez''] at a3
  have key := dot_conj (k := c) (q := q) (i := n / q) (j := n % q) h0 h1 (fun m hm => at_made hg hi hm) (fun m hm => at_made hv hm hj) c (Nat.le_refl _)
  rw [← a3, ← a2] at key
  have m1 : isNaN double z.1 = false := by rw [feq_self, Bool.not_eq_true'] at n1; exact n1
  have m2 : isNaN double z.2 = false := by rw [feq_self, Bool.not_eq_true'] at n2; exact n2
  have b1 : isNaN double (cnC z).1 = false := (isNaN_cn .f64 z.1).trans m1
  have b2 : isNaN double (cnC z).2 = false := (isNaN_cn .f64 z.2).trans m2
  rw [a1] at b1 b2
  have c1 : isNaN double (cnC z').1 = false := by rw [a2]; exact b1
  have c2 : isNaN double (cnC z').2 = false := by rw [a2]; show isNaN double (fneg _) = false; rw [isNaN_fneg (ltC_dot c).2]; exact b2
  have f1 := zq.feq (zq.symm key.1) c1
  have f2 := zq.feq (zq.symm key.2) c2
  exact ⟨(feq_cn .f64 z'.1 z''.1).symm.trans f1, (feq_cn .f64 z'.2 z''.2).symm.trans f2⟩

set_option maxHeartbeats 16000000 in
theorem Turns_small (R0 C0 R1 C1 : Int) (A0 A1 : Option Addr) (l0 l1 : List C) (k0 k1 : Nat) (i j : Int) (w : World) (hl0 : l0.length ≤ 4098) (hl1 : l1.length ≤ 4098) (hr0 : Reads w w.heap.size A0 (zcells l0)) (hr1 : Reads w w.heap.size A1 (zcells l1)) (lt0 : ltCs l0) (lt1 : ltCs l1) :
    Calls Try.prog 7 #[mval R0 C0 (.slice A0 l0.length k0), mval R1 C1 (.slice A1 l1.length k1), .int .i64 i, .int .i64 j] w (RetBB true w) := by
  have hb0 : Below w.heap.size w ((w.alloc (.cells #[.int .i64 R0, .int .i64 C0, .slice A0 l0.length k0] 24)).alloc (.cells #[.int .i64 R1, .int .i64 C1, .slice A1 l1.length k1] 24)) :=
    ((Below.refl _ w).new (Nat.le_refl _) _).new (Nat.le_refl _) _
  have HB0 := Lib.hid hb0
  have HR0 := Lib.hid hr0
  have HR1 := Lib.hid hr1
  clear hb0 hr0 hr1
  go_enter Try.func7, Try.ntmps7
  go_wp2_with fail
  refine (awake7_c _).mono ?_
  rintro e W1 ⟨rfl, h1⟩
  obtain ⟨bx, by_, hb1, hs1⟩ := frame2b h1
  have HX1 := Lib.hid bx
  have HY1 := Lib.hid by_
  have HS1 := Lib.hid hs1
  have HB1 := Lib.hid hb1
  obtain ⟨x0, x1, x2⟩ := bx
  obtain ⟨y0, y1, y2⟩ := by_
  clear h1 hb1 hs1
  go_wp2_with fail
  refine (large_c _ _ _ _ _ _).mono ?_
  rintro e W2 ⟨rfl, hb2⟩
  have l0 : w.heap.size < W1.heap.size := by have := HS1.out; omega
  have l1 : w.heap.size + 1 < W1.heap.size := by have := HS1.out; omega
  have hX2 := Box.below HX1.out hb2 l0
  have hY2 := Box.below HY1.out hb2 l1
  have HX2 := Lib.hid hX2
  have HY2 := Lib.hid hY2
  have HB2 := Lib.hid (HB1.out.trans (hb2.mono (Nat.le_of_lt l0)))
  have HS2 := Lib.hid (Nat.le_trans HS1.out hb2.size)
  obtain ⟨x3, x4, x5⟩ := hX2
  obtain ⟨y3, y4, y5⟩ := hY2
  clear x0 x1 x2 y0 y1 y2 hb2 l0 l1
  go_wp2_with fail
  refine (large_c _ _ _ _ _ _).mono ?_
  rintro e W3 ⟨rfl, hb3⟩
  have l0 : w.heap.size < W2.heap.size := by have := HS2.out; omega
  have l1 : w.heap.size + 1 < W2.heap.size := by have := HS2.out; omega
  have hX3 := Box.below HX2.out hb3 l0
  have hY3 := Box.below HY2.out hb3 l1
  have HX3 := Lib.hid hX3
  have HY3 := Lib.hid hY3
  have HB3 := Lib.hid (HB2.out.trans (hb3.mono (Nat.le_of_lt l0)))
  have HS3 := Lib.hid (Nat.le_trans HS2.out hb3.size)
  obtain ⟨x6, x7, x8⟩ := hX3
  obtain ⟨y6, y7, y8⟩ := hY3
  clear x3 x4 x5 y3 y4 y5 hb3 l0 l1
  clear HX1 HY1 HS1 HB1 HX2 HY2 HS2 HB2
  have hp0 : ∀ Z, Below W3.heap.size W3 Z → Calls Try.prog 9 #[mval R0 C0 (.slice A0 l0.length k0)] Z (fun e w' => ∃ sA sn sc, e = .returned (mval R0 C0 (.slice sA sn sc)) ∧ OwnIn w' Z.heap.size w'.heap.size (.slice sA sn sc) l0.length (nums l0) ∧ Below Z.heap.size Z w' ∧ Below W3.heap.size W3 w') := fun Z hZ => by
    refine (plain_c R0 C0 A0 l0 k0 Z (by omega) ((HR0.out.below (HB3.out.trans (hZ.mono HB3.out.size))).more (Nat.le_trans HB3.out.size hZ.size))).mono ?_
    rintro e w' ⟨s, rfl, hown, hb⟩
    obtain ⟨sA, sn, sc, rfl, -⟩ := slice_of_own hown
    exact ⟨sA, sn, sc, rfl, OwnIn.of hown, hb, hZ.trans (hb.mono hZ.size)⟩
  have HP0 := Lib.hid hp0
  have hp1 : ∀ Z, Below W3.heap.size W3 Z → Calls Try.prog 9 #[mval R1 C1 (.slice A1 l1.length k1)] Z (fun e w' => ∃ sA sn sc, e = .returned (mval R1 C1 (.slice sA sn sc)) ∧ OwnIn w' Z.heap.size w'.heap.size (.slice sA sn sc) l1.length (nums l1) ∧ Below Z.heap.size Z w' ∧ Below W3.heap.size W3 w') := fun Z hZ => by
    refine (plain_c R1 C1 A1 l1 k1 Z (by omega) ((HR1.out.below (HB3.out.trans (hZ.mono HB3.out.size))).more (Nat.le_trans HB3.out.size hZ.size))).mono ?_
    rintro e w' ⟨s, rfl, hown, hb⟩
    obtain ⟨sA, sn, sc, rfl, -⟩ := slice_of_own hown
    exact ⟨sA, sn, sc, rfl, OwnIn.of hown, hb, hZ.trans (hb.mono hZ.size)⟩
  have HP1 := Lib.hid hp1
  have hk : ∀ w', Below W3.heap.size W3 w' → w'.cell? ⟨w.heap.size, 0, none⟩ = some (.int .i64 R0) ∧ w'.cell? ⟨w.heap.size, 1, none⟩ = some (.int .i64 C0) ∧ w'.cell? ⟨w.heap.size, 2, none⟩ = some (.slice A0 l0.length k0) ∧
      w'.cell? ⟨w.heap.size + 1, 0, none⟩ = some (.int .i64 R1) ∧ w'.cell? ⟨w.heap.size + 1, 1, none⟩ = some (.int .i64 C1) ∧ w'.cell? ⟨w.heap.size + 1, 2, none⟩ = some (.slice A1 l1.length k1) := fun w' h => by
    have l0 : w.heap.size < W3.heap.size := by have := HS3.out; omega
    have l1 : w.heap.size + 1 < W3.heap.size := by have := HS3.out; omega
    obtain ⟨a, b, c⟩ := Box.below HX3.out h l0
    obtain ⟨d, e, f⟩ := Box.below HY3.out h l1
    exact ⟨a, b, c, d, e, f⟩
  have HK := Lib.hid hk
  clear hk hp0 hp1
  go_wp2_with fail
  go_cut [10, 11] (fun s10 s11 wx => TwoR R0 C0 R1 C1 l0 l1 w s10 s11 wx)
  case first =>
    go_region_held3 (fun w' => w'.cell? ⟨w.heap.size, 0, none⟩ = some (.int .i64 R0) ∧ w'.cell? ⟨w.heap.size, 1, none⟩ = some (.int .i64 C0) ∧ w'.cell? ⟨w.heap.size, 2, none⟩ = some (.slice A0 l0.length k0) ∧
      w'.cell? ⟨w.heap.size + 1, 0, none⟩ = some (.int .i64 R1) ∧ w'.cell? ⟨w.heap.size + 1, 1, none⟩ = some (.int .i64 C1) ∧ w'.cell? ⟨w.heap.size + 1, 2, none⟩ = some (.slice A1 l1.length k1))
      (exact HK.out _ (by repeat (first | with_reducible assumption | with_reducible refine Below.setCell ?_ (by show W3.heap.size ≤ _; first | exact Nat.le_refl _ | exact Nat.le_succ _ | exact Below.size (B := W3.heap.size) (by assumption) | exact Nat.le_succ_of_le (Below.size (B := W3.heap.size) (by assumption))) _ | with_reducible refine Below.new ?_ (Nat.le_refl _) _ | with_reducible refine Below.drew ?_ | with_reducible exact Below.refl _ _)))
      (first
      | (go_at_call 9; (with_reducible refine (HP0.out _ ?_).mono ?_); (repeat (first | with_reducible assumption | with_reducible refine Below.setCell ?_ (by show W3.heap.size ≤ _; first | exact Nat.le_refl _ | exact Nat.le_succ _ | exact Below.size (B := W3.heap.size) (by assumption) | exact Nat.le_succ_of_le (Below.size (B := W3.heap.size) (by assumption))) _ | with_reducible refine Below.new ?_ (Nat.le_refl _) _ | with_reducible refine Below.drew ?_ | with_reducible exact Below.refl _ _)); (rintro e V ⟨sA, sn, sc, rfl, hown0, hZ0, hV⟩); have e0 := hZ0.size; (try simp at e0); (try (have ra0 := row_keep (b := W3.heap.size) (o := zrow) hZ0 (by first | exact heap_alloc_new _ _ | exact row_alloc (heap_alloc_new _ _)))); (try (have ra1 := row_keep (b := W3.heap.size + 1) (o := zrow) hZ0 (by first | exact row_new2 _ _ _))))
      | (go_at_call 9; (with_reducible refine (HP1.out _ ?_).mono ?_); (repeat (first | with_reducible assumption | with_reducible refine Below.setCell ?_ (by show W3.heap.size ≤ _; first | exact Nat.le_refl _ | exact Nat.le_succ _ | exact Below.size (B := W3.heap.size) (by assumption) | exact Nat.le_succ_of_le (Below.size (B := W3.heap.size) (by assumption))) _ | with_reducible refine Below.new ?_ (Nat.le_refl _) _ | with_reducible refine Below.drew ?_ | with_reducible exact Below.refl _ _)); (rintro e V' ⟨tA, tn, tc, rfl, hown1, hZ1, hV'⟩); have e1 := hZ1.size; (try simp at e1); (first | (with_reducible have hO0 := hown0.below hZ1) | (with_reducible have hO0 := (hown0.alloc zrow).below hZ1) | (with_reducible have hO0 := ((hown0.alloc zrow).alloc zrow).below hZ1)); (try (have rb0 := row_keep (b := W3.heap.size) (o := zrow) hZ1 (by first | exact ra0 | exact row_alloc ra0 | exact row_alloc (row_alloc ra0)); obtain ⟨xb0, yb0, zb0, fb0⟩ := box3 rb0; have gb0 := fb0 0; have hb0 := fb0 1; have kb0 := fb0 2; clear fb0; have Mb0 := Nat.ne_of_lt (row_lt rb0); have Nb0 := Nat.ne_of_gt (row_lt rb0); have Bb0 := fun o => box3 (row_alloc (o' := o) rb0); have Xb0 := fun o => (Bb0 o).1; have Yb0 := fun o => (Bb0 o).2.1; have Zb0 := fun o => (Bb0 o).2.2.1; have Gb0 := fun o => (Bb0 o).2.2.2 0; have Hb0 := fun o => (Bb0 o).2.2.2 1; have Kb0 := fun o => (Bb0 o).2.2.2 2; clear Bb0)); (try (have rb1 := row_keep (b := W3.heap.size + 1) (o := zrow) hZ1 (by first | exact ra1 | exact row_alloc ra1 | exact row_alloc (row_alloc ra1)); obtain ⟨xb1, yb1, zb1, fb1⟩ := box3 rb1; have gb1 := fb1 0; have hb1 := fb1 1; have kb1 := fb1 2; clear fb1; have Mb1 := Nat.ne_of_lt (row_lt rb1); have Nb1 := Nat.ne_of_gt (row_lt rb1); have Bb1 := fun o => box3 (row_alloc (o' := o) rb1); have Xb1 := fun o => (Bb1 o).1; have Yb1 := fun o => (Bb1 o).2.1; have Zb1 := fun o => (Bb1 o).2.2.1; have Gb1 := fun o => (Bb1 o).2.2.2 0; have Hb1 := fun o => (Bb1 o).2.2.2 1; have Kb1 := fun o => (Bb1 o).2.2.2 2; clear Bb1)); (try (have rb2 := row_keep (b := V.heap.size) (o := zrow) hZ1 (by first | exact heap_alloc_new _ _ | exact row_alloc (heap_alloc_new _ _)); obtain ⟨xb2, yb2, zb2, fb2⟩ := box3 rb2; have gb2 := fb2 0; have hb2 := fb2 1; have kb2 := fb2 2; clear fb2; have Mb2 := Nat.ne_of_lt (row_lt rb2); have Nb2 := Nat.ne_of_gt (row_lt rb2); have Bb2 := fun o => box3 (row_alloc (o' := o) rb2); have Xb2 := fun o => (Bb2 o).1; have Yb2 := fun o => (Bb2 o).2.1; have Zb2 := fun o => (Bb2 o).2.2.1; have Gb2 := fun o => (Bb2 o).2.2.2 0; have Hb2 := fun o => (Bb2 o).2.2.2 1; have Kb2 := fun o => (Bb2 o).2.2.2 2; clear Bb2)); (try (have rb3 := row_keep (b := V.heap.size + 1) (o := zrow) hZ1 (by first | exact row_new2 _ _ _); obtain ⟨xb3, yb3, zb3, fb3⟩ := box3 rb3; have gb3 := fb3 0; have hb3 := fb3 1; have kb3 := fb3 2; clear fb3; have Mb3 := Nat.ne_of_lt (row_lt rb3); have Nb3 := Nat.ne_of_gt (row_lt rb3); have Bb3 := fun o => box3 (row_alloc (o' := o) rb3); have Xb3 := fun o => (Bb3 o).1; have Yb3 := fun o => (Bb3 o).2.1; have Zb3 := fun o => (Bb3 o).2.2.1; have Gb3 := fun o => (Bb3 o).2.2.2 0; have Hb3 := fun o => (Bb3 o).2.2.2 1; have Kb3 := fun o => (Bb3 o).2.2.2 2; clear Bb3))))
    all_goals
      as_aux_lemma =>
        have hO1 := hown1
        clear HP0 HP1 HK
        go_wp2_with fail
        go_meet
        first
          | (with_reducible refine two_set (X := V') hO0 hO1 ?_ ?_ ?_ ?_ ?_ ?_ ?_ ?_ ?_ ?_; all_goals (first | with_reducible exact rb0 | with_reducible exact rb1 | with_reducible exact rb2 | with_reducible exact rb3 | (with_reducible refine Below.trans HB3.out (Below.mono (B := W3.heap.size) ?_ HB3.out.size); repeat (first | with_reducible assumption | with_reducible refine Below.setCell ?_ (by show W3.heap.size ≤ _; first | exact Nat.le_refl _ | exact Nat.le_succ _ | exact Below.size (B := W3.heap.size) (by assumption) | exact Nat.le_succ_of_le (Below.size (B := W3.heap.size) (by assumption))) _ | with_reducible refine Below.new ?_ (Nat.le_refl _) _ | with_reducible refine Below.drew ?_ | with_reducible exact Below.refl _ _)) | (simp; done) | (simp; omega) | omega))
          | (with_reducible refine two_set (X := V'.alloc zrow) (hO0.alloc zrow) (hO1.alloc zrow) ?_ ?_ ?_ ?_ ?_ ?_ ?_ ?_ ?_ ?_; all_goals (first | with_reducible exact row_alloc rb0 | with_reducible exact row_alloc rb1 | with_reducible exact row_alloc rb2 | with_reducible exact row_alloc rb3 | with_reducible exact heap_alloc_new _ _ | (with_reducible refine Below.trans HB3.out (Below.mono (B := W3.heap.size) ?_ HB3.out.size); repeat (first | with_reducible assumption | with_reducible refine Below.setCell ?_ (by show W3.heap.size ≤ _; first | exact Nat.le_refl _ | exact Nat.le_succ _ | exact Below.size (B := W3.heap.size) (by assumption) | exact Nat.le_succ_of_le (Below.size (B := W3.heap.size) (by assumption))) _ | with_reducible refine Below.new ?_ (Nat.le_refl _) _ | with_reducible refine Below.drew ?_ | with_reducible exact Below.refl _ _)) | (simp; done) | (simp; omega) | omega))
          | (with_reducible refine two_new_set (X := V') hO0 hO1 ?_ ?_ ?_ ?_ ?_ ?_ ?_; all_goals (first | with_reducible exact rb0 | with_reducible exact rb1 | with_reducible exact rb2 | with_reducible exact rb3 | (with_reducible refine Below.trans HB3.out (Below.mono (B := W3.heap.size) ?_ HB3.out.size); repeat (first | with_reducible assumption | with_reducible refine Below.setCell ?_ (by show W3.heap.size ≤ _; first | exact Nat.le_refl _ | exact Nat.le_succ _ | exact Below.size (B := W3.heap.size) (by assumption) | exact Nat.le_succ_of_le (Below.size (B := W3.heap.size) (by assumption))) _ | with_reducible refine Below.new ?_ (Nat.le_refl _) _ | with_reducible refine Below.drew ?_ | with_reducible exact Below.refl _ _)) | (simp; done) | (simp; omega) | omega))
          | (with_reducible refine two_new (X := V') hO0 hO1 ?_ ?_ ?_ ?_ ?_; all_goals (first | with_reducible exact rb0 | with_reducible exact rb1 | with_reducible exact rb2 | with_reducible exact rb3 | (with_reducible refine Below.trans HB3.out (Below.mono (B := W3.heap.size) ?_ HB3.out.size); repeat (first | with_reducible assumption | with_reducible refine Below.setCell ?_ (by show W3.heap.size ≤ _; first | exact Nat.le_refl _ | exact Nat.le_succ _ | exact Below.size (B := W3.heap.size) (by assumption) | exact Nat.le_succ_of_le (Below.size (B := W3.heap.size) (by assumption))) _ | with_reducible refine Below.new ?_ (Nat.le_refl _) _ | with_reducible refine Below.drew ?_ | with_reducible exact Below.refl _ _)) | (simp; done) | (simp; omega) | omega))
          | (with_reducible refine two_new' (X := V') hO0 hO1 ?_ ?_ ?_ ?_ ?_; all_goals (first | with_reducible exact rb0 | with_reducible exact rb1 | with_reducible exact rb2 | with_reducible exact rb3 | (with_reducible refine Below.trans HB3.out (Below.mono (B := W3.heap.size) ?_ HB3.out.size); repeat (first | with_reducible assumption | with_reducible refine Below.setCell ?_ (by show W3.heap.size ≤ _; first | exact Nat.le_refl _ | exact Nat.le_succ _ | exact Below.size (B := W3.heap.size) (by assumption) | exact Nat.le_succ_of_le (Below.size (B := W3.heap.size) (by assumption))) _ | with_reducible refine Below.new ?_ (Nat.le_refl _) _ | with_reducible refine Below.drew ?_ | with_reducible exact Below.refl _ _)) | (simp; done) | (simp; omega) | omega))
  case rest =>
  as_aux_lemma =>
    obtain ⟨b0, b1, A, B, kx, ky, rfl, rfl, hX0, hY0, hB0⟩ := hcut
    clear HX3 HY3 HS3 HB3 HP0 HP1 HK x6 x7 x8 y6 y7 y8 HB0
    have BE0 := Lib.hid hB0
    clear hB0
    have HX0 := Lib.hid hX0
    obtain ⟨⟨xa0, xb0, xc0⟩, -⟩ := hX0
    have xA0 := fun o => (HX0.out.alloc o).1.1
    have xB0 := fun o => (HX0.out.alloc o).1.2.1
    have xC0 := fun o => (HX0.out.alloc o).1.2.2
    have HY0 := Lib.hid hY0
    obtain ⟨⟨ya0, yb0, yc0⟩, -⟩ := hY0
    have yA0 := fun o => (HY0.out.alloc o).1.1
    have yB0 := fun o => (HY0.out.alloc o).1.2.1
    have yC0 := fun o => (HY0.out.alloc o).1.2.2
    cases hox : okM R0 C0 l0.length
    · have HO := Lib.hid (is_c R0 C0 A l0.length kx)
      rw [hox] at HO
      go_wp2_with fail
      refine (HO.out _).mono ?_
      rintro e W4 ⟨rfl, hb⟩
      have BE4 := Lib.hid (BE0.out.trans (hb.mono BE0.out.size))
      clear hb
      go_wp2
      go_ret
      exact ⟨rfl, BE4.out⟩
    have HO := Lib.hid (is_c R0 C0 A l0.length kx)
    rw [hox] at HO
    go_wp2_with fail
    refine (HO.out _).mono ?_
    rintro e W1 ⟨rfl, hb⟩
    have hX1 := HX0.out.below hb
    have hY1 := HY0.out.below hb
    clear xa0 xb0 xc0 xA0 xB0 xC0 HX0
    have HX1 := Lib.hid hX1
    obtain ⟨⟨xa1, xb1, xc1⟩, -⟩ := hX1
    have xA1 := fun o => (HX1.out.alloc o).1.1
    have xB1 := fun o => (HX1.out.alloc o).1.2.1
    have xC1 := fun o => (HX1.out.alloc o).1.2.2
    clear ya0 yb0 yc0 yA0 yB0 yC0 HY0
    have HY1 := Lib.hid hY1
    obtain ⟨⟨ya1, yb1, yc1⟩, -⟩ := hY1
    have yA1 := fun o => (HY1.out.alloc o).1.1
    have yB1 := fun o => (HY1.out.alloc o).1.2.1
    have yC1 := fun o => (HY1.out.alloc o).1.2.2
    have BE1 := Lib.hid (BE0.out.trans (hb.mono BE0.out.size))
    clear BE0
    clear hb
    cases hoy : okM R1 C1 l1.length
    · have HO1 := Lib.hid (is_c R1 C1 B l1.length ky)
      rw [hoy] at HO1
      go_wp2_with fail
      refine (HO1.out _).mono ?_
      rintro e W4 ⟨rfl, hb⟩
      have BE4 := Lib.hid (BE1.out.trans (hb.mono BE1.out.size))
      clear hb
      go_wp2
      go_ret
      exact ⟨rfl, BE4.out⟩
    have HO1 := Lib.hid (is_c R1 C1 B l1.length ky)
    rw [hoy] at HO1
    go_wp2_with fail
    refine (HO1.out _).mono ?_
    rintro e W2 ⟨rfl, hb⟩
    have hX2 := HX1.out.below hb
    have hY2 := HY1.out.below hb
    clear xa1 xb1 xc1 xA1 xB1 xC1 HX1
    have HX2 := Lib.hid hX2
    obtain ⟨⟨xa2, xb2, xc2⟩, -⟩ := hX2
    have xA2 := fun o => (HX2.out.alloc o).1.1
    have xB2 := fun o => (HX2.out.alloc o).1.2.1
    have xC2 := fun o => (HX2.out.alloc o).1.2.2
    clear ya1 yb1 yc1 yA1 yB1 yC1 HY1
    have HY2 := Lib.hid hY2
    obtain ⟨⟨ya2, yb2, yc2⟩, -⟩ := hY2
    have yA2 := fun o => (HY2.out.alloc o).1.1
    have yB2 := fun o => (HY2.out.alloc o).1.2.1
    have yC2 := fun o => (HY2.out.alloc o).1.2.2
    have BE2 := Lib.hid (BE1.out.trans (hb.mono BE1.out.size))
    clear BE1
    clear hb
    clear HO HO1
    obtain ⟨p1, p2, p3, p4, p5⟩ := okM_iff.1 hox
    obtain ⟨p6, p7, p8, p9, p10⟩ := okM_iff.1 hoy
    obtain ⟨r, rfl⟩ : ∃ n : Nat, R0 = (n : Int) := ⟨R0.toNat, by omega⟩
    obtain ⟨c, rfl⟩ : ∃ n : Nat, C0 = (n : Int) := ⟨C0.toNat, by omega⟩
    obtain ⟨p, rfl⟩ : ∃ n : Nat, R1 = (n : Int) := ⟨R1.toNat, by omega⟩
    obtain ⟨q, rfl⟩ : ∃ n : Nat, C1 = (n : Int) := ⟨C1.toNat, by omega⟩
    have hr : r ≤ 64 := by omega
    have hc : c ≤ 64 := by omega
    have hp : p ≤ 64 := by omega
    have hq : q ≤ 64 := by omega
    have hL0 : l0.length = r * c := by rw [← Int.natCast_mul] at p5; exact Int.ofNat_inj.1 p5
    have hL1 : l1.length = p * q := by rw [← Int.natCast_mul] at p10; exact Int.ofNat_inj.1 p10
    have HL0 := Lib.hid hL0
    have HL1 := Lib.hid hL1
    have HOX := Lib.hid hox
    have HOY := Lib.hid hoy
    have LT0 := Lib.hid lt0
    have LT1 := Lib.hid lt1
    clear p1 p2 p3 p4 p5 p6 p7 p8 p9 p10 hL0 hL1 hox hoy lt0 lt1
    go_wp2_with fail
    refine (Transpose_c r c A l0 kx _ hr hc HL0.out HX2.out.2.2.1 LT0.out).mono ?_
    rintro e W3 ⟨s, zt, rfl, hz, hlz, hown, hb⟩
    have hX3 := HX2.out.below hb
    have hY3 := HY2.out.below hb
    clear xa2 xb2 xc2 xA2 xB2 xC2 HX2
    have HX3 := Lib.hid hX3
    obtain ⟨⟨xa3, xb3, xc3⟩, -⟩ := hX3
    have xA3 := fun o => (HX3.out.alloc o).1.1
    have xB3 := fun o => (HX3.out.alloc o).1.2.1
    have xC3 := fun o => (HX3.out.alloc o).1.2.2
    clear ya2 yb2 yc2 yA2 yB2 yC2 HY2
    have HY3 := Lib.hid hY3
    obtain ⟨⟨ya3, yb3, yc3⟩, -⟩ := hY3
    have yA3 := fun o => (HY3.out.alloc o).1.1
    have yB3 := fun o => (HY3.out.alloc o).1.2.1
    have yC3 := fun o => (HY3.out.alloc o).1.2.2
    have BE3 := Lib.hid (BE2.out.trans (hb.mono BE2.out.size))
    clear BE2
    have hel := congrArg List.length hz
    rw [List.length_map] at hel
    rw [← hel] at hown
    obtain ⟨tA, tn, tc, rfl, -⟩ := slice_of_own hown
    obtain ⟨en, -, -⟩ := own_slice hown
    subst en
    have HZT := Lib.hid hz
    have HTT := Lib.hid hlz
    have PT := Lib.hid (fun o => ((Reads.of_own hown).below (below_new W3 o)).more (below_new W3 o).size)
    have OWN := Lib.hid hown
    clear hz hlz hel hown hb
    go_wp2_with fail
    refine (Transpose_c c r tA zt tc _ hc hr (len_made HZT.out) (PT.out _) HTT.out).mono ?_
    rintro e W4 ⟨s, zu, rfl, hz, hlz, hown, hb⟩
    obtain ⟨-, hT4, hq⟩ := Has.new OWN.out hb
    clear OWN PT
    have hX4 := HX3.out.below hq
    have hY4 := HY3.out.below hq
    clear xa3 xb3 xc3 xA3 xB3 xC3 HX3
    have HX4 := Lib.hid hX4
    obtain ⟨⟨xa4, xb4, xc4⟩, -⟩ := hX4
    have xA4 := fun o => (HX4.out.alloc o).1.1
    have xB4 := fun o => (HX4.out.alloc o).1.2.1
    have xC4 := fun o => (HX4.out.alloc o).1.2.2
    clear ya3 yb3 yc3 yA3 yB3 yC3 HY3
    have HY4 := Lib.hid hY4
    obtain ⟨⟨ya4, yb4, yc4⟩, -⟩ := hY4
    have yA4 := fun o => (HY4.out.alloc o).1.1
    have yB4 := fun o => (HY4.out.alloc o).1.2.1
    have yC4 := fun o => (HY4.out.alloc o).1.2.2
    have BE4 := Lib.hid (BE3.out.trans (hq.mono BE3.out.size))
    clear BE3
    have HT4 := Lib.hid hT4
    obtain ⟨⟨ta4, tb4, tc4⟩, -⟩ := hT4
    have tA4 := fun o => (HT4.out.alloc o).1.1
    have tB4 := fun o => (HT4.out.alloc o).1.2.1
    have tC4 := fun o => (HT4.out.alloc o).1.2.2
    clear hq
    have hel := congrArg List.length hz
    rw [List.length_map] at hel
    rw [← hel] at hown
    obtain ⟨uA, un, uc, rfl, -⟩ := slice_of_own hown
    obtain ⟨en, -, -⟩ := own_slice hown
    subst en
    have HZU := Lib.hid hz
    have HTU := Lib.hid hlz
    have PU := Lib.hid (fun o => ((Reads.of_own hown).below (below_new W4 o)).more (below_new W4 o).size)
    have OWN := Lib.hid hown
    clear hz hlz hel hown hb
    go_wp2_with fail
    refine (MConj_c r c A l0 kx _ hr hc HL0.out ((HX4.out.alloc _).2.2.1) LT0.out).mono ?_
    rintro e W5 ⟨s, zg, rfl, hz, hlz, hown, hb⟩
    obtain ⟨-, hU5, hq⟩ := Has.new OWN.out hb
    clear OWN PU
    have hX5 := HX4.out.below hq
    have hY5 := HY4.out.below hq
    have hT5 := HT4.out.below hq
    clear xa4 xb4 xc4 xA4 xB4 xC4 HX4
    have HX5 := Lib.hid hX5
    obtain ⟨⟨xa5, xb5, xc5⟩, -⟩ := hX5
    have xA5 := fun o => (HX5.out.alloc o).1.1
    have xB5 := fun o => (HX5.out.alloc o).1.2.1
    have xC5 := fun o => (HX5.out.alloc o).1.2.2
    clear ya4 yb4 yc4 yA4 yB4 yC4 HY4
    have HY5 := Lib.hid hY5
    obtain ⟨⟨ya5, yb5, yc5⟩, -⟩ := hY5
    have yA5 := fun o => (HY5.out.alloc o).1.1
    have yB5 := fun o => (HY5.out.alloc o).1.2.1
    have yC5 := fun o => (HY5.out.alloc o).1.2.2
    clear ta4 tb4 tc4 tA4 tB4 tC4 HT4
    have HT5 := Lib.hid hT5
    obtain ⟨⟨ta5, tb5, tc5⟩, -⟩ := hT5
    have tA5 := fun o => (HT5.out.alloc o).1.1
    have tB5 := fun o => (HT5.out.alloc o).1.2.1
    have tC5 := fun o => (HT5.out.alloc o).1.2.2
    have BE5 := Lib.hid (BE4.out.trans (hq.mono BE4.out.size))
    clear BE4
    have HU5 := Lib.hid hU5
    obtain ⟨⟨ua5, ub5, uc5⟩, -⟩ := hU5
    have uA5 := fun o => (HU5.out.alloc o).1.1
    have uB5 := fun o => (HU5.out.alloc o).1.2.1
    have uC5 := fun o => (HU5.out.alloc o).1.2.2
    clear hq
    have hel := congrArg List.length hz
    rw [List.length_map] at hel
    rw [← hel] at hown
    obtain ⟨gA, gn, gc, rfl, -⟩ := slice_of_own hown
    obtain ⟨en, -, -⟩ := own_slice hown
    subst en
    have HZG := Lib.hid hz
    have HTG := Lib.hid hlz
    have PG := Lib.hid (fun o => ((Reads.of_own hown).below (below_new W5 o)).more (below_new W5 o).size)
    have OWN := Lib.hid hown
    clear hz hlz hel hown hb
    go_wp2_with fail
    refine (MConj_c r c gA zg gc _ hr hc (len_made HZG.out) (PG.out _) HTG.out).mono ?_
    rintro e W6 ⟨s, zd, rfl, hz, hlz, hown, hb⟩
    obtain ⟨-, hG6, hq⟩ := Has.new OWN.out hb
    clear OWN PG
    have hX6 := HX5.out.below hq
    have hY6 := HY5.out.below hq
    have hT6 := HT5.out.below hq
    have hU6 := HU5.out.below hq
    clear xa5 xb5 xc5 xA5 xB5 xC5 HX5
    have HX6 := Lib.hid hX6
    obtain ⟨⟨xa6, xb6, xc6⟩, -⟩ := hX6
    have xA6 := fun o => (HX6.out.alloc o).1.1
    have xB6 := fun o => (HX6.out.alloc o).1.2.1
    have xC6 := fun o => (HX6.out.alloc o).1.2.2
    clear ya5 yb5 yc5 yA5 yB5 yC5 HY5
    have HY6 := Lib.hid hY6
    obtain ⟨⟨ya6, yb6, yc6⟩, -⟩ := hY6
    have yA6 := fun o => (HY6.out.alloc o).1.1
    have yB6 := fun o => (HY6.out.alloc o).1.2.1
    have yC6 := fun o => (HY6.out.alloc o).1.2.2
    clear ta5 tb5 tc5 tA5 tB5 tC5 HT5
    have HT6 := Lib.hid hT6
    obtain ⟨⟨ta6, tb6, tc6⟩, -⟩ := hT6
    have tA6 := fun o => (HT6.out.alloc o).1.1
    have tB6 := fun o => (HT6.out.alloc o).1.2.1
    have tC6 := fun o => (HT6.out.alloc o).1.2.2
    clear ua5 ub5 uc5 uA5 uB5 uC5 HU5
    have HU6 := Lib.hid hU6
    obtain ⟨⟨ua6, ub6, uc6⟩, -⟩ := hU6
    have uA6 := fun o => (HU6.out.alloc o).1.1
    have uB6 := fun o => (HU6.out.alloc o).1.2.1
    have uC6 := fun o => (HU6.out.alloc o).1.2.2
    have BE6 := Lib.hid (BE5.out.trans (hq.mono BE5.out.size))
    clear BE5
    have HG6 := Lib.hid hG6
    obtain ⟨⟨ga6, gb6, gc6⟩, -⟩ := hG6
    have gA6 := fun o => (HG6.out.alloc o).1.1
    have gB6 := fun o => (HG6.out.alloc o).1.2.1
    have gC6 := fun o => (HG6.out.alloc o).1.2.2
    clear hq
    have hel := congrArg List.length hz
    rw [List.length_map] at hel
    rw [← hel] at hown
    obtain ⟨dA, dn, dc, rfl, -⟩ := slice_of_own hown
    obtain ⟨en, -, -⟩ := own_slice hown
    subst en
    have HZD := Lib.hid hz
    have HTD := Lib.hid hlz
    have PD := Lib.hid (fun o => ((Reads.of_own hown).below (below_new W6 o)).more (below_new W6 o).size)
    have OWN := Lib.hid hown
    clear hz hlz hel hown hb
    have HUX := Lib.hid (ents_of HZU.out HL0.out fun i j hi hj => at_made HZT.out hj hi)
    have HDX := Lib.hid (ents_of HZD.out HL0.out fun i j hi hj => by rw [at_made HZG.out hi hj]; exact conj_ent LT0.out c i j)
    by_cases hij : 0 ≤ i ∧ i < (r : Int) ∧ 0 ≤ j ∧ j < (r : Int)
    · obtain ⟨i1, i2, j1, j2⟩ := hij
      obtain ⟨a, rfl⟩ : ∃ n : Nat, i = (n : Int) := ⟨i.toNat, by omega⟩
      obtain ⟨b, rfl⟩ : ∃ n : Nat, j = (n : Int) := ⟨j.toNat, by omega⟩
      have ha : a < r := by omega
      have hb' : b < r := by omega
      clear i1 i2 j1 j2
      as_aux_lemma =>
        go_wp2_with fail
        refine (Swap_c r c a b A l0 kx _ hr hc ha hb' HL0.out ((HX6.out.alloc _).2.2.1) LT0.out).mono ?_
        rintro e W7 ⟨s, zs, rfl, hz, hlz, hown, hb⟩
        obtain ⟨-, hD7, hq⟩ := Has.new OWN.out hb
        clear OWN PD
        have hX7 := HX6.out.below hq
        have hY7 := HY6.out.below hq
        have hT7 := HT6.out.below hq
        have hU7 := HU6.out.below hq
        have hG7 := HG6.out.below hq
        clear xa6 xb6 xc6 xA6 xB6 xC6 HX6
        have HX7 := Lib.hid hX7
        obtain ⟨⟨xa7, xb7, xc7⟩, -⟩ := hX7
        have xA7 := fun o => (HX7.out.alloc o).1.1
        have xB7 := fun o => (HX7.out.alloc o).1.2.1
        have xC7 := fun o => (HX7.out.alloc o).1.2.2
        clear ya6 yb6 yc6 yA6 yB6 yC6 HY6
        have HY7 := Lib.hid hY7
        obtain ⟨⟨ya7, yb7, yc7⟩, -⟩ := hY7
        have yA7 := fun o => (HY7.out.alloc o).1.1
        have yB7 := fun o => (HY7.out.alloc o).1.2.1
        have yC7 := fun o => (HY7.out.alloc o).1.2.2
        clear ta6 tb6 tc6 tA6 tB6 tC6 HT6
        have HT7 := Lib.hid hT7
        obtain ⟨⟨ta7, tb7, tc7⟩, -⟩ := hT7
        have tA7 := fun o => (HT7.out.alloc o).1.1
        have tB7 := fun o => (HT7.out.alloc o).1.2.1
        have tC7 := fun o => (HT7.out.alloc o).1.2.2
        clear ua6 ub6 uc6 uA6 uB6 uC6 HU6
        have HU7 := Lib.hid hU7
        obtain ⟨⟨ua7, ub7, uc7⟩, -⟩ := hU7
        have uA7 := fun o => (HU7.out.alloc o).1.1
        have uB7 := fun o => (HU7.out.alloc o).1.2.1
        have uC7 := fun o => (HU7.out.alloc o).1.2.2
        clear ga6 gb6 gc6 gA6 gB6 gC6 HG6
        have HG7 := Lib.hid hG7
        obtain ⟨⟨ga7, gb7, gc7⟩, -⟩ := hG7
        have gA7 := fun o => (HG7.out.alloc o).1.1
        have gB7 := fun o => (HG7.out.alloc o).1.2.1
        have gC7 := fun o => (HG7.out.alloc o).1.2.2
        have BE7 := Lib.hid (BE6.out.trans (hq.mono BE6.out.size))
        clear BE6
        have HD7 := Lib.hid hD7
        obtain ⟨⟨da7, db7, dc7⟩, -⟩ := hD7
        have dA7 := fun o => (HD7.out.alloc o).1.1
        have dB7 := fun o => (HD7.out.alloc o).1.2.1
        have dC7 := fun o => (HD7.out.alloc o).1.2.2
        clear hq
        have hel := congrArg List.length hz
        rw [List.length_map] at hel
        rw [← hel] at hown
        obtain ⟨sA, sn, sc, rfl, -⟩ := slice_of_own hown
        obtain ⟨en, -, -⟩ := own_slice hown
        subst en
        have HZS := Lib.hid hz
        have HTS := Lib.hid hlz
        have PS := Lib.hid (fun o => ((Reads.of_own hown).below (below_new W7 o)).more (below_new W7 o).size)
        have OWN := Lib.hid hown
        clear hz hlz hel hown hb
        go_wp2_with fail
        refine (Swap_c r c a b sA zs sc _ hr hc ha hb' (len_made HZS.out) (PS.out _) HTS.out).mono ?_
        rintro e W8 ⟨s, zw, rfl, hz, hlz, hown, hb⟩
        obtain ⟨-, hS8, hq⟩ := Has.new OWN.out hb
        clear OWN PS
        have hX8 := HX7.out.below hq
        have hY8 := HY7.out.below hq
        have hT8 := HT7.out.below hq
        have hU8 := HU7.out.below hq
        have hG8 := HG7.out.below hq
        have hD8 := HD7.out.below hq
        clear xa7 xb7 xc7 xA7 xB7 xC7 HX7
        have HX8 := Lib.hid hX8
        obtain ⟨⟨xa8, xb8, xc8⟩, -⟩ := hX8
        have xA8 := fun o => (HX8.out.alloc o).1.1
        have xB8 := fun o => (HX8.out.alloc o).1.2.1
        have xC8 := fun o => (HX8.out.alloc o).1.2.2
        clear ya7 yb7 yc7 yA7 yB7 yC7 HY7
        have HY8 := Lib.hid hY8
        obtain ⟨⟨ya8, yb8, yc8⟩, -⟩ := hY8
        have yA8 := fun o => (HY8.out.alloc o).1.1
        have yB8 := fun o => (HY8.out.alloc o).1.2.1
        have yC8 := fun o => (HY8.out.alloc o).1.2.2
        clear ta7 tb7 tc7 tA7 tB7 tC7 HT7
        have HT8 := Lib.hid hT8
        obtain ⟨⟨ta8, tb8, tc8⟩, -⟩ := hT8
        have tA8 := fun o => (HT8.out.alloc o).1.1
        have tB8 := fun o => (HT8.out.alloc o).1.2.1
        have tC8 := fun o => (HT8.out.alloc o).1.2.2
        clear ua7 ub7 uc7 uA7 uB7 uC7 HU7
        have HU8 := Lib.hid hU8
        obtain ⟨⟨ua8, ub8, uc8⟩, -⟩ := hU8
        have uA8 := fun o => (HU8.out.alloc o).1.1
        have uB8 := fun o => (HU8.out.alloc o).1.2.1
        have uC8 := fun o => (HU8.out.alloc o).1.2.2
        clear ga7 gb7 gc7 gA7 gB7 gC7 HG7
        have HG8 := Lib.hid hG8
        obtain ⟨⟨ga8, gb8, gc8⟩, -⟩ := hG8
        have gA8 := fun o => (HG8.out.alloc o).1.1
        have gB8 := fun o => (HG8.out.alloc o).1.2.1
        have gC8 := fun o => (HG8.out.alloc o).1.2.2
        clear da7 db7 dc7 dA7 dB7 dC7 HD7
        have HD8 := Lib.hid hD8
        obtain ⟨⟨da8, db8, dc8⟩, -⟩ := hD8
        have dA8 := fun o => (HD8.out.alloc o).1.1
        have dB8 := fun o => (HD8.out.alloc o).1.2.1
        have dC8 := fun o => (HD8.out.alloc o).1.2.2
        have BE8 := Lib.hid (BE7.out.trans (hq.mono BE7.out.size))
        clear BE7
        have HS8 := Lib.hid hS8
        obtain ⟨⟨sa8, sb8, sc8⟩, -⟩ := hS8
        have sA8 := fun o => (HS8.out.alloc o).1.1
        have sB8 := fun o => (HS8.out.alloc o).1.2.1
        have sC8 := fun o => (HS8.out.alloc o).1.2.2
        clear hq
        have hel := congrArg List.length hz
        rw [List.length_map] at hel
        rw [← hel] at hown
        obtain ⟨wA, wn, wc, rfl, -⟩ := slice_of_own hown
        obtain ⟨en, -, -⟩ := own_slice hown
        subst en
        have HZW := Lib.hid hz
        have HTW := Lib.hid hlz
        have PW := Lib.hid (fun o => ((Reads.of_own hown).below (below_new W8 o)).more (below_new W8 o).size)
        have OWN := Lib.hid hown
        clear hz hlz hel hown hb
        have HWX := Lib.hid (ents_of HZW.out HL0.out fun i j hi hj => by rw [at_made HZS.out (swp_lt ha hb' hi) hj, swp_swp])
        go_wp2_with fail
        refine (SameMatrix_u r c uA A zu l0 uc kx _ HUX.out (by rw [len_made HZU.out]; exact prod_small hr hc) ((HU8.out.alloc _).2.2.1) ((HX8.out.alloc _).2.2.1)).mono ?_
        rintro e W9 ⟨rfl, hb⟩
        obtain ⟨-, hW9, hq⟩ := Has.new OWN.out hb
        clear OWN PW
        have hX9 := HX8.out.below hq
        have hY9 := HY8.out.below hq
        have hT9 := HT8.out.below hq
        have hU9 := HU8.out.below hq
        have hG9 := HG8.out.below hq
        have hD9 := HD8.out.below hq
        have hS9 := HS8.out.below hq
        clear xa8 xb8 xc8 xA8 xB8 xC8 HX8
        have HX9 := Lib.hid hX9
        obtain ⟨⟨xa9, xb9, xc9⟩, -⟩ := hX9
        have xA9 := fun o => (HX9.out.alloc o).1.1
        have xB9 := fun o => (HX9.out.alloc o).1.2.1
        have xC9 := fun o => (HX9.out.alloc o).1.2.2
        clear ya8 yb8 yc8 yA8 yB8 yC8 HY8
        have HY9 := Lib.hid hY9
        obtain ⟨⟨ya9, yb9, yc9⟩, -⟩ := hY9
        have yA9 := fun o => (HY9.out.alloc o).1.1
        have yB9 := fun o => (HY9.out.alloc o).1.2.1
        have yC9 := fun o => (HY9.out.alloc o).1.2.2
        clear ta8 tb8 tc8 tA8 tB8 tC8 HT8
        have HT9 := Lib.hid hT9
        obtain ⟨⟨ta9, tb9, tc9⟩, -⟩ := hT9
        have tA9 := fun o => (HT9.out.alloc o).1.1
        have tB9 := fun o => (HT9.out.alloc o).1.2.1
        have tC9 := fun o => (HT9.out.alloc o).1.2.2
        clear ua8 ub8 uc8 uA8 uB8 uC8 HU8
        have HU9 := Lib.hid hU9
        obtain ⟨⟨ua9, ub9, uc9⟩, -⟩ := hU9
        have uA9 := fun o => (HU9.out.alloc o).1.1
        have uB9 := fun o => (HU9.out.alloc o).1.2.1
        have uC9 := fun o => (HU9.out.alloc o).1.2.2
        clear ga8 gb8 gc8 gA8 gB8 gC8 HG8
        have HG9 := Lib.hid hG9
        obtain ⟨⟨ga9, gb9, gc9⟩, -⟩ := hG9
        have gA9 := fun o => (HG9.out.alloc o).1.1
        have gB9 := fun o => (HG9.out.alloc o).1.2.1
        have gC9 := fun o => (HG9.out.alloc o).1.2.2
        clear da8 db8 dc8 dA8 dB8 dC8 HD8
        have HD9 := Lib.hid hD9
        obtain ⟨⟨da9, db9, dc9⟩, -⟩ := hD9
        have dA9 := fun o => (HD9.out.alloc o).1.1
        have dB9 := fun o => (HD9.out.alloc o).1.2.1
        have dC9 := fun o => (HD9.out.alloc o).1.2.2
        clear sa8 sb8 sc8 sA8 sB8 sC8 HS8
        have HS9 := Lib.hid hS9
        obtain ⟨⟨sa9, sb9, sc9⟩, -⟩ := hS9
        have sA9 := fun o => (HS9.out.alloc o).1.1
        have sB9 := fun o => (HS9.out.alloc o).1.2.1
        have sC9 := fun o => (HS9.out.alloc o).1.2.2
        have BE9 := Lib.hid (BE8.out.trans (hq.mono BE8.out.size))
        clear BE8
        have HW9 := Lib.hid hW9
        obtain ⟨⟨wa9, wb9, wc9⟩, -⟩ := hW9
        have wA9 := fun o => (HW9.out.alloc o).1.1
        have wB9 := fun o => (HW9.out.alloc o).1.2.1
        have wC9 := fun o => (HW9.out.alloc o).1.2.2
        clear hq
        clear hb
        go_wp2_with fail
        refine (SameMatrix_u r c dA A zd l0 dc kx _ HDX.out (by rw [len_made HZD.out]; exact prod_small hr hc) HD9.out.2.2.1 HX9.out.2.2.1).mono ?_
        rintro e W10 ⟨rfl, hb⟩
        have hX10 := HX9.out.below hb
        have hY10 := HY9.out.below hb
        have hT10 := HT9.out.below hb
        have hU10 := HU9.out.below hb
        have hG10 := HG9.out.below hb
        have hD10 := HD9.out.below hb
        have hS10 := HS9.out.below hb
        have hW10 := HW9.out.below hb
        clear xa9 xb9 xc9 xA9 xB9 xC9 HX9
        have HX10 := Lib.hid hX10
        obtain ⟨⟨xa10, xb10, xc10⟩, -⟩ := hX10
        have xA10 := fun o => (HX10.out.alloc o).1.1
        have xB10 := fun o => (HX10.out.alloc o).1.2.1
        have xC10 := fun o => (HX10.out.alloc o).1.2.2
        clear ya9 yb9 yc9 yA9 yB9 yC9 HY9
        have HY10 := Lib.hid hY10
        obtain ⟨⟨ya10, yb10, yc10⟩, -⟩ := hY10
        have yA10 := fun o => (HY10.out.alloc o).1.1
        have yB10 := fun o => (HY10.out.alloc o).1.2.1
        have yC10 := fun o => (HY10.out.alloc o).1.2.2
        clear ta9 tb9 tc9 tA9 tB9 tC9 HT9
        have HT10 := Lib.hid hT10
        obtain ⟨⟨ta10, tb10, tc10⟩, -⟩ := hT10
        have tA10 := fun o => (HT10.out.alloc o).1.1
        have tB10 := fun o => (HT10.out.alloc o).1.2.1
        have tC10 := fun o => (HT10.out.alloc o).1.2.2
        clear ua9 ub9 uc9 uA9 uB9 uC9 HU9
        have HU10 := Lib.hid hU10
        obtain ⟨⟨ua10, ub10, uc10⟩, -⟩ := hU10
        have uA10 := fun o => (HU10.out.alloc o).1.1
        have uB10 := fun o => (HU10.out.alloc o).1.2.1
        have uC10 := fun o => (HU10.out.alloc o).1.2.2
        clear ga9 gb9 gc9 gA9 gB9 gC9 HG9
        have HG10 := Lib.hid hG10
        obtain ⟨⟨ga10, gb10, gc10⟩, -⟩ := hG10
        have gA10 := fun o => (HG10.out.alloc o).1.1
        have gB10 := fun o => (HG10.out.alloc o).1.2.1
        have gC10 := fun o => (HG10.out.alloc o).1.2.2
        clear da9 db9 dc9 dA9 dB9 dC9 HD9
        have HD10 := Lib.hid hD10
        obtain ⟨⟨da10, db10, dc10⟩, -⟩ := hD10
        have dA10 := fun o => (HD10.out.alloc o).1.1
        have dB10 := fun o => (HD10.out.alloc o).1.2.1
        have dC10 := fun o => (HD10.out.alloc o).1.2.2
        clear sa9 sb9 sc9 sA9 sB9 sC9 HS9
        have HS10 := Lib.hid hS10
        obtain ⟨⟨sa10, sb10, sc10⟩, -⟩ := hS10
        have sA10 := fun o => (HS10.out.alloc o).1.1
        have sB10 := fun o => (HS10.out.alloc o).1.2.1
        have sC10 := fun o => (HS10.out.alloc o).1.2.2
        clear wa9 wb9 wc9 wA9 wB9 wC9 HW9
        have HW10 := Lib.hid hW10
        obtain ⟨⟨wa10, wb10, wc10⟩, -⟩ := hW10
        have wA10 := fun o => (HW10.out.alloc o).1.1
        have wB10 := fun o => (HW10.out.alloc o).1.2.1
        have wC10 := fun o => (HW10.out.alloc o).1.2.2
        have BE10 := Lib.hid (BE9.out.trans (hb.mono BE9.out.size))
        clear BE9
        clear hb
        go_wp2_with fail
        refine (SameMatrix_u r c wA A zw l0 wc kx _ HWX.out (by rw [len_made HZW.out]; exact prod_small hr hc) HW10.out.2.2.1 HX10.out.2.2.1).mono ?_
        rintro e W11 ⟨rfl, hb⟩
        have hX11 := HX10.out.below hb
        have hY11 := HY10.out.below hb
        have hT11 := HT10.out.below hb
        have hU11 := HU10.out.below hb
        have hG11 := HG10.out.below hb
        have hD11 := HD10.out.below hb
        have hS11 := HS10.out.below hb
        have hW11 := HW10.out.below hb
        clear xa10 xb10 xc10 xA10 xB10 xC10 HX10
        have HX11 := Lib.hid hX11
        obtain ⟨⟨xa11, xb11, xc11⟩, -⟩ := hX11
        have xA11 := fun o => (HX11.out.alloc o).1.1
        have xB11 := fun o => (HX11.out.alloc o).1.2.1
        have xC11 := fun o => (HX11.out.alloc o).1.2.2
        clear ya10 yb10 yc10 yA10 yB10 yC10 HY10
        have HY11 := Lib.hid hY11
        obtain ⟨⟨ya11, yb11, yc11⟩, -⟩ := hY11
        have yA11 := fun o => (HY11.out.alloc o).1.1
        have yB11 := fun o => (HY11.out.alloc o).1.2.1
        have yC11 := fun o => (HY11.out.alloc o).1.2.2
        clear ta10 tb10 tc10 tA10 tB10 tC10 HT10
        have HT11 := Lib.hid hT11
        obtain ⟨⟨ta11, tb11, tc11⟩, -⟩ := hT11
        have tA11 := fun o => (HT11.out.alloc o).1.1
        have tB11 := fun o => (HT11.out.alloc o).1.2.1
        have tC11 := fun o => (HT11.out.alloc o).1.2.2
        clear ua10 ub10 uc10 uA10 uB10 uC10 HU10
        have HU11 := Lib.hid hU11
        obtain ⟨⟨ua11, ub11, uc11⟩, -⟩ := hU11
        have uA11 := fun o => (HU11.out.alloc o).1.1
        have uB11 := fun o => (HU11.out.alloc o).1.2.1
        have uC11 := fun o => (HU11.out.alloc o).1.2.2
        clear ga10 gb10 gc10 gA10 gB10 gC10 HG10
        have HG11 := Lib.hid hG11
        obtain ⟨⟨ga11, gb11, gc11⟩, -⟩ := hG11
        have gA11 := fun o => (HG11.out.alloc o).1.1
        have gB11 := fun o => (HG11.out.alloc o).1.2.1
        have gC11 := fun o => (HG11.out.alloc o).1.2.2
        clear da10 db10 dc10 dA10 dB10 dC10 HD10
        have HD11 := Lib.hid hD11
        obtain ⟨⟨da11, db11, dc11⟩, -⟩ := hD11
        have dA11 := fun o => (HD11.out.alloc o).1.1
        have dB11 := fun o => (HD11.out.alloc o).1.2.1
        have dC11 := fun o => (HD11.out.alloc o).1.2.2
        clear sa10 sb10 sc10 sA10 sB10 sC10 HS10
        have HS11 := Lib.hid hS11
        obtain ⟨⟨sa11, sb11, sc11⟩, -⟩ := hS11
        have sA11 := fun o => (HS11.out.alloc o).1.1
        have sB11 := fun o => (HS11.out.alloc o).1.2.1
        have sC11 := fun o => (HS11.out.alloc o).1.2.2
        clear wa10 wb10 wc10 wA10 wB10 wC10 HW10
        have HW11 := Lib.hid hW11
        obtain ⟨⟨wa11, wb11, wc11⟩, -⟩ := hW11
        have wA11 := fun o => (HW11.out.alloc o).1.1
        have wB11 := fun o => (HW11.out.alloc o).1.2.1
        have wC11 := fun o => (HW11.out.alloc o).1.2.2
        have BE11 := Lib.hid (BE10.out.trans (hb.mono BE10.out.size))
        clear BE10
        clear hb
        clear ua11 ub11 uc11 uA11 uB11 uC11 HU11
        clear da11 db11 dc11 dA11 dB11 dC11 HD11
        clear sa11 sb11 sc11 sA11 sB11 sC11 HS11
        clear wa11 wb11 wc11 wA11 wB11 wC11 HW11
        go_wp2_with fail
        refine (sums_c r c p q A B tA l0 l1 zt kx ky tc _ hr hc hp hq HL0.out HL1.out ⟨HX11.out.2.2.1, HX11.out.2.2.2.1, HX11.out.2.2.2.2, LT0.out⟩ ⟨HY11.out.2.2.1, HY11.out.2.2.2.1, HY11.out.2.2.2.2, LT1.out⟩ ⟨HT11.out.2.2.1, HT11.out.2.2.2.1, HT11.out.2.2.2.2, HTT.out⟩ HZT.out).mono ?_
        rintro e W12 ⟨rfl, hb⟩
        have hX12 := HX11.out.below hb
        have hY12 := HY11.out.below hb
        have hT12 := HT11.out.below hb
        have hG12 := HG11.out.below hb
        clear xa11 xb11 xc11 xA11 xB11 xC11 HX11
        have HX12 := Lib.hid hX12
        obtain ⟨⟨xa12, xb12, xc12⟩, -⟩ := hX12
        have xA12 := fun o => (HX12.out.alloc o).1.1
        have xB12 := fun o => (HX12.out.alloc o).1.2.1
        have xC12 := fun o => (HX12.out.alloc o).1.2.2
        clear ya11 yb11 yc11 yA11 yB11 yC11 HY11
        have HY12 := Lib.hid hY12
        obtain ⟨⟨ya12, yb12, yc12⟩, -⟩ := hY12
        have yA12 := fun o => (HY12.out.alloc o).1.1
        have yB12 := fun o => (HY12.out.alloc o).1.2.1
        have yC12 := fun o => (HY12.out.alloc o).1.2.2
        clear ta11 tb11 tc11 tA11 tB11 tC11 HT11
        have HT12 := Lib.hid hT12
        obtain ⟨⟨ta12, tb12, tc12⟩, -⟩ := hT12
        have tA12 := fun o => (HT12.out.alloc o).1.1
        have tB12 := fun o => (HT12.out.alloc o).1.2.1
        have tC12 := fun o => (HT12.out.alloc o).1.2.2
        clear ga11 gb11 gc11 gA11 gB11 gC11 HG11
        have HG12 := Lib.hid hG12
        obtain ⟨⟨ga12, gb12, gc12⟩, -⟩ := hG12
        have gA12 := fun o => (HG12.out.alloc o).1.1
        have gB12 := fun o => (HG12.out.alloc o).1.2.1
        have gC12 := fun o => (HG12.out.alloc o).1.2.2
        have BE12 := Lib.hid (BE11.out.trans (hb.mono BE11.out.size))
        clear BE11
        clear hb
        go_wp2_with fail
        refine (times_c r c A l0 kx _ hr hc HL0.out ⟨HX12.out.2.2.1, HX12.out.2.2.2.1, HX12.out.2.2.2.2, LT0.out⟩).mono ?_
        rintro e W13 ⟨rfl, hb⟩
        have hX13 := HX12.out.below hb
        have hY13 := HY12.out.below hb
        have hT13 := HT12.out.below hb
        have hG13 := HG12.out.below hb
        clear xa12 xb12 xc12 xA12 xB12 xC12 HX12
        have HX13 := Lib.hid hX13
        obtain ⟨⟨xa13, xb13, xc13⟩, -⟩ := hX13
        have xA13 := fun o => (HX13.out.alloc o).1.1
        have xB13 := fun o => (HX13.out.alloc o).1.2.1
        have xC13 := fun o => (HX13.out.alloc o).1.2.2
        clear ya12 yb12 yc12 yA12 yB12 yC12 HY12
        have HY13 := Lib.hid hY13
        obtain ⟨⟨ya13, yb13, yc13⟩, -⟩ := hY13
        have yA13 := fun o => (HY13.out.alloc o).1.1
        have yB13 := fun o => (HY13.out.alloc o).1.2.1
        have yC13 := fun o => (HY13.out.alloc o).1.2.2
        clear ta12 tb12 tc12 tA12 tB12 tC12 HT12
        have HT13 := Lib.hid hT13
        obtain ⟨⟨ta13, tb13, tc13⟩, -⟩ := hT13
        have tA13 := fun o => (HT13.out.alloc o).1.1
        have tB13 := fun o => (HT13.out.alloc o).1.2.1
        have tC13 := fun o => (HT13.out.alloc o).1.2.2
        clear ga12 gb12 gc12 gA12 gB12 gC12 HG12
        have HG13 := Lib.hid hG13
        obtain ⟨⟨ga13, gb13, gc13⟩, -⟩ := hG13
        have gA13 := fun o => (HG13.out.alloc o).1.1
        have gB13 := fun o => (HG13.out.alloc o).1.2.1
        have gC13 := fun o => (HG13.out.alloc o).1.2.2
        have BE13 := Lib.hid (BE12.out.trans (hb.mono BE12.out.size))
        clear BE12
        clear hb
        clear ta13 tb13 tc13 tA13 tB13 tC13 HT13
        go_wp2_with fail
        refine (MConj_c p q B l1 ky _ hp hq HL1.out HY13.out.2.2.1 LT1.out).mono ?_
        rintro e W14 ⟨s, zv, rfl, hz, hlz, hown, hb⟩
        have hX14 := HX13.out.below hb
        have hY14 := HY13.out.below hb
        have hG14 := HG13.out.below hb
        clear xa13 xb13 xc13 xA13 xB13 xC13 HX13
        have HX14 := Lib.hid hX14
        obtain ⟨⟨xa14, xb14, xc14⟩, -⟩ := hX14
        have xA14 := fun o => (HX14.out.alloc o).1.1
        have xB14 := fun o => (HX14.out.alloc o).1.2.1
        have xC14 := fun o => (HX14.out.alloc o).1.2.2
        clear ya13 yb13 yc13 yA13 yB13 yC13 HY13
        have HY14 := Lib.hid hY14
        obtain ⟨⟨ya14, yb14, yc14⟩, -⟩ := hY14
        have yA14 := fun o => (HY14.out.alloc o).1.1
        have yB14 := fun o => (HY14.out.alloc o).1.2.1
        have yC14 := fun o => (HY14.out.alloc o).1.2.2
        clear ga13 gb13 gc13 gA13 gB13 gC13 HG13
        have HG14 := Lib.hid hG14
        obtain ⟨⟨ga14, gb14, gc14⟩, -⟩ := hG14
        have gA14 := fun o => (HG14.out.alloc o).1.1
        have gB14 := fun o => (HG14.out.alloc o).1.2.1
        have gC14 := fun o => (HG14.out.alloc o).1.2.2
        have BE14 := Lib.hid (BE13.out.trans (hb.mono BE13.out.size))
        clear BE13
        have hel := congrArg List.length hz
        rw [List.length_map] at hel
        rw [← hel] at hown
        obtain ⟨vA, vn, vc, rfl, -⟩ := slice_of_own hown
        obtain ⟨en, -, -⟩ := own_slice hown
        subst en
        have HZV := Lib.hid hz
        have HTV := Lib.hid hlz
        have PV := Lib.hid (fun o => ((Reads.of_own hown).below (below_new W14 o)).more (below_new W14 o).size)
        have OWN := Lib.hid hown
        clear hz hlz hel hown hb
        by_cases hcp : c = p
        · subst hcp
          go_wp2_with fail
          refine (MMul_c r c q A B l0 l1 kx ky _ hr hc hq HL0.out HL1.out ((HX14.out.alloc _).2.2.1) ((HY14.out.alloc _).2.2.1)).mono ?_
          rintro e W15 ⟨s, zo, rfl, hz, hlz, hown, hb⟩
          obtain ⟨-, hV15, hq⟩ := Has.new OWN.out hb
          clear OWN PV
          have hX15 := HX14.out.below hq
          have hY15 := HY14.out.below hq
          have hG15 := HG14.out.below hq
          clear xa14 xb14 xc14 xA14 xB14 xC14 HX14
          have HX15 := Lib.hid hX15
          obtain ⟨⟨xa15, xb15, xc15⟩, -⟩ := hX15
          have xA15 := fun o => (HX15.out.alloc o).1.1
          have xB15 := fun o => (HX15.out.alloc o).1.2.1
          have xC15 := fun o => (HX15.out.alloc o).1.2.2
          clear ya14 yb14 yc14 yA14 yB14 yC14 HY14
          have HY15 := Lib.hid hY15
          obtain ⟨⟨ya15, yb15, yc15⟩, -⟩ := hY15
          have yA15 := fun o => (HY15.out.alloc o).1.1
          have yB15 := fun o => (HY15.out.alloc o).1.2.1
          have yC15 := fun o => (HY15.out.alloc o).1.2.2
          clear ga14 gb14 gc14 gA14 gB14 gC14 HG14
          have HG15 := Lib.hid hG15
          obtain ⟨⟨ga15, gb15, gc15⟩, -⟩ := hG15
          have gA15 := fun o => (HG15.out.alloc o).1.1
          have gB15 := fun o => (HG15.out.alloc o).1.2.1
          have gC15 := fun o => (HG15.out.alloc o).1.2.2
          have BE15 := Lib.hid (BE14.out.trans (hq.mono BE14.out.size))
          clear BE14
          have HV15 := Lib.hid hV15
          obtain ⟨⟨va15, vb15, vc15⟩, -⟩ := hV15
          have vA15 := fun o => (HV15.out.alloc o).1.1
          have vB15 := fun o => (HV15.out.alloc o).1.2.1
          have vC15 := fun o => (HV15.out.alloc o).1.2.2
          clear hq
          have hel := congrArg List.length hz
          rw [List.length_map] at hel
          rw [← hel] at hown
          obtain ⟨oA, on, oc, rfl, -⟩ := slice_of_own hown
          obtain ⟨en, -, -⟩ := own_slice hown
          subst en
          have HZO := Lib.hid hz
          have HTO := Lib.hid hlz
          have PO := Lib.hid (fun o => ((Reads.of_own hown).below (below_new W15 o)).more (below_new W15 o).size)
          have OWN := Lib.hid hown
          clear hz hlz hel hown hb
          go_wp2_with fail
          refine (MMul_c r c q gA vA zg zv gc vc _ hr hc hq (len_made HZG.out) (len_made HZV.out) ((HG15.out.alloc _).2.2.1) ((HV15.out.alloc _).2.2.1)).mono ?_
          rintro e W16 ⟨s, zf, rfl, hz, hlz, hown, hb⟩
          obtain ⟨-, hO16, hq⟩ := Has.new OWN.out hb
          clear OWN PO
          have hX16 := HX15.out.below hq
          have hY16 := HY15.out.below hq
          have hG16 := HG15.out.below hq
          have hV16 := HV15.out.below hq
          clear xa15 xb15 xc15 xA15 xB15 xC15 HX15
          have HX16 := Lib.hid hX16
          obtain ⟨⟨xa16, xb16, xc16⟩, -⟩ := hX16
          have xA16 := fun o => (HX16.out.alloc o).1.1
          have xB16 := fun o => (HX16.out.alloc o).1.2.1
          have xC16 := fun o => (HX16.out.alloc o).1.2.2
          clear ya15 yb15 yc15 yA15 yB15 yC15 HY15
          have HY16 := Lib.hid hY16
          obtain ⟨⟨ya16, yb16, yc16⟩, -⟩ := hY16
          have yA16 := fun o => (HY16.out.alloc o).1.1
          have yB16 := fun o => (HY16.out.alloc o).1.2.1
          have yC16 := fun o => (HY16.out.alloc o).1.2.2
          clear ga15 gb15 gc15 gA15 gB15 gC15 HG15
          have HG16 := Lib.hid hG16
          obtain ⟨⟨ga16, gb16, gc16⟩, -⟩ := hG16
          have gA16 := fun o => (HG16.out.alloc o).1.1
          have gB16 := fun o => (HG16.out.alloc o).1.2.1
          have gC16 := fun o => (HG16.out.alloc o).1.2.2
          clear va15 vb15 vc15 vA15 vB15 vC15 HV15
          have HV16 := Lib.hid hV16
          obtain ⟨⟨va16, vb16, vc16⟩, -⟩ := hV16
          have vA16 := fun o => (HV16.out.alloc o).1.1
          have vB16 := fun o => (HV16.out.alloc o).1.2.1
          have vC16 := fun o => (HV16.out.alloc o).1.2.2
          have BE16 := Lib.hid (BE15.out.trans (hq.mono BE15.out.size))
          clear BE15
          have HO16 := Lib.hid hO16
          obtain ⟨⟨oa16, ob16, oc16⟩, -⟩ := hO16
          have oA16 := fun o => (HO16.out.alloc o).1.1
          have oB16 := fun o => (HO16.out.alloc o).1.2.1
          have oC16 := fun o => (HO16.out.alloc o).1.2.2
          clear hq
          have hel := congrArg List.length hz
          rw [List.length_map] at hel
          rw [← hel] at hown
          obtain ⟨fA, fn, fc, rfl, -⟩ := slice_of_own hown
          obtain ⟨en, -, -⟩ := own_slice hown
          subst en
          have HZF := Lib.hid hz
          have HTF := Lib.hid hlz
          have PF := Lib.hid (fun o => ((Reads.of_own hown).below (below_new W16 o)).more (below_new W16 o).size)
          have OWN := Lib.hid hown
          clear hz hlz hel hown hb
          go_wp2_with fail
          refine (MConj_c r q oA zo oc _ hr hq (len_made HZO.out) ((HO16.out.alloc _).2.2.1) HTO.out).mono ?_
          rintro e W17 ⟨s, zm, rfl, hz, hlz, hown, hb⟩
          obtain ⟨-, hF17, hq⟩ := Has.new OWN.out hb
          clear OWN PF
          have hX17 := HX16.out.below hq
          have hY17 := HY16.out.below hq
          have hG17 := HG16.out.below hq
          have hV17 := HV16.out.below hq
          have hO17 := HO16.out.below hq
          clear xa16 xb16 xc16 xA16 xB16 xC16 HX16
          have HX17 := Lib.hid hX17
          obtain ⟨⟨xa17, xb17, xc17⟩, -⟩ := hX17
          have xA17 := fun o => (HX17.out.alloc o).1.1
          have xB17 := fun o => (HX17.out.alloc o).1.2.1
          have xC17 := fun o => (HX17.out.alloc o).1.2.2
          clear ya16 yb16 yc16 yA16 yB16 yC16 HY16
          have HY17 := Lib.hid hY17
          obtain ⟨⟨ya17, yb17, yc17⟩, -⟩ := hY17
          have yA17 := fun o => (HY17.out.alloc o).1.1
          have yB17 := fun o => (HY17.out.alloc o).1.2.1
          have yC17 := fun o => (HY17.out.alloc o).1.2.2
          clear ga16 gb16 gc16 gA16 gB16 gC16 HG16
          have HG17 := Lib.hid hG17
          obtain ⟨⟨ga17, gb17, gc17⟩, -⟩ := hG17
          have gA17 := fun o => (HG17.out.alloc o).1.1
          have gB17 := fun o => (HG17.out.alloc o).1.2.1
          have gC17 := fun o => (HG17.out.alloc o).1.2.2
          clear va16 vb16 vc16 vA16 vB16 vC16 HV16
          have HV17 := Lib.hid hV17
          obtain ⟨⟨va17, vb17, vc17⟩, -⟩ := hV17
          have vA17 := fun o => (HV17.out.alloc o).1.1
          have vB17 := fun o => (HV17.out.alloc o).1.2.1
          have vC17 := fun o => (HV17.out.alloc o).1.2.2
          clear oa16 ob16 oc16 oA16 oB16 oC16 HO16
          have HO17 := Lib.hid hO17
          obtain ⟨⟨oa17, ob17, oc17⟩, -⟩ := hO17
          have oA17 := fun o => (HO17.out.alloc o).1.1
          have oB17 := fun o => (HO17.out.alloc o).1.2.1
          have oC17 := fun o => (HO17.out.alloc o).1.2.2
          have BE17 := Lib.hid (BE16.out.trans (hq.mono BE16.out.size))
          clear BE16
          have HF17 := Lib.hid hF17
          obtain ⟨⟨fa17, fb17, fc17⟩, -⟩ := hF17
          have fA17 := fun o => (HF17.out.alloc o).1.1
          have fB17 := fun o => (HF17.out.alloc o).1.2.1
          have fC17 := fun o => (HF17.out.alloc o).1.2.2
          clear hq
          have hel := congrArg List.length hz
          rw [List.length_map] at hel
          rw [← hel] at hown
          obtain ⟨mA, mn, mc, rfl, -⟩ := slice_of_own hown
          obtain ⟨en, -, -⟩ := own_slice hown
          subst en
          have HZM := Lib.hid hz
          have HTM := Lib.hid hlz
          have PM := Lib.hid (fun o => ((Reads.of_own hown).below (below_new W17 o)).more (below_new W17 o).size)
          have OWN := Lib.hid hown
          clear hz hlz hel hown hb
          clear xa17 xb17 xc17 xA17 xB17 xC17 HX17
          clear ya17 yb17 yc17 yA17 yB17 yC17 HY17
          clear ga17 gb17 gc17 gA17 gB17 gC17 HG17
          clear va17 vb17 vc17 vA17 vB17 vC17 HV17
          have hsm := prod_small hr hq
          have HSM := Lib.hid hsm
          clear hsm hr hc hp hq
          have hlm : zm.length = zo.length := by rw [len_made HZM.out, len_made HZO.out]
          have hlf : zf.length = zo.length := by rw [len_made HZF.out, len_made HZO.out]
          have hlo : zo.length ≤ 4096 := by rw [len_made HZO.out]; exact HSM.out
          have HLM := Lib.hid hlm
          have HLF := Lib.hid hlf
          have HLO := Lib.hid hlo
          rw [hlf] at fc17
          have fC2 : ∀ o, (W17.alloc o).cell? ⟨W16.heap.size, 2, none⟩ = some (.slice fA zo.length fc) := fun o => by rw [fC17 o, HLF.out]
          clear fA17 fB17 fC17 oA17 oB17 hlf hlo
          have hPM := PM.out
          rw [hlm] at OWN
          clear hlm
          go_wp2
          go_loopw [32] (fun i wr => ∃ k d : Nat, k ≤ zo.length ∧ i = .int .i64 (k : Nat) ∧ wr = (W17.alloc (.cells #[.int .i64 (r : Nat), .int .i64 (q : Nat), .slice mA zm.length mc] 28)).drewN d) (fun i _ => zo.length - (intOf i).toNat)
          case atStart => exact ⟨0, 0, Nat.zero_le _, rfl, rfl⟩
          case round =>
            obtain ⟨k, d, hk, rfl, rfl⟩ := hrel
            have hkb : k < 4611686018427387904 := by have := HLO.out; omega
            by_cases hlt : k < zo.length
            · obtain ⟨z, hz⟩ := some_of_lt (l := zo) (k := k) hlt
              obtain ⟨z', hz'⟩ := some_of_lt (l := zm) (k := k) (by rw [HLM.out]; exact hlt)
              obtain ⟨z'', hz''⟩ := some_of_lt (l := zf) (k := k) (by rw [HLF.out]; exact hlt)
              have hlt2 : (k : Int) < (zm.length : Int) := by rw [HLM.out]; omega
              have hv : (nums zo)[k]? = some (.complex .f64 z.1 z.2) := by simp [nums, hz]
              have hv' : (nums zm)[k]? = some (.complex .f64 z'.1 z'.2) := by simp [nums, hz']
              have hv'' : (nums zf)[k]? = some (.complex .f64 z''.1 z''.2) := by simp [nums, hz'']
              obtain ⟨ad, rfl, -, hc1⟩ := ((HO17.out.alloc (.cells #[.int .i64 (r : Nat), .int .i64 (q : Nat), .slice mA zm.length mc] 28)).2.2.1).at_ hv
              obtain ⟨ad', rfl, -, hc2⟩ := (PM.out (.cells #[.int .i64 (r : Nat), .int .i64 (q : Nat), .slice mA zm.length mc] 28)).at_ hv'
              obtain ⟨ad'', rfl, -, hc3⟩ := ((HF17.out.alloc (.cells #[.int .i64 (r : Nat), .int .i64 (q : Nat), .slice (some ad') zm.length mc] 28)).2.2.1).at_ hv''
              have HT := Lib.hid (fun n1 n2 => turn_last LT0.out LT1.out HZG.out HZV.out HZO.out HZF.out HZM.out hz hz' hz'' n1 n2)
              clear hz hz' hz'' hv hv' hv''
              cases n1 : isNaN FloatKind.f64.format z.1
              · cases n2 : isNaN FloatKind.f64.format z.2
                · obtain ⟨g1, g2⟩ := HT.out (by rw [feq_self, n1]; rfl) (by rw [feq_self, n2]; rfl)
                  go_wp2
                  go_quiet (fail)
                  go_wp2
                  go_roundw
                  case rel => exact ⟨k + 1, _, hlt, by go_num, rfl⟩
                  case measure => simp [intOf]; omega
                · go_wp2
                  go_quiet (fail)
                  go_wp2
                  go_roundw
                  case rel => exact ⟨k + 1, _, hlt, by go_num, rfl⟩
                  case measure => simp [intOf]; omega
              · go_wp2
                go_quiet (fail)
                go_wp2
                go_roundw
                case rel => exact ⟨k + 1, _, hlt, by go_num, rfl⟩
                case measure => simp [intOf]; omega
            · have e : k = zo.length := by omega
              subst e
              go_wp2
              go_ret
              exact ⟨rfl, below_drewN (BE17.out.trans ((below_new W17 _).mono BE17.out.size)) d⟩
        · have hne : ((c : Int) == (p : Int)) = false := by simp; omega
          have HNE := Lib.hid hne
          clear hcp hne
          go_wp2_with fail
          refine (Mul_bad2 r c p q A B l0.length l1.length kx ky _ HOX.out HNE.out).mono ?_
          rintro e W15 ⟨s, zo, rfl, hz, hlz, hown, hb⟩
          obtain ⟨-, hV15, hq⟩ := Has.new OWN.out hb
          clear OWN PV
          have hX15 := HX14.out.below hq
          have hY15 := HY14.out.below hq
          have hG15 := HG14.out.below hq
          clear xa14 xb14 xc14 xA14 xB14 xC14 HX14
          have HX15 := Lib.hid hX15
          obtain ⟨⟨xa15, xb15, xc15⟩, -⟩ := hX15
          have xA15 := fun o => (HX15.out.alloc o).1.1
          have xB15 := fun o => (HX15.out.alloc o).1.2.1
          have xC15 := fun o => (HX15.out.alloc o).1.2.2
          clear ya14 yb14 yc14 yA14 yB14 yC14 HY14
          have HY15 := Lib.hid hY15
          obtain ⟨⟨ya15, yb15, yc15⟩, -⟩ := hY15
          have yA15 := fun o => (HY15.out.alloc o).1.1
          have yB15 := fun o => (HY15.out.alloc o).1.2.1
          have yC15 := fun o => (HY15.out.alloc o).1.2.2
          clear ga14 gb14 gc14 gA14 gB14 gC14 HG14
          have HG15 := Lib.hid hG15
          obtain ⟨⟨ga15, gb15, gc15⟩, -⟩ := hG15
          have gA15 := fun o => (HG15.out.alloc o).1.1
          have gB15 := fun o => (HG15.out.alloc o).1.2.1
          have gC15 := fun o => (HG15.out.alloc o).1.2.2
          have BE15 := Lib.hid (BE14.out.trans (hq.mono BE14.out.size))
          clear BE14
          have HV15 := Lib.hid hV15
          obtain ⟨⟨va15, vb15, vc15⟩, -⟩ := hV15
          have vA15 := fun o => (HV15.out.alloc o).1.1
          have vB15 := fun o => (HV15.out.alloc o).1.2.1
          have vC15 := fun o => (HV15.out.alloc o).1.2.2
          clear hq
          have hel := congrArg List.length hz
          rw [List.length_map] at hel
          rw [← hel] at hown
          obtain ⟨oA, on, oc, rfl, -⟩ := slice_of_own hown
          obtain ⟨en, -, -⟩ := own_slice hown
          subst en
          have HZO := Lib.hid hz
          have HTO := Lib.hid hlz
          have PO := Lib.hid (fun o => ((Reads.of_own hown).below (below_new W15 o)).more (below_new W15 o).size)
          have OWN := Lib.hid hown
          clear hz hlz hel hown hb
          go_wp2_with fail
          refine (Mul_bad2 r c p q gA vA zg.length zv.length gc vc _ (okN hr hc (len_made HZG.out)) HNE.out).mono ?_
          rintro e W16 ⟨s, zf, rfl, hz, hlz, hown, hb⟩
          obtain ⟨-, hO16, hq⟩ := Has.new OWN.out hb
          clear OWN PO
          have hX16 := HX15.out.below hq
          have hY16 := HY15.out.below hq
          have hG16 := HG15.out.below hq
          have hV16 := HV15.out.below hq
          clear xa15 xb15 xc15 xA15 xB15 xC15 HX15
          have HX16 := Lib.hid hX16
          obtain ⟨⟨xa16, xb16, xc16⟩, -⟩ := hX16
          have xA16 := fun o => (HX16.out.alloc o).1.1
          have xB16 := fun o => (HX16.out.alloc o).1.2.1
          have xC16 := fun o => (HX16.out.alloc o).1.2.2
          clear ya15 yb15 yc15 yA15 yB15 yC15 HY15
          have HY16 := Lib.hid hY16
          obtain ⟨⟨ya16, yb16, yc16⟩, -⟩ := hY16
          have yA16 := fun o => (HY16.out.alloc o).1.1
          have yB16 := fun o => (HY16.out.alloc o).1.2.1
          have yC16 := fun o => (HY16.out.alloc o).1.2.2
          clear ga15 gb15 gc15 gA15 gB15 gC15 HG15
          have HG16 := Lib.hid hG16
          obtain ⟨⟨ga16, gb16, gc16⟩, -⟩ := hG16
          have gA16 := fun o => (HG16.out.alloc o).1.1
          have gB16 := fun o => (HG16.out.alloc o).1.2.1
          have gC16 := fun o => (HG16.out.alloc o).1.2.2
          clear va15 vb15 vc15 vA15 vB15 vC15 HV15
          have HV16 := Lib.hid hV16
          obtain ⟨⟨va16, vb16, vc16⟩, -⟩ := hV16
          have vA16 := fun o => (HV16.out.alloc o).1.1
          have vB16 := fun o => (HV16.out.alloc o).1.2.1
          have vC16 := fun o => (HV16.out.alloc o).1.2.2
          have BE16 := Lib.hid (BE15.out.trans (hq.mono BE15.out.size))
          clear BE15
          have HO16 := Lib.hid hO16
          obtain ⟨⟨oa16, ob16, oc16⟩, -⟩ := hO16
          have oA16 := fun o => (HO16.out.alloc o).1.1
          have oB16 := fun o => (HO16.out.alloc o).1.2.1
          have oC16 := fun o => (HO16.out.alloc o).1.2.2
          clear hq
          have hel := congrArg List.length hz
          rw [List.length_map] at hel
          rw [← hel] at hown
          obtain ⟨fA, fn, fc, rfl, -⟩ := slice_of_own hown
          obtain ⟨en, -, -⟩ := own_slice hown
          subst en
          have HZF := Lib.hid hz
          have HTF := Lib.hid hlz
          have PF := Lib.hid (fun o => ((Reads.of_own hown).below (below_new W16 o)).more (below_new W16 o).size)
          have OWN := Lib.hid hown
          clear hz hlz hel hown hb
          go_wp2_with fail
          refine (MConj_nil oA zo oc _ HZO.out).mono ?_
          rintro e W17 ⟨s, zm, rfl, hz, hlz, hown, hb⟩
          obtain ⟨-, hF17, hq⟩ := Has.new OWN.out hb
          clear OWN PF
          have hX17 := HX16.out.below hq
          have hY17 := HY16.out.below hq
          have hG17 := HG16.out.below hq
          have hV17 := HV16.out.below hq
          have hO17 := HO16.out.below hq
          clear xa16 xb16 xc16 xA16 xB16 xC16 HX16
          have HX17 := Lib.hid hX17
          obtain ⟨⟨xa17, xb17, xc17⟩, -⟩ := hX17
          have xA17 := fun o => (HX17.out.alloc o).1.1
          have xB17 := fun o => (HX17.out.alloc o).1.2.1
          have xC17 := fun o => (HX17.out.alloc o).1.2.2
          clear ya16 yb16 yc16 yA16 yB16 yC16 HY16
          have HY17 := Lib.hid hY17
          obtain ⟨⟨ya17, yb17, yc17⟩, -⟩ := hY17
          have yA17 := fun o => (HY17.out.alloc o).1.1
          have yB17 := fun o => (HY17.out.alloc o).1.2.1
          have yC17 := fun o => (HY17.out.alloc o).1.2.2
          clear ga16 gb16 gc16 gA16 gB16 gC16 HG16
          have HG17 := Lib.hid hG17
          obtain ⟨⟨ga17, gb17, gc17⟩, -⟩ := hG17
          have gA17 := fun o => (HG17.out.alloc o).1.1
          have gB17 := fun o => (HG17.out.alloc o).1.2.1
          have gC17 := fun o => (HG17.out.alloc o).1.2.2
          clear va16 vb16 vc16 vA16 vB16 vC16 HV16
          have HV17 := Lib.hid hV17
          obtain ⟨⟨va17, vb17, vc17⟩, -⟩ := hV17
          have vA17 := fun o => (HV17.out.alloc o).1.1
          have vB17 := fun o => (HV17.out.alloc o).1.2.1
          have vC17 := fun o => (HV17.out.alloc o).1.2.2
          clear oa16 ob16 oc16 oA16 oB16 oC16 HO16
          have HO17 := Lib.hid hO17
          obtain ⟨⟨oa17, ob17, oc17⟩, -⟩ := hO17
          have oA17 := fun o => (HO17.out.alloc o).1.1
          have oB17 := fun o => (HO17.out.alloc o).1.2.1
          have oC17 := fun o => (HO17.out.alloc o).1.2.2
          have BE17 := Lib.hid (BE16.out.trans (hq.mono BE16.out.size))
          clear BE16
          have HF17 := Lib.hid hF17
          obtain ⟨⟨fa17, fb17, fc17⟩, -⟩ := hF17
          have fA17 := fun o => (HF17.out.alloc o).1.1
          have fB17 := fun o => (HF17.out.alloc o).1.2.1
          have fC17 := fun o => (HF17.out.alloc o).1.2.2
          clear hq
          have hel := congrArg List.length hz
          rw [List.length_map] at hel
          rw [← hel] at hown
          obtain ⟨mA, mn, mc, rfl, -⟩ := slice_of_own hown
          obtain ⟨en, -, -⟩ := own_slice hown
          subst en
          have HZM := Lib.hid hz
          have HTM := Lib.hid hlz
          have PM := Lib.hid (fun o => ((Reads.of_own hown).below (below_new W17 o)).more (below_new W17 o).size)
          have OWN := Lib.hid hown
          clear hz hlz hel hown hb
          have hol : zo = [] := List.map_eq_nil_iff.1 HZO.out
          subst hol
          go_wp2
          go_loop [32] (fun i => i = .int .i64 0) (fun _ => 0)
          case atStart => rfl
          case round =>
            obtain rfl := hrel
            go_wp2
            go_ret
            exact ⟨rfl, BE17.out.trans ((below_new W17 _).mono BE17.out.size)⟩
    · have hsw : (decide (i < 0) = true ∨ (decide (i < 0) = false ∧ decide (i ≥ (r : Int)) = true) ∨ (decide (i < 0) = false ∧ decide (i ≥ (r : Int)) = false ∧ decide (j < 0) = true) ∨ (decide (i < 0) = false ∧ decide (i ≥ (r : Int)) = false ∧ decide (j < 0) = false ∧ decide (j ≥ (r : Int)) = true)) := by
        simp only [decide_eq_true_eq, decide_eq_false_iff_not]; omega
      have hbf : (0 ≤ i) = False ∨ ((0 ≤ i) = True ∧ (i < (r : Int)) = False) ∨ ((0 ≤ i) = True ∧ (i < (r : Int)) = True ∧ (0 ≤ j) = False) ∨ ((0 ≤ i) = True ∧ (i < (r : Int)) = True ∧ (0 ≤ j) = True ∧ (j < (r : Int)) = False) := by
        simp only [eq_iff_iff, iff_true, iff_false]; omega
      have HSW := Lib.hid (fun W => Swap_arg r c A l0.length kx i j W HOX.out hsw)
      clear hij hsw
      go_wp2_with fail
      refine (HSW.out _).mono ?_
      rintro e W7 ⟨s, zs, rfl, hz, hlz, hown, hb⟩
      obtain ⟨-, hD7, hq⟩ := Has.new OWN.out hb
      clear OWN PD
      have hX7 := HX6.out.below hq
      have hY7 := HY6.out.below hq
      have hT7 := HT6.out.below hq
      have hU7 := HU6.out.below hq
      have hG7 := HG6.out.below hq
      clear xa6 xb6 xc6 xA6 xB6 xC6 HX6
      have HX7 := Lib.hid hX7
      obtain ⟨⟨xa7, xb7, xc7⟩, -⟩ := hX7
      have xA7 := fun o => (HX7.out.alloc o).1.1
      have xB7 := fun o => (HX7.out.alloc o).1.2.1
      have xC7 := fun o => (HX7.out.alloc o).1.2.2
      clear ya6 yb6 yc6 yA6 yB6 yC6 HY6
      have HY7 := Lib.hid hY7
      obtain ⟨⟨ya7, yb7, yc7⟩, -⟩ := hY7
      have yA7 := fun o => (HY7.out.alloc o).1.1
      have yB7 := fun o => (HY7.out.alloc o).1.2.1
      have yC7 := fun o => (HY7.out.alloc o).1.2.2
      clear ta6 tb6 tc6 tA6 tB6 tC6 HT6
      have HT7 := Lib.hid hT7
      obtain ⟨⟨ta7, tb7, tc7⟩, -⟩ := hT7
      have tA7 := fun o => (HT7.out.alloc o).1.1
      have tB7 := fun o => (HT7.out.alloc o).1.2.1
      have tC7 := fun o => (HT7.out.alloc o).1.2.2
      clear ua6 ub6 uc6 uA6 uB6 uC6 HU6
      have HU7 := Lib.hid hU7
      obtain ⟨⟨ua7, ub7, uc7⟩, -⟩ := hU7
      have uA7 := fun o => (HU7.out.alloc o).1.1
      have uB7 := fun o => (HU7.out.alloc o).1.2.1
      have uC7 := fun o => (HU7.out.alloc o).1.2.2
      clear ga6 gb6 gc6 gA6 gB6 gC6 HG6
      have HG7 := Lib.hid hG7
      obtain ⟨⟨ga7, gb7, gc7⟩, -⟩ := hG7
      have gA7 := fun o => (HG7.out.alloc o).1.1
      have gB7 := fun o => (HG7.out.alloc o).1.2.1
      have gC7 := fun o => (HG7.out.alloc o).1.2.2
      have BE7 := Lib.hid (BE6.out.trans (hq.mono BE6.out.size))
      clear BE6
      have HD7 := Lib.hid hD7
      obtain ⟨⟨da7, db7, dc7⟩, -⟩ := hD7
      have dA7 := fun o => (HD7.out.alloc o).1.1
      have dB7 := fun o => (HD7.out.alloc o).1.2.1
      have dC7 := fun o => (HD7.out.alloc o).1.2.2
      clear hq
      have hel := congrArg List.length hz
      rw [List.length_map] at hel
      rw [← hel] at hown
      obtain ⟨sA, sn, sc, rfl, -⟩ := slice_of_own hown
      obtain ⟨en, -, -⟩ := own_slice hown
      subst en
      have HZS := Lib.hid hz
      have HTS := Lib.hid hlz
      have PS := Lib.hid (fun o => ((Reads.of_own hown).below (below_new W7 o)).more (below_new W7 o).size)
      have OWN := Lib.hid hown
      clear hz hlz hel hown hb
      go_wp2_with fail
      refine (Swap_nil sA zs sc i j _ HZS.out).mono ?_
      rintro e W8 ⟨s, zw, rfl, hz, hlz, hown, hb⟩
      obtain ⟨-, hS8, hq⟩ := Has.new OWN.out hb
      clear OWN PS
      have hX8 := HX7.out.below hq
      have hY8 := HY7.out.below hq
      have hT8 := HT7.out.below hq
      have hU8 := HU7.out.below hq
      have hG8 := HG7.out.below hq
      have hD8 := HD7.out.below hq
      clear xa7 xb7 xc7 xA7 xB7 xC7 HX7
      have HX8 := Lib.hid hX8
      obtain ⟨⟨xa8, xb8, xc8⟩, -⟩ := hX8
      have xA8 := fun o => (HX8.out.alloc o).1.1
      have xB8 := fun o => (HX8.out.alloc o).1.2.1
      have xC8 := fun o => (HX8.out.alloc o).1.2.2
      clear ya7 yb7 yc7 yA7 yB7 yC7 HY7
      have HY8 := Lib.hid hY8
      obtain ⟨⟨ya8, yb8, yc8⟩, -⟩ := hY8
      have yA8 := fun o => (HY8.out.alloc o).1.1
      have yB8 := fun o => (HY8.out.alloc o).1.2.1
      have yC8 := fun o => (HY8.out.alloc o).1.2.2
      clear ta7 tb7 tc7 tA7 tB7 tC7 HT7
      have HT8 := Lib.hid hT8
      obtain ⟨⟨ta8, tb8, tc8⟩, -⟩ := hT8
      have tA8 := fun o => (HT8.out.alloc o).1.1
      have tB8 := fun o => (HT8.out.alloc o).1.2.1
      have tC8 := fun o => (HT8.out.alloc o).1.2.2
      clear ua7 ub7 uc7 uA7 uB7 uC7 HU7
      have HU8 := Lib.hid hU8
      obtain ⟨⟨ua8, ub8, uc8⟩, -⟩ := hU8
      have uA8 := fun o => (HU8.out.alloc o).1.1
      have uB8 := fun o => (HU8.out.alloc o).1.2.1
      have uC8 := fun o => (HU8.out.alloc o).1.2.2
      clear ga7 gb7 gc7 gA7 gB7 gC7 HG7
      have HG8 := Lib.hid hG8
      obtain ⟨⟨ga8, gb8, gc8⟩, -⟩ := hG8
      have gA8 := fun o => (HG8.out.alloc o).1.1
      have gB8 := fun o => (HG8.out.alloc o).1.2.1
      have gC8 := fun o => (HG8.out.alloc o).1.2.2
      clear da7 db7 dc7 dA7 dB7 dC7 HD7
      have HD8 := Lib.hid hD8
      obtain ⟨⟨da8, db8, dc8⟩, -⟩ := hD8
      have dA8 := fun o => (HD8.out.alloc o).1.1
      have dB8 := fun o => (HD8.out.alloc o).1.2.1
      have dC8 := fun o => (HD8.out.alloc o).1.2.2
      have BE8 := Lib.hid (BE7.out.trans (hq.mono BE7.out.size))
      clear BE7
      have HS8 := Lib.hid hS8
      obtain ⟨⟨sa8, sb8, sc8⟩, -⟩ := hS8
      have sA8 := fun o => (HS8.out.alloc o).1.1
      have sB8 := fun o => (HS8.out.alloc o).1.2.1
      have sC8 := fun o => (HS8.out.alloc o).1.2.2
      clear hq
      have hel := congrArg List.length hz
      rw [List.length_map] at hel
      rw [← hel] at hown
      obtain ⟨wA, wn, wc, rfl, -⟩ := slice_of_own hown
      obtain ⟨en, -, -⟩ := own_slice hown
      subst en
      have HZW := Lib.hid hz
      have HTW := Lib.hid hlz
      have PW := Lib.hid (fun o => ((Reads.of_own hown).below (below_new W8 o)).more (below_new W8 o).size)
      have OWN := Lib.hid hown
      clear hz hlz hel hown hb
      go_upto_region 13 with fail
      go_cut [135] (fun s135 wx => s135 = .bool false ∧ Has wx b0 r c A l0 kx ∧ Has wx b1 p q B l1 ky ∧ Has wx W3.heap.size c r tA zt tc ∧ Has wx W5.heap.size r c gA zg gc ∧ Below w.heap.size w wx)
      case first =>
        go_wp2_with fail
        refine (SameMatrix_u r c uA A zu l0 uc kx _ HUX.out (by rw [len_made HZU.out]; exact prod_small hr hc) ((HU8.out.alloc _).2.2.1) ((HX8.out.alloc _).2.2.1)).mono ?_
        rintro e W9 ⟨rfl, hb⟩
        obtain ⟨-, hW9, hq⟩ := Has.new OWN.out hb
        clear OWN PW
        have hX9 := HX8.out.below hq
        have hY9 := HY8.out.below hq
        have hT9 := HT8.out.below hq
        have hU9 := HU8.out.below hq
        have hG9 := HG8.out.below hq
        have hD9 := HD8.out.below hq
        have hS9 := HS8.out.below hq
        clear xa8 xb8 xc8 xA8 xB8 xC8 HX8
        have HX9 := Lib.hid hX9
        obtain ⟨⟨xa9, xb9, xc9⟩, -⟩ := hX9
        have xA9 := fun o => (HX9.out.alloc o).1.1
        have xB9 := fun o => (HX9.out.alloc o).1.2.1
        have xC9 := fun o => (HX9.out.alloc o).1.2.2
        clear ya8 yb8 yc8 yA8 yB8 yC8 HY8
        have HY9 := Lib.hid hY9
        obtain ⟨⟨ya9, yb9, yc9⟩, -⟩ := hY9
        have yA9 := fun o => (HY9.out.alloc o).1.1
        have yB9 := fun o => (HY9.out.alloc o).1.2.1
        have yC9 := fun o => (HY9.out.alloc o).1.2.2
        clear ta8 tb8 tc8 tA8 tB8 tC8 HT8
        have HT9 := Lib.hid hT9
        obtain ⟨⟨ta9, tb9, tc9⟩, -⟩ := hT9
        have tA9 := fun o => (HT9.out.alloc o).1.1
        have tB9 := fun o => (HT9.out.alloc o).1.2.1
        have tC9 := fun o => (HT9.out.alloc o).1.2.2
        clear ua8 ub8 uc8 uA8 uB8 uC8 HU8
        have HU9 := Lib.hid hU9
        obtain ⟨⟨ua9, ub9, uc9⟩, -⟩ := hU9
        have uA9 := fun o => (HU9.out.alloc o).1.1
        have uB9 := fun o => (HU9.out.alloc o).1.2.1
        have uC9 := fun o => (HU9.out.alloc o).1.2.2
        clear ga8 gb8 gc8 gA8 gB8 gC8 HG8
        have HG9 := Lib.hid hG9
        obtain ⟨⟨ga9, gb9, gc9⟩, -⟩ := hG9
        have gA9 := fun o => (HG9.out.alloc o).1.1
        have gB9 := fun o => (HG9.out.alloc o).1.2.1
        have gC9 := fun o => (HG9.out.alloc o).1.2.2
        clear da8 db8 dc8 dA8 dB8 dC8 HD8
        have HD9 := Lib.hid hD9
        obtain ⟨⟨da9, db9, dc9⟩, -⟩ := hD9
        have dA9 := fun o => (HD9.out.alloc o).1.1
        have dB9 := fun o => (HD9.out.alloc o).1.2.1
        have dC9 := fun o => (HD9.out.alloc o).1.2.2
        clear sa8 sb8 sc8 sA8 sB8 sC8 HS8
        have HS9 := Lib.hid hS9
        obtain ⟨⟨sa9, sb9, sc9⟩, -⟩ := hS9
        have sA9 := fun o => (HS9.out.alloc o).1.1
        have sB9 := fun o => (HS9.out.alloc o).1.2.1
        have sC9 := fun o => (HS9.out.alloc o).1.2.2
        have BE9 := Lib.hid (BE8.out.trans (hq.mono BE8.out.size))
        clear BE8
        have HW9 := Lib.hid hW9
        obtain ⟨⟨wa9, wb9, wc9⟩, -⟩ := hW9
        have wA9 := fun o => (HW9.out.alloc o).1.1
        have wB9 := fun o => (HW9.out.alloc o).1.2.1
        have wC9 := fun o => (HW9.out.alloc o).1.2.2
        clear hq
        clear hb
        go_wp2_with fail
        refine (SameMatrix_u r c dA A zd l0 dc kx _ HDX.out (by rw [len_made HZD.out]; exact prod_small hr hc) HD9.out.2.2.1 HX9.out.2.2.1).mono ?_
        rintro e W10 ⟨rfl, hb⟩
        have hX10 := HX9.out.below hb
        have hY10 := HY9.out.below hb
        have hT10 := HT9.out.below hb
        have hU10 := HU9.out.below hb
        have hG10 := HG9.out.below hb
        have hD10 := HD9.out.below hb
        have hS10 := HS9.out.below hb
        have hW10 := HW9.out.below hb
        clear xa9 xb9 xc9 xA9 xB9 xC9 HX9
        have HX10 := Lib.hid hX10
        obtain ⟨⟨xa10, xb10, xc10⟩, -⟩ := hX10
        have xA10 := fun o => (HX10.out.alloc o).1.1
        have xB10 := fun o => (HX10.out.alloc o).1.2.1
        have xC10 := fun o => (HX10.out.alloc o).1.2.2
        clear ya9 yb9 yc9 yA9 yB9 yC9 HY9
        have HY10 := Lib.hid hY10
        obtain ⟨⟨ya10, yb10, yc10⟩, -⟩ := hY10
        have yA10 := fun o => (HY10.out.alloc o).1.1
        have yB10 := fun o => (HY10.out.alloc o).1.2.1
        have yC10 := fun o => (HY10.out.alloc o).1.2.2
        clear ta9 tb9 tc9 tA9 tB9 tC9 HT9
        have HT10 := Lib.hid hT10
        obtain ⟨⟨ta10, tb10, tc10⟩, -⟩ := hT10
        have tA10 := fun o => (HT10.out.alloc o).1.1
        have tB10 := fun o => (HT10.out.alloc o).1.2.1
        have tC10 := fun o => (HT10.out.alloc o).1.2.2
        clear ua9 ub9 uc9 uA9 uB9 uC9 HU9
        have HU10 := Lib.hid hU10
        obtain ⟨⟨ua10, ub10, uc10⟩, -⟩ := hU10
        have uA10 := fun o => (HU10.out.alloc o).1.1
        have uB10 := fun o => (HU10.out.alloc o).1.2.1
        have uC10 := fun o => (HU10.out.alloc o).1.2.2
        clear ga9 gb9 gc9 gA9 gB9 gC9 HG9
        have HG10 := Lib.hid hG10
        obtain ⟨⟨ga10, gb10, gc10⟩, -⟩ := hG10
        have gA10 := fun o => (HG10.out.alloc o).1.1
        have gB10 := fun o => (HG10.out.alloc o).1.2.1
        have gC10 := fun o => (HG10.out.alloc o).1.2.2
        clear da9 db9 dc9 dA9 dB9 dC9 HD9
        have HD10 := Lib.hid hD10
        obtain ⟨⟨da10, db10, dc10⟩, -⟩ := hD10
        have dA10 := fun o => (HD10.out.alloc o).1.1
        have dB10 := fun o => (HD10.out.alloc o).1.2.1
        have dC10 := fun o => (HD10.out.alloc o).1.2.2
        clear sa9 sb9 sc9 sA9 sB9 sC9 HS9
        have HS10 := Lib.hid hS10
        obtain ⟨⟨sa10, sb10, sc10⟩, -⟩ := hS10
        have sA10 := fun o => (HS10.out.alloc o).1.1
        have sB10 := fun o => (HS10.out.alloc o).1.2.1
        have sC10 := fun o => (HS10.out.alloc o).1.2.2
        clear wa9 wb9 wc9 wA9 wB9 wC9 HW9
        have HW10 := Lib.hid hW10
        obtain ⟨⟨wa10, wb10, wc10⟩, -⟩ := hW10
        have wA10 := fun o => (HW10.out.alloc o).1.1
        have wB10 := fun o => (HW10.out.alloc o).1.2.1
        have wC10 := fun o => (HW10.out.alloc o).1.2.2
        have BE10 := Lib.hid (BE9.out.trans (hb.mono BE9.out.size))
        clear BE9
        clear hb
        rcases hbf with h1 | ⟨h1, h2⟩ | ⟨h1, h2, h3⟩ | ⟨h1, h2, h3, h4⟩
        all_goals
          go_wp2_with fail
          go_meet
          exact ⟨rfl, HX10.out, HY10.out, HT10.out, HG10.out, BE10.out⟩
      case rest =>
      obtain ⟨rfl, hX30, hY30, hT30, hG30, hB30⟩ := hcut
      clear HSW hbf HUX HDX HZS HTS HZW HTW HZU HTU HZD HTD
      have BE30 := Lib.hid hB30
      clear hB30
      as_aux_lemma =>
        have HX30 := Lib.hid hX30
        obtain ⟨⟨xa30, xb30, xc30⟩, -⟩ := hX30
        have xA30 := fun o => (HX30.out.alloc o).1.1
        have xB30 := fun o => (HX30.out.alloc o).1.2.1
        have xC30 := fun o => (HX30.out.alloc o).1.2.2
        have HY30 := Lib.hid hY30
        obtain ⟨⟨ya30, yb30, yc30⟩, -⟩ := hY30
        have yA30 := fun o => (HY30.out.alloc o).1.1
        have yB30 := fun o => (HY30.out.alloc o).1.2.1
        have yC30 := fun o => (HY30.out.alloc o).1.2.2
        have HT30 := Lib.hid hT30
        obtain ⟨⟨ta30, tb30, tc30⟩, -⟩ := hT30
        have tA30 := fun o => (HT30.out.alloc o).1.1
        have tB30 := fun o => (HT30.out.alloc o).1.2.1
        have tC30 := fun o => (HT30.out.alloc o).1.2.2
        have HG30 := Lib.hid hG30
        obtain ⟨⟨ga30, gb30, gc30⟩, -⟩ := hG30
        have gA30 := fun o => (HG30.out.alloc o).1.1
        have gB30 := fun o => (HG30.out.alloc o).1.2.1
        have gC30 := fun o => (HG30.out.alloc o).1.2.2
        go_wp2_with fail
        refine (sums_c r c p q A B tA l0 l1 zt kx ky tc _ hr hc hp hq HL0.out HL1.out ⟨HX30.out.2.2.1, HX30.out.2.2.2.1, HX30.out.2.2.2.2, LT0.out⟩ ⟨HY30.out.2.2.1, HY30.out.2.2.2.1, HY30.out.2.2.2.2, LT1.out⟩ ⟨HT30.out.2.2.1, HT30.out.2.2.2.1, HT30.out.2.2.2.2, HTT.out⟩ HZT.out).mono ?_
        rintro e W31 ⟨rfl, hb⟩
        have hX31 := HX30.out.below hb
        have hY31 := HY30.out.below hb
        have hT31 := HT30.out.below hb
        have hG31 := HG30.out.below hb
        clear xa30 xb30 xc30 xA30 xB30 xC30 HX30
        have HX31 := Lib.hid hX31
        obtain ⟨⟨xa31, xb31, xc31⟩, -⟩ := hX31
        have xA31 := fun o => (HX31.out.alloc o).1.1
        have xB31 := fun o => (HX31.out.alloc o).1.2.1
        have xC31 := fun o => (HX31.out.alloc o).1.2.2
        clear ya30 yb30 yc30 yA30 yB30 yC30 HY30
        have HY31 := Lib.hid hY31
        obtain ⟨⟨ya31, yb31, yc31⟩, -⟩ := hY31
        have yA31 := fun o => (HY31.out.alloc o).1.1
        have yB31 := fun o => (HY31.out.alloc o).1.2.1
        have yC31 := fun o => (HY31.out.alloc o).1.2.2
        clear ta30 tb30 tc30 tA30 tB30 tC30 HT30
        have HT31 := Lib.hid hT31
        obtain ⟨⟨ta31, tb31, tc31⟩, -⟩ := hT31
        have tA31 := fun o => (HT31.out.alloc o).1.1
        have tB31 := fun o => (HT31.out.alloc o).1.2.1
        have tC31 := fun o => (HT31.out.alloc o).1.2.2
        clear ga30 gb30 gc30 gA30 gB30 gC30 HG30
        have HG31 := Lib.hid hG31
        obtain ⟨⟨ga31, gb31, gc31⟩, -⟩ := hG31
        have gA31 := fun o => (HG31.out.alloc o).1.1
        have gB31 := fun o => (HG31.out.alloc o).1.2.1
        have gC31 := fun o => (HG31.out.alloc o).1.2.2
        have BE31 := Lib.hid (BE30.out.trans (hb.mono BE30.out.size))
        clear BE30
        clear hb
        go_wp2_with fail
        refine (times_c r c A l0 kx _ hr hc HL0.out ⟨HX31.out.2.2.1, HX31.out.2.2.2.1, HX31.out.2.2.2.2, LT0.out⟩).mono ?_
        rintro e W32 ⟨rfl, hb⟩
        have hX32 := HX31.out.below hb
        have hY32 := HY31.out.below hb
        have hT32 := HT31.out.below hb
        have hG32 := HG31.out.below hb
        clear xa31 xb31 xc31 xA31 xB31 xC31 HX31
        have HX32 := Lib.hid hX32
        obtain ⟨⟨xa32, xb32, xc32⟩, -⟩ := hX32
        have xA32 := fun o => (HX32.out.alloc o).1.1
        have xB32 := fun o => (HX32.out.alloc o).1.2.1
        have xC32 := fun o => (HX32.out.alloc o).1.2.2
        clear ya31 yb31 yc31 yA31 yB31 yC31 HY31
        have HY32 := Lib.hid hY32
        obtain ⟨⟨ya32, yb32, yc32⟩, -⟩ := hY32
        have yA32 := fun o => (HY32.out.alloc o).1.1
        have yB32 := fun o => (HY32.out.alloc o).1.2.1
        have yC32 := fun o => (HY32.out.alloc o).1.2.2
        clear ta31 tb31 tc31 tA31 tB31 tC31 HT31
        have HT32 := Lib.hid hT32
        obtain ⟨⟨ta32, tb32, tc32⟩, -⟩ := hT32
        have tA32 := fun o => (HT32.out.alloc o).1.1
        have tB32 := fun o => (HT32.out.alloc o).1.2.1
        have tC32 := fun o => (HT32.out.alloc o).1.2.2
        clear ga31 gb31 gc31 gA31 gB31 gC31 HG31
        have HG32 := Lib.hid hG32
        obtain ⟨⟨ga32, gb32, gc32⟩, -⟩ := hG32
        have gA32 := fun o => (HG32.out.alloc o).1.1
        have gB32 := fun o => (HG32.out.alloc o).1.2.1
        have gC32 := fun o => (HG32.out.alloc o).1.2.2
        have BE32 := Lib.hid (BE31.out.trans (hb.mono BE31.out.size))
        clear BE31
        clear hb
        clear ta32 tb32 tc32 tA32 tB32 tC32 HT32
        go_wp2_with fail
        refine (MConj_c p q B l1 ky _ hp hq HL1.out HY32.out.2.2.1 LT1.out).mono ?_
        rintro e W33 ⟨s, zv, rfl, hz, hlz, hown, hb⟩
        have hX33 := HX32.out.below hb
        have hY33 := HY32.out.below hb
        have hG33 := HG32.out.below hb
        clear xa32 xb32 xc32 xA32 xB32 xC32 HX32
        have HX33 := Lib.hid hX33
        obtain ⟨⟨xa33, xb33, xc33⟩, -⟩ := hX33
        have xA33 := fun o => (HX33.out.alloc o).1.1
        have xB33 := fun o => (HX33.out.alloc o).1.2.1
        have xC33 := fun o => (HX33.out.alloc o).1.2.2
        clear ya32 yb32 yc32 yA32 yB32 yC32 HY32
        have HY33 := Lib.hid hY33
        obtain ⟨⟨ya33, yb33, yc33⟩, -⟩ := hY33
        have yA33 := fun o => (HY33.out.alloc o).1.1
        have yB33 := fun o => (HY33.out.alloc o).1.2.1
        have yC33 := fun o => (HY33.out.alloc o).1.2.2
        clear ga32 gb32 gc32 gA32 gB32 gC32 HG32
        have HG33 := Lib.hid hG33
        obtain ⟨⟨ga33, gb33, gc33⟩, -⟩ := hG33
        have gA33 := fun o => (HG33.out.alloc o).1.1
        have gB33 := fun o => (HG33.out.alloc o).1.2.1
        have gC33 := fun o => (HG33.out.alloc o).1.2.2
        have BE33 := Lib.hid (BE32.out.trans (hb.mono BE32.out.size))
        clear BE32
        have hel := congrArg List.length hz
        rw [List.length_map] at hel
        rw [← hel] at hown
        obtain ⟨vA, vn, vc, rfl, -⟩ := slice_of_own hown
        obtain ⟨en, -, -⟩ := own_slice hown
        subst en
        have HZV := Lib.hid hz
        have HTV := Lib.hid hlz
        have PV := Lib.hid (fun o => ((Reads.of_own hown).below (below_new W33 o)).more (below_new W33 o).size)
        have OWN := Lib.hid hown
        clear hz hlz hel hown hb
        by_cases hcp : c = p
        · subst hcp
          go_wp2_with fail
          refine (MMul_c r c q A B l0 l1 kx ky _ hr hc hq HL0.out HL1.out ((HX33.out.alloc _).2.2.1) ((HY33.out.alloc _).2.2.1)).mono ?_
          rintro e W34 ⟨s, zo, rfl, hz, hlz, hown, hb⟩
          obtain ⟨-, hV34, hq⟩ := Has.new OWN.out hb
          clear OWN PV
          have hX34 := HX33.out.below hq
          have hY34 := HY33.out.below hq
          have hG34 := HG33.out.below hq
          clear xa33 xb33 xc33 xA33 xB33 xC33 HX33
          have HX34 := Lib.hid hX34
          obtain ⟨⟨xa34, xb34, xc34⟩, -⟩ := hX34
          have xA34 := fun o => (HX34.out.alloc o).1.1
          have xB34 := fun o => (HX34.out.alloc o).1.2.1
          have xC34 := fun o => (HX34.out.alloc o).1.2.2
          clear ya33 yb33 yc33 yA33 yB33 yC33 HY33
          have HY34 := Lib.hid hY34
          obtain ⟨⟨ya34, yb34, yc34⟩, -⟩ := hY34
          have yA34 := fun o => (HY34.out.alloc o).1.1
          have yB34 := fun o => (HY34.out.alloc o).1.2.1
          have yC34 := fun o => (HY34.out.alloc o).1.2.2
          clear ga33 gb33 gc33 gA33 gB33 gC33 HG33
          have HG34 := Lib.hid hG34
          obtain ⟨⟨ga34, gb34, gc34⟩, -⟩ := hG34
          have gA34 := fun o => (HG34.out.alloc o).1.1
          have gB34 := fun o => (HG34.out.alloc o).1.2.1
          have gC34 := fun o => (HG34.out.alloc o).1.2.2
          have BE34 := Lib.hid (BE33.out.trans (hq.mono BE33.out.size))
          clear BE33
          have HV34 := Lib.hid hV34
          obtain ⟨⟨va34, vb34, vc34⟩, -⟩ := hV34
          have vA34 := fun o => (HV34.out.alloc o).1.1
          have vB34 := fun o => (HV34.out.alloc o).1.2.1
          have vC34 := fun o => (HV34.out.alloc o).1.2.2
          clear hq
          have hel := congrArg List.length hz
          rw [List.length_map] at hel
          rw [← hel] at hown
          obtain ⟨oA, on, oc, rfl, -⟩ := slice_of_own hown
          obtain ⟨en, -, -⟩ := own_slice hown
          subst en
          have HZO := Lib.hid hz
          have HTO := Lib.hid hlz
          have PO := Lib.hid (fun o => ((Reads.of_own hown).below (below_new W34 o)).more (below_new W34 o).size)
          have OWN := Lib.hid hown
          clear hz hlz hel hown hb
          go_wp2_with fail
          refine (MMul_c r c q gA vA zg zv gc vc _ hr hc hq (len_made HZG.out) (len_made HZV.out) ((HG34.out.alloc _).2.2.1) ((HV34.out.alloc _).2.2.1)).mono ?_
          rintro e W35 ⟨s, zf, rfl, hz, hlz, hown, hb⟩
          obtain ⟨-, hO35, hq⟩ := Has.new OWN.out hb
          clear OWN PO
          have hX35 := HX34.out.below hq
          have hY35 := HY34.out.below hq
          have hG35 := HG34.out.below hq
          have hV35 := HV34.out.below hq
          clear xa34 xb34 xc34 xA34 xB34 xC34 HX34
          have HX35 := Lib.hid hX35
          obtain ⟨⟨xa35, xb35, xc35⟩, -⟩ := hX35
          have xA35 := fun o => (HX35.out.alloc o).1.1
          have xB35 := fun o => (HX35.out.alloc o).1.2.1
          have xC35 := fun o => (HX35.out.alloc o).1.2.2
          clear ya34 yb34 yc34 yA34 yB34 yC34 HY34
          have HY35 := Lib.hid hY35
          obtain ⟨⟨ya35, yb35, yc35⟩, -⟩ := hY35
          have yA35 := fun o => (HY35.out.alloc o).1.1
          have yB35 := fun o => (HY35.out.alloc o).1.2.1
          have yC35 := fun o => (HY35.out.alloc o).1.2.2
          clear ga34 gb34 gc34 gA34 gB34 gC34 HG34
          have HG35 := Lib.hid hG35
          obtain ⟨⟨ga35, gb35, gc35⟩, -⟩ := hG35
          have gA35 := fun o => (HG35.out.alloc o).1.1
          have gB35 := fun o => (HG35.out.alloc o).1.2.1
          have gC35 := fun o => (HG35.out.alloc o).1.2.2
          clear va34 vb34 vc34 vA34 vB34 vC34 HV34
          have HV35 := Lib.hid hV35
          obtain ⟨⟨va35, vb35, vc35⟩, -⟩ := hV35
          have vA35 := fun o => (HV35.out.alloc o).1.1
          have vB35 := fun o => (HV35.out.alloc o).1.2.1
          have vC35 := fun o => (HV35.out.alloc o).1.2.2
          have BE35 := Lib.hid (BE34.out.trans (hq.mono BE34.out.size))
          clear BE34
          have HO35 := Lib.hid hO35
          obtain ⟨⟨oa35, ob35, oc35⟩, -⟩ := hO35
          have oA35 := fun o => (HO35.out.alloc o).1.1
          have oB35 := fun o => (HO35.out.alloc o).1.2.1
          have oC35 := fun o => (HO35.out.alloc o).1.2.2
          clear hq
          have hel := congrArg List.length hz
          rw [List.length_map] at hel
          rw [← hel] at hown
          obtain ⟨fA, fn, fc, rfl, -⟩ := slice_of_own hown
          obtain ⟨en, -, -⟩ := own_slice hown
          subst en
          have HZF := Lib.hid hz
          have HTF := Lib.hid hlz
          have PF := Lib.hid (fun o => ((Reads.of_own hown).below (below_new W35 o)).more (below_new W35 o).size)
          have OWN := Lib.hid hown
          clear hz hlz hel hown hb
          go_wp2_with fail
          refine (MConj_c r q oA zo oc _ hr hq (len_made HZO.out) ((HO35.out.alloc _).2.2.1) HTO.out).mono ?_
          rintro e W36 ⟨s, zm, rfl, hz, hlz, hown, hb⟩
          obtain ⟨-, hF36, hq⟩ := Has.new OWN.out hb
          clear OWN PF
          have hX36 := HX35.out.below hq
          have hY36 := HY35.out.below hq
          have hG36 := HG35.out.below hq
          have hV36 := HV35.out.below hq
          have hO36 := HO35.out.below hq
          clear xa35 xb35 xc35 xA35 xB35 xC35 HX35
          have HX36 := Lib.hid hX36
          obtain ⟨⟨xa36, xb36, xc36⟩, -⟩ := hX36
          have xA36 := fun o => (HX36.out.alloc o).1.1
          have xB36 := fun o => (HX36.out.alloc o).1.2.1
          have xC36 := fun o => (HX36.out.alloc o).1.2.2
          clear ya35 yb35 yc35 yA35 yB35 yC35 HY35
          have HY36 := Lib.hid hY36
          obtain ⟨⟨ya36, yb36, yc36⟩, -⟩ := hY36
          have yA36 := fun o => (HY36.out.alloc o).1.1
          have yB36 := fun o => (HY36.out.alloc o).1.2.1
          have yC36 := fun o => (HY36.out.alloc o).1.2.2
          clear ga35 gb35 gc35 gA35 gB35 gC35 HG35
          have HG36 := Lib.hid hG36
          obtain ⟨⟨ga36, gb36, gc36⟩, -⟩ := hG36
          have gA36 := fun o => (HG36.out.alloc o).1.1
          have gB36 := fun o => (HG36.out.alloc o).1.2.1
          have gC36 := fun o => (HG36.out.alloc o).1.2.2
          clear va35 vb35 vc35 vA35 vB35 vC35 HV35
          have HV36 := Lib.hid hV36
          obtain ⟨⟨va36, vb36, vc36⟩, -⟩ := hV36
          have vA36 := fun o => (HV36.out.alloc o).1.1
          have vB36 := fun o => (HV36.out.alloc o).1.2.1
          have vC36 := fun o => (HV36.out.alloc o).1.2.2
          clear oa35 ob35 oc35 oA35 oB35 oC35 HO35
          have HO36 := Lib.hid hO36
          obtain ⟨⟨oa36, ob36, oc36⟩, -⟩ := hO36
          have oA36 := fun o => (HO36.out.alloc o).1.1
          have oB36 := fun o => (HO36.out.alloc o).1.2.1
          have oC36 := fun o => (HO36.out.alloc o).1.2.2
          have BE36 := Lib.hid (BE35.out.trans (hq.mono BE35.out.size))
          clear BE35
          have HF36 := Lib.hid hF36
          obtain ⟨⟨fa36, fb36, fc36⟩, -⟩ := hF36
          have fA36 := fun o => (HF36.out.alloc o).1.1
          have fB36 := fun o => (HF36.out.alloc o).1.2.1
          have fC36 := fun o => (HF36.out.alloc o).1.2.2
          clear hq
          have hel := congrArg List.length hz
          rw [List.length_map] at hel
          rw [← hel] at hown
          obtain ⟨mA, mn, mc, rfl, -⟩ := slice_of_own hown
          obtain ⟨en, -, -⟩ := own_slice hown
          subst en
          have HZM := Lib.hid hz
          have HTM := Lib.hid hlz
          have PM := Lib.hid (fun o => ((Reads.of_own hown).below (below_new W36 o)).more (below_new W36 o).size)
          have OWN := Lib.hid hown
          clear hz hlz hel hown hb
          clear xa36 xb36 xc36 xA36 xB36 xC36 HX36
          clear ya36 yb36 yc36 yA36 yB36 yC36 HY36
          clear ga36 gb36 gc36 gA36 gB36 gC36 HG36
          clear va36 vb36 vc36 vA36 vB36 vC36 HV36
          have hsm := prod_small hr hq
          have HSM := Lib.hid hsm
          clear hsm hr hc hp hq
          have hlm : zm.length = zo.length := by rw [len_made HZM.out, len_made HZO.out]
          have hlf : zf.length = zo.length := by rw [len_made HZF.out, len_made HZO.out]
          have hlo : zo.length ≤ 4096 := by rw [len_made HZO.out]; exact HSM.out
          have HLM := Lib.hid hlm
          have HLF := Lib.hid hlf
          have HLO := Lib.hid hlo
          rw [hlf] at fc36
          have fC2 : ∀ o, (W36.alloc o).cell? ⟨W35.heap.size, 2, none⟩ = some (.slice fA zo.length fc) := fun o => by rw [fC36 o, HLF.out]
          clear fA36 fB36 fC36 oA36 oB36 hlf hlo
          have hPM := PM.out
          rw [hlm] at OWN
          clear hlm
          go_wp2
          go_loopw [32] (fun i wr => ∃ k d : Nat, k ≤ zo.length ∧ i = .int .i64 (k : Nat) ∧ wr = (W36.alloc (.cells #[.int .i64 (r : Nat), .int .i64 (q : Nat), .slice mA zm.length mc] 28)).drewN d) (fun i _ => zo.length - (intOf i).toNat)
          case atStart => exact ⟨0, 0, Nat.zero_le _, rfl, rfl⟩
          case round =>
            obtain ⟨k, d, hk, rfl, rfl⟩ := hrel
            have hkb : k < 4611686018427387904 := by have := HLO.out; omega
            by_cases hlt : k < zo.length
            · obtain ⟨z, hz⟩ := some_of_lt (l := zo) (k := k) hlt
              obtain ⟨z', hz'⟩ := some_of_lt (l := zm) (k := k) (by rw [HLM.out]; exact hlt)
              obtain ⟨z'', hz''⟩ := some_of_lt (l := zf) (k := k) (by rw [HLF.out]; exact hlt)
              have hlt2 : (k : Int) < (zm.length : Int) := by rw [HLM.out]; omega
              have hv : (nums zo)[k]? = some (.complex .f64 z.1 z.2) := by simp [nums, hz]
              have hv' : (nums zm)[k]? = some (.complex .f64 z'.1 z'.2) := by simp [nums, hz']
              have hv'' : (nums zf)[k]? = some (.complex .f64 z''.1 z''.2) := by simp [nums, hz'']
              obtain ⟨ad, rfl, -, hc1⟩ := ((HO36.out.alloc (.cells #[.int .i64 (r : Nat), .int .i64 (q : Nat), .slice mA zm.length mc] 28)).2.2.1).at_ hv
              obtain ⟨ad', rfl, -, hc2⟩ := (PM.out (.cells #[.int .i64 (r : Nat), .int .i64 (q : Nat), .slice mA zm.length mc] 28)).at_ hv'
              obtain ⟨ad'', rfl, -, hc3⟩ := ((HF36.out.alloc (.cells #[.int .i64 (r : Nat), .int .i64 (q : Nat), .slice (some ad') zm.length mc] 28)).2.2.1).at_ hv''
              have HT := Lib.hid (fun n1 n2 => turn_last LT0.out LT1.out HZG.out HZV.out HZO.out HZF.out HZM.out hz hz' hz'' n1 n2)
              clear hz hz' hz'' hv hv' hv''
              cases n1 : isNaN FloatKind.f64.format z.1
              · cases n2 : isNaN FloatKind.f64.format z.2
                · obtain ⟨g1, g2⟩ := HT.out (by rw [feq_self, n1]; rfl) (by rw [feq_self, n2]; rfl)
                  go_wp2
                  go_quiet (fail)
                  go_wp2
                  go_roundw
                  case rel => exact ⟨k + 1, _, hlt, by go_num, rfl⟩
                  case measure => simp [intOf]; omega
                · go_wp2
                  go_quiet (fail)
                  go_wp2
                  go_roundw
                  case rel => exact ⟨k + 1, _, hlt, by go_num, rfl⟩
                  case measure => simp [intOf]; omega
              · go_wp2
                go_quiet (fail)
                go_wp2
                go_roundw
                case rel => exact ⟨k + 1, _, hlt, by go_num, rfl⟩
                case measure => simp [intOf]; omega
            · have e : k = zo.length := by omega
              subst e
              go_wp2
              go_ret
              exact ⟨rfl, below_drewN (BE36.out.trans ((below_new W36 _).mono BE36.out.size)) d⟩
        · have hne : ((c : Int) == (p : Int)) = false := by simp; omega
          have HNE := Lib.hid hne
          clear hcp hne
          go_wp2_with fail
          refine (Mul_bad2 r c p q A B l0.length l1.length kx ky _ HOX.out HNE.out).mono ?_
          rintro e W34 ⟨s, zo, rfl, hz, hlz, hown, hb⟩
          obtain ⟨-, hV34, hq⟩ := Has.new OWN.out hb
          clear OWN PV
          have hX34 := HX33.out.below hq
          have hY34 := HY33.out.below hq
          have hG34 := HG33.out.below hq
          clear xa33 xb33 xc33 xA33 xB33 xC33 HX33
          have HX34 := Lib.hid hX34
          obtain ⟨⟨xa34, xb34, xc34⟩, -⟩ := hX34
          have xA34 := fun o => (HX34.out.alloc o).1.1
          have xB34 := fun o => (HX34.out.alloc o).1.2.1
          have xC34 := fun o => (HX34.out.alloc o).1.2.2
          clear ya33 yb33 yc33 yA33 yB33 yC33 HY33
          have HY34 := Lib.hid hY34
          obtain ⟨⟨ya34, yb34, yc34⟩, -⟩ := hY34
          have yA34 := fun o => (HY34.out.alloc o).1.1
          have yB34 := fun o => (HY34.out.alloc o).1.2.1
          have yC34 := fun o => (HY34.out.alloc o).1.2.2
          clear ga33 gb33 gc33 gA33 gB33 gC33 HG33
          have HG34 := Lib.hid hG34
          obtain ⟨⟨ga34, gb34, gc34⟩, -⟩ := hG34
          have gA34 := fun o => (HG34.out.alloc o).1.1
          have gB34 := fun o => (HG34.out.alloc o).1.2.1
          have gC34 := fun o => (HG34.out.alloc o).1.2.2
          have BE34 := Lib.hid (BE33.out.trans (hq.mono BE33.out.size))
          clear BE33
          have HV34 := Lib.hid hV34
          obtain ⟨⟨va34, vb34, vc34⟩, -⟩ := hV34
          have vA34 := fun o => (HV34.out.alloc o).1.1
          have vB34 := fun o => (HV34.out.alloc o).1.2.1
          have vC34 := fun o => (HV34.out.alloc o).1.2.2
          clear hq
          have hel := congrArg List.length hz
          rw [List.length_map] at hel
          rw [← hel] at hown
          obtain ⟨oA, on, oc, rfl, -⟩ := slice_of_own hown
          obtain ⟨en, -, -⟩ := own_slice hown
          subst en
          have HZO := Lib.hid hz
          have HTO := Lib.hid hlz
          have PO := Lib.hid (fun o => ((Reads.of_own hown).below (below_new W34 o)).more (below_new W34 o).size)
          have OWN := Lib.hid hown
          clear hz hlz hel hown hb
          go_wp2_with fail
          refine (Mul_bad2 r c p q gA vA zg.length zv.length gc vc _ (okN hr hc (len_made HZG.out)) HNE.out).mono ?_
          rintro e W35 ⟨s, zf, rfl, hz, hlz, hown, hb⟩
          obtain ⟨-, hO35, hq⟩ := Has.new OWN.out hb
          clear OWN PO
          have hX35 := HX34.out.below hq
          have hY35 := HY34.out.below hq
          have hG35 := HG34.out.below hq
          have hV35 := HV34.out.below hq
          clear xa34 xb34 xc34 xA34 xB34 xC34 HX34
          have HX35 := Lib.hid hX35
          obtain ⟨⟨xa35, xb35, xc35⟩, -⟩ := hX35
          have xA35 := fun o => (HX35.out.alloc o).1.1
          have xB35 := fun o => (HX35.out.alloc o).1.2.1
          have xC35 := fun o => (HX35.out.alloc o).1.2.2
          clear ya34 yb34 yc34 yA34 yB34 yC34 HY34
          have HY35 := Lib.hid hY35
          obtain ⟨⟨ya35, yb35, yc35⟩, -⟩ := hY35
          have yA35 := fun o => (HY35.out.alloc o).1.1
          have yB35 := fun o => (HY35.out.alloc o).1.2.1
          have yC35 := fun o => (HY35.out.alloc o).1.2.2
          clear ga34 gb34 gc34 gA34 gB34 gC34 HG34
          have HG35 := Lib.hid hG35
          obtain ⟨⟨ga35, gb35, gc35⟩, -⟩ := hG35
          have gA35 := fun o => (HG35.out.alloc o).1.1
          have gB35 := fun o => (HG35.out.alloc o).1.2.1
          have gC35 := fun o => (HG35.out.alloc o).1.2.2
          clear va34 vb34 vc34 vA34 vB34 vC34 HV34
          have HV35 := Lib.hid hV35
          obtain ⟨⟨va35, vb35, vc35⟩, -⟩ := hV35
          have vA35 := fun o => (HV35.out.alloc o).1.1
          have vB35 := fun o => (HV35.out.alloc o).1.2.1
          have vC35 := fun o => (HV35.out.alloc o).1.2.2
          have BE35 := Lib.hid (BE34.out.trans (hq.mono BE34.out.size))
          clear BE34
          have HO35 := Lib.hid hO35
          obtain ⟨⟨oa35, ob35, oc35⟩, -⟩ := hO35
          have oA35 := fun o => (HO35.out.alloc o).1.1
          have oB35 := fun o => (HO35.out.alloc o).1.2.1
          have oC35 := fun o => (HO35.out.alloc o).1.2.2
          clear hq
          have hel := congrArg List.length hz
          rw [List.length_map] at hel
          rw [← hel] at hown
          obtain ⟨fA, fn, fc, rfl, -⟩ := slice_of_own hown
          obtain ⟨en, -, -⟩ := own_slice hown
          subst en
          have HZF := Lib.hid hz
          have HTF := Lib.hid hlz
          have PF := Lib.hid (fun o => ((Reads.of_own hown).below (below_new W35 o)).more (below_new W35 o).size)
          have OWN := Lib.hid hown
          clear hz hlz hel hown hb
          go_wp2_with fail
          refine (MConj_nil oA zo oc _ HZO.out).mono ?_
          rintro e W36 ⟨s, zm, rfl, hz, hlz, hown, hb⟩
          obtain ⟨-, hF36, hq⟩ := Has.new OWN.out hb
          clear OWN PF
          have hX36 := HX35.out.below hq
          have hY36 := HY35.out.below hq
          have hG36 := HG35.out.below hq
          have hV36 := HV35.out.below hq
          have hO36 := HO35.out.below hq
          clear xa35 xb35 xc35 xA35 xB35 xC35 HX35
          have HX36 := Lib.hid hX36
          obtain ⟨⟨xa36, xb36, xc36⟩, -⟩ := hX36
          have xA36 := fun o => (HX36.out.alloc o).1.1
          have xB36 := fun o => (HX36.out.alloc o).1.2.1
          have xC36 := fun o => (HX36.out.alloc o).1.2.2
          clear ya35 yb35 yc35 yA35 yB35 yC35 HY35
          have HY36 := Lib.hid hY36
          obtain ⟨⟨ya36, yb36, yc36⟩, -⟩ := hY36
          have yA36 := fun o => (HY36.out.alloc o).1.1
          have yB36 := fun o => (HY36.out.alloc o).1.2.1
          have yC36 := fun o => (HY36.out.alloc o).1.2.2
          clear ga35 gb35 gc35 gA35 gB35 gC35 HG35
          have HG36 := Lib.hid hG36
          obtain ⟨⟨ga36, gb36, gc36⟩, -⟩ := hG36
          have gA36 := fun o => (HG36.out.alloc o).1.1
          have gB36 := fun o => (HG36.out.alloc o).1.2.1
          have gC36 := fun o => (HG36.out.alloc o).1.2.2
          clear va35 vb35 vc35 vA35 vB35 vC35 HV35
          have HV36 := Lib.hid hV36
          obtain ⟨⟨va36, vb36, vc36⟩, -⟩ := hV36
          have vA36 := fun o => (HV36.out.alloc o).1.1
          have vB36 := fun o => (HV36.out.alloc o).1.2.1
          have vC36 := fun o => (HV36.out.alloc o).1.2.2
          clear oa35 ob35 oc35 oA35 oB35 oC35 HO35
          have HO36 := Lib.hid hO36
          obtain ⟨⟨oa36, ob36, oc36⟩, -⟩ := hO36
          have oA36 := fun o => (HO36.out.alloc o).1.1
          have oB36 := fun o => (HO36.out.alloc o).1.2.1
          have oC36 := fun o => (HO36.out.alloc o).1.2.2
          have BE36 := Lib.hid (BE35.out.trans (hq.mono BE35.out.size))
          clear BE35
          have HF36 := Lib.hid hF36
          obtain ⟨⟨fa36, fb36, fc36⟩, -⟩ := hF36
          have fA36 := fun o => (HF36.out.alloc o).1.1
          have fB36 := fun o => (HF36.out.alloc o).1.2.1
          have fC36 := fun o => (HF36.out.alloc o).1.2.2
          clear hq
          have hel := congrArg List.length hz
          rw [List.length_map] at hel
          rw [← hel] at hown
          obtain ⟨mA, mn, mc, rfl, -⟩ := slice_of_own hown
          obtain ⟨en, -, -⟩ := own_slice hown
          subst en
          have HZM := Lib.hid hz
          have HTM := Lib.hid hlz
          have PM := Lib.hid (fun o => ((Reads.of_own hown).below (below_new W36 o)).more (below_new W36 o).size)
          have OWN := Lib.hid hown
          clear hz hlz hel hown hb
          have hol : zo = [] := List.map_eq_nil_iff.1 HZO.out
          subst hol
          go_wp2
          go_loop [32] (fun i => i = .int .i64 0) (fun _ => 0)
          case atStart => rfl
          case round =>
            obtain rfl := hrel
            go_wp2
            go_ret
            exact ⟨rfl, BE36.out.trans ((below_new W36 _).mono BE36.out.size)⟩
theorem Turns_big0 (R0 C0 R1 C1 : Int) (A0 A1 : Option Addr) (l0 l1 : List C) (k0 k1 : Nat) (i j : Int) (w : World) (hl0 : 4098 < l0.length) :
    Calls Try.prog 7 #[mval R0 C0 (.slice A0 l0.length k0), mval R1 C1 (.slice A1 l1.length k1), .int .i64 i, .int .i64 j] w (RetBB true w) := by
  have hd : decide ((l0.length : Int) > 4098) = true := by simp; omega
  have HL := Lib.hid (large_c R0 C0 A0 l0.length k0)
  rw [hd] at HL
  clear hd hl0
  go_enter Try.func7, Try.ntmps7
  go_wp2_with fail
  refine (awake7_c _).mono ?_
  rintro e W1 ⟨rfl, h1⟩
  obtain ⟨⟨x0, x1, x2⟩, -, hb1, hs1⟩ := frame2b h1
  have HB1 := Lib.hid hb1
  clear h1 hb1 hs1
  go_wp2_with fail
  refine (HL.out _).mono ?_
  rintro e W2 ⟨rfl, hb2⟩
  have HB2 := Lib.hid (HB1.out.trans (hb2.mono HB1.out.size))
  clear hb2
  go_wp2
  go_ret
  exact ⟨rfl, HB2.out⟩
theorem Turns_big1 (R0 C0 R1 C1 : Int) (A0 A1 : Option Addr) (l0 l1 : List C) (k0 k1 : Nat) (i j : Int) (w : World) (hl0 : l0.length ≤ 4098) (hl1 : 4098 < l1.length) :
    Calls Try.prog 7 #[mval R0 C0 (.slice A0 l0.length k0), mval R1 C1 (.slice A1 l1.length k1), .int .i64 i, .int .i64 j] w (RetBB true w) := by
  have hd : decide ((l0.length : Int) > 4098) = false := by simp; omega
  have hd1 : decide ((l1.length : Int) > 4098) = true := by simp; omega
  have HL := Lib.hid (large_c R0 C0 A0 l0.length k0)
  have HL1 := Lib.hid (large_c R1 C1 A1 l1.length k1)
  rw [hd] at HL
  rw [hd1] at HL1
  clear hd hd1 hl0 hl1
  go_enter Try.func7, Try.ntmps7
  go_wp2_with fail
  refine (awake7_c _).mono ?_
  rintro e W1 ⟨rfl, h1⟩
  obtain ⟨⟨x0, x1, x2⟩, hY, hb1, hs1⟩ := frame2b h1
  have HY := Lib.hid hY
  have HB1 := Lib.hid hb1
  have HS1 := Lib.hid hs1
  clear h1 hb1 hs1 hY
  go_wp2_with fail
  refine (HL.out _).mono ?_
  rintro e W2 ⟨rfl, hb2⟩
  obtain ⟨y0, y1, y2⟩ := Box.below HY.out hb2 (by have := HS1.out; omega)
  have HB2 := Lib.hid (HB1.out.trans (hb2.mono HB1.out.size))
  clear hb2 x0 x1 x2
  go_wp2_with fail
  refine (HL1.out _).mono ?_
  rintro e W3 ⟨rfl, hb3⟩
  have HB3 := Lib.hid (HB2.out.trans (hb3.mono HB2.out.size))
  clear hb3
  go_wp2
  go_ret
  exact ⟨rfl, HB3.out⟩
end Go.Proofs.Ytdkcdcbbpebgmaa
