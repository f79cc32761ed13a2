/- PartsMirror: the mirror sees the same: conjugates of sums, products, quotients, roots. No condition. -/
import Derived.Test.YtpibokkcmhfdbaaCln
namespace Go.Proofs.Ytpibokkcmhfdbaa
open Go.RowKit Fl Ieee
set_option maxRecDepth 20000
theorem hid_of {p : Prop} (h : p) : Hid p := h
theorem mirror_eq {u v : C} {x y p q : Nat} (h : zqC u (pConj v)) (hu : Hid ((cn .f64 x, cn .f64 y) = u)) (hv : Hid ((cn .f64 p, cn .f64 q) = v)) (hq : q < 18446744073709551616)
    (np : isNaN double p = false) (nq : isNaN double q = false) : pEqual (cn .f64 x, cn .f64 y) (cn .f64 p, cn .f64 (flip double q)) = true := by
  rw [cn_flip hq]
  have hu' := hu.out
  have hv' := hv.out
  subst hu'; subst hv'
  have e1 : isNaN double (cn .f64 p) = false := (isNaN_cn64 p).trans np
  have e2 : isNaN double (cn .f64 q) = false := (isNaN_cn64 q).trans nq
  have l2 : cn .f64 q < 18446744073709551616 := cn_lt (k := .f64) hq
  exact h.equal (h.1.isNaN.trans e1) (h.2.isNaN.trans ((isNaN_fneg l2).trans e2))
theorem clean3 {p q r : C} (h : cleanL [p, q, r] = true) : isNaN double r.1 = false ∧ isNaN double r.2 = false := by
  simp [cleanL] at h; exact h.2.2
theorem clean2 {p r : C} (h : cleanL [p, r] = true) : isNaN double r.1 = false ∧ isNaN double r.2 = false := by
  simp [cleanL] at h; exact h.2
theorem holds3 {w : World} {A : Addr} {p q r : C} (h0 : w.cell? A = some (.complex .f64 p.1 p.2)) (h1 : w.cell? (A.add 1) = some (.complex .f64 q.1 q.2)) (h2 : w.cell? (A.add 2) = some (.complex .f64 r.1 r.2)) : Holds w A [p, q, r] := by
  intro k z hz
  match k, hz with
  | 0, hz => simp at hz; subst hz; simpa [Addr.add] using h0
  | 1, hz => simp at hz; subst hz; exact h1
  | 2, hz => simp at hz; subst hz; exact h2
theorem holds2 {w : World} {A : Addr} {p r : C} (h0 : w.cell? A = some (.complex .f64 p.1 p.2)) (h1 : w.cell? (A.add 1) = some (.complex .f64 r.1 r.2)) : Holds w A [p, r] := by
  intro k z hz
  match k, hz with
  | 0, hz => simp at hz; subst hz; simpa [Addr.add] using h0
  | 1, hz => simp at hz; subst hz; exact h1
theorem clean3_c (A : Addr) (p q r : C) (w : World) (h0 : w.cell? A = some (.complex .f64 p.1 p.2)) (h1 : w.cell? (A.add 1) = some (.complex .f64 q.1 q.2)) (h2 : w.cell? (A.add 2) = some (.complex .f64 r.1 r.2)) :
    Calls Try.prog 37 #[.slice (some A) 3 3] w (RetB (cleanL [p, q, r]) w) := clean_c A [p, q, r] 3 w (by simp) (holds3 h0 h1 h2)
theorem clean2_c (A : Addr) (p r : C) (w : World) (h0 : w.cell? A = some (.complex .f64 p.1 p.2)) (h1 : w.cell? (A.add 1) = some (.complex .f64 r.1 r.2)) :
    Calls Try.prog 37 #[.slice (some A) 2 2] w (RetB (cleanL [p, r]) w) := clean_c A [p, r] 2 w (by simp) (holds2 h0 h1)
set_option maxHeartbeats 8000000 in
theorem PartsMirror_walk (a : Nat) (ha : a < 18446744073709551616) (b : Nat) (hb : b < 18446744073709551616) (c : Nat) (hc : c < 18446744073709551616) (d : Nat) (hd : d < 18446744073709551616) (w : World) :
    Calls Try.prog 5 #[.agg #[.int .u64 a, .int .u64 b], .agg #[.int .u64 c, .int .u64 d]] w fun e w' => e = .returned (.bool true) ∧ Grown w w' := by
  have lA : ltC (cn .f64 a, cn .f64 b) := ⟨cn_lt (k := .f64) ha, cn_lt (k := .f64) hb⟩
  have lB : ltC (cn .f64 c, cn .f64 d) := ⟨cn_lt (k := .f64) hc, cn_lt (k := .f64) hd⟩
  have fa := flip_lt64 ha
  have fb := flip_lt64 hb
  have fc := flip_lt64 hc
  have fd := flip_lt64 hd
  go_enter Try.func5, Try.ntmps5
  go_wp2_with fail
  go_region_held3 (fun w' => w'.cell? ⟨w.heap.size, 0, none⟩ = some (.int .u64 a) ∧ w'.cell? ⟨w.heap.size, 1, none⟩ = some (.int .u64 b) ∧ w'.cell? ⟨w.heap.size + 1, 0, none⟩ = some (.int .u64 c) ∧ w'.cell? ⟨w.heap.size + 1, 1, none⟩ = some (.int .u64 d))
    (go_keep)
    (first | (go_at_call 10; refine (Number_c _ _ _).mono ?_; rintro e w' ⟨n, rfl, rfl⟩))
  go_wp2_with fail
  refine (Conj_c _ _ hb _).mono ?_
  rintro e w' ⟨rfl, rfl⟩
  go_wp2_with fail
  refine (Conj_c _ _ hd _).mono ?_
  rintro e w' ⟨rfl, rfl⟩
  go_wp2_with fail
  refine (lives_c _).mono ?_
  rintro e w' ⟨n3, rfl, rfl⟩
  go_wp2_with fail
  refine (Add_c _ _ _ _ _).mono ?_
  rintro e w' ⟨x4, y4, n4, rfl, g4, bx4, by4, rfl⟩
  have H4 : Hid _ := g4
  clear g4
  go_wp2_with fail
  refine (Add_c _ _ _ _ _).mono ?_
  rintro e w' ⟨x5, y5, n5, rfl, g5, bx5, by5, rfl⟩
  have H5 : Hid _ := g5
  clear g5
  go_wp2_with fail
  refine (same_t H4 (hid_of (H5.out.trans (pAdd_comm _ _))) _).mono ?_
  rintro e w' ⟨rfl, rfl⟩
  go_wp2_with fail
  refine (Mul_c _ _ _ _ _).mono ?_
  rintro e w' ⟨x7, y7, n7, rfl, g7, bx7, by7, rfl⟩
  have H7 : Hid _ := g7
  clear g7
  go_wp2_with fail
  refine (Mul_c _ _ _ _ _).mono ?_
  rintro e w' ⟨x8, y8, n8, rfl, g8, bx8, by8, rfl⟩
  have H8 : Hid _ := g8
  clear g8
  go_wp2_with fail
  refine (same_t H7 (hid_of (H8.out.trans (pMul_comm _ _))) _).mono ?_
  rintro e w' ⟨rfl, rfl⟩
  go_wp2_with fail
  refine (Sub_c _ _ _ _ _).mono ?_
  rintro e w' ⟨x10, y10, n10, rfl, g10, bx10, by10, rfl⟩
  have H10 : Hid _ := g10
  clear g10
  go_wp2_with fail
  refine (Neg_c _ _ hc hd _).mono ?_
  rintro e w' ⟨rfl, rfl⟩
  go_wp2_with fail
  refine (Add_c _ _ _ _ _).mono ?_
  rintro e w' ⟨x12, y12, n12, rfl, g12, bx12, by12, rfl⟩
  have H12 : Hid _ := g12
  clear g12
  go_wp2_with fail
  refine (same_t H10 (hid_of (H12.out.trans (by rw [cn_flip hc, cn_flip hd]; exact (pSub_eq _ lB).symm))) _).mono ?_
  rintro e w' ⟨rfl, rfl⟩
  go_wp2_with fail
  refine (Sqrt_c _ _ ha fb _).mono ?_
  rintro e w' ⟨x14, y14, n14, rfl, g14, bx14, by14, rfl⟩
  have H14 : Hid _ := g14
  clear g14
  go_wp2_with fail
  refine (Sqrt_c _ _ ha hb _).mono ?_
  rintro e w' ⟨x15, y15, n15, rfl, g15, bx15, by15, rfl⟩
  have H15 : Hid _ := g15
  clear g15
  go_wp2_with fail
  refine (Conj_c _ _ by15 _).mono ?_
  rintro e w' ⟨rfl, rfl⟩
  go_wp2_with fail
  refine (same_t (v := pConj (pSqrt (cn .f64 a, cn .f64 b))) (hid_of (H14.out.trans (by rw [cn_flip hb]; exact sqrt_conj lA))) (hid_of (by rw [cn_flip by15]; exact congrArg pConj H15.out)) _).mono ?_
  rintro e w' ⟨rfl, rfl⟩
  go_wp2_with fail
  refine (Conj_c _ _ fb _).mono ?_
  rintro e w' ⟨rfl, rfl⟩
  go_wp2_with fail
  refine (same_t (v := (cn .f64 a, cn .f64 b)) (hid_of (by rw [Fl.flip_flip])) (hid_of rfl) _).mono ?_
  rintro e w' ⟨rfl, rfl⟩
  go_wp2_with fail
  refine (Neg_c _ _ ha hb _).mono ?_
  rintro e w' ⟨rfl, rfl⟩
  go_wp2_with fail
  refine (Neg_c _ _ fa fb _).mono ?_
  rintro e w' ⟨rfl, rfl⟩
  go_wp2_with fail
  refine (same_t (v := (cn .f64 a, cn .f64 b)) (hid_of (by rw [Fl.flip_flip, Fl.flip_flip])) (hid_of rfl) _).mono ?_
  rintro e w' ⟨rfl, rfl⟩
  go_wp2_with fail
  refine (Mul_c _ _ _ _ _).mono ?_
  rintro e w' ⟨x23, y23, n23, rfl, g23, bx23, by23, rfl⟩
  have H23 : Hid _ := g23
  clear g23
  go_wp2_with fail
  refine (Div_c _ _ _ _ hc hd _).mono ?_
  rintro e w' ⟨x24, y24, n24, rfl, g24, bx24, by24, rfl⟩
  have H24 : Hid _ := g24
  clear g24
  go_wp2_with fail
  refine (Inv_c _ _ ha hb _).mono ?_
  rintro e w' ⟨x25, y25, n25, rfl, g25, bx25, by25, rfl⟩
  have H25 : Hid _ := g25
  clear g25
  cases hcl30 : cleanL [(a, b), (c, d), (x23, y23)]
  · skip
    go_wp2_with fail
    refine (clean3_c _ (a, b) (c, d) (x23, y23) _ ?_ ?_ ?_).mono ?_
    any_goals (first | rfl | (simp [go_sem]; done) | skip)
    rintro e w' ⟨n30, rfl, rfl⟩
    cases hcl36 : cleanL [(a, b), (c, d), (x24, y24)]
    · skip
      go_wp2_with fail
      refine (clean3_c _ (a, b) (c, d) (x24, y24) _ ?_ ?_ ?_).mono ?_
      any_goals (first | rfl | (simp [go_sem]; done) | skip)
      rintro e w' ⟨n36, rfl, rfl⟩
      cases hcl42 : cleanL [(a, b), (x25, y25)]
      · skip
        go_wp2_with fail
        refine (clean2_c _ (a, b) (x25, y25) _ ?_ ?_).mono ?_
        any_goals (first | rfl | (simp [go_sem]; done) | skip)
        rintro e w' ⟨n42, rfl, rfl⟩
        go_wp2_with fail
        refine (Finite_c _ _ ha hb _).mono ?_
        rintro e w' ⟨n48, rfl, rfl⟩
        cases hfin : pFinite (cn .f64 a, cn .f64 b)
        · go_wp2
          go_ret
          exact ⟨rfl, by repeat (first | exact Grown.refl _ | refine grown_dn ?_ _ | apply Grown.alloc)⟩
        · have m48 := mul_one lA hfin
          go_wp2_with fail
          refine (Mul_c _ _ _ _ _).mono ?_
          rintro e w' ⟨x49, y49, n49, rfl, g49, bx49, by49, rfl⟩
          have H49 : Hid _ := g49
          clear g49
          have q48 : pEqual (cn .f64 x49, cn .f64 y49) (cn .f64 a, cn .f64 b) = true := by
            have h1 := H49.out
            have c1 : cn .f64 4607182418800017408 = fone := by decide
            rw [c1, cn0] at h1
            have hf := (Bool.and_eq_true _ _).mp (show (isFin double (cn .f64 a) && isFin double (cn .f64 b)) = true from hfin)
            have nn : ∀ t : Nat, isFin double t = true → isNaN double t = false := by intro t ht; have := fin_of_isFin ht; unfold fin at this; unfold isNaN; simp; omega
            rw [h1]; exact m48.equal (m48.1.isNaN.trans (nn _ hf.1)) (m48.2.isNaN.trans (nn _ hf.2))
          clear m48
          go_wp2_with fail
          refine (Equal_c _ _ _ _ _).mono ?_
          rintro e w' ⟨rfl, rfl⟩
          go_wp2
          go_ret
          exact ⟨rfl, by repeat (first | exact Grown.refl _ | refine grown_dn ?_ _ | apply Grown.alloc)⟩
      · skip
        go_wp2_with fail
        refine (clean2_c _ (a, b) (x25, y25) _ ?_ ?_).mono ?_
        any_goals (first | rfl | (simp [go_sem]; done) | skip)
        rintro e w' ⟨n42, rfl, rfl⟩
        have nn42 := clean2 hcl42
        go_wp2_with fail
        refine (Inv_c _ _ ha fb _).mono ?_
        rintro e w' ⟨x43, y43, n43, rfl, g43, bx43, by43, rfl⟩
        have H43 : Hid _ := g43
        clear g43
        go_wp2_with fail
        refine (Conj_c _ _ by25 _).mono ?_
        rintro e w' ⟨rfl, rfl⟩
        have E42 : pEqual (cn .f64 x43, cn .f64 y43) (cn .f64 x25, cn .f64 (flip double y25)) = true := mirror_eq (inv_conj lA) (hid_of (H43.out.trans (by rw [cn_flip hb]; rfl))) H25 by25 nn42.1 nn42.2
        clear nn42
        go_wp2_with fail
        refine (Equal_c _ _ _ _ _).mono ?_
        rintro e w' ⟨rfl, rfl⟩
        go_wp2_with fail
        refine (Finite_c _ _ ha hb _).mono ?_
        rintro e w' ⟨n52, rfl, rfl⟩
        cases hfin : pFinite (cn .f64 a, cn .f64 b)
        · go_wp2
          go_ret
          exact ⟨rfl, by repeat (first | exact Grown.refl _ | refine grown_dn ?_ _ | apply Grown.alloc)⟩
        · have m52 := mul_one lA hfin
          go_wp2_with fail
          refine (Mul_c _ _ _ _ _).mono ?_
          rintro e w' ⟨x53, y53, n53, rfl, g53, bx53, by53, rfl⟩
          have H53 : Hid _ := g53
          clear g53
          have q52 : pEqual (cn .f64 x53, cn .f64 y53) (cn .f64 a, cn .f64 b) = true := by
            have h1 := H53.out
            have c1 : cn .f64 4607182418800017408 = fone := by decide
            rw [c1, cn0] at h1
            have hf := (Bool.and_eq_true _ _).mp (show (isFin double (cn .f64 a) && isFin double (cn .f64 b)) = true from hfin)
            have nn : ∀ t : Nat, isFin double t = true → isNaN double t = false := by intro t ht; have := fin_of_isFin ht; unfold fin at this; unfold isNaN; simp; omega
            rw [h1]; exact m52.equal (m52.1.isNaN.trans (nn _ hf.1)) (m52.2.isNaN.trans (nn _ hf.2))
          clear m52
          go_wp2_with fail
          refine (Equal_c _ _ _ _ _).mono ?_
          rintro e w' ⟨rfl, rfl⟩
          go_wp2
          go_ret
          exact ⟨rfl, by repeat (first | exact Grown.refl _ | refine grown_dn ?_ _ | apply Grown.alloc)⟩
    · skip
      go_wp2_with fail
      refine (clean3_c _ (a, b) (c, d) (x24, y24) _ ?_ ?_ ?_).mono ?_
      any_goals (first | rfl | (simp [go_sem]; done) | skip)
      rintro e w' ⟨n36, rfl, rfl⟩
      have nn36 := clean3 hcl36
      go_wp2_with fail
      refine (Div_c _ _ _ _ hc fd _).mono ?_
      rintro e w' ⟨x37, y37, n37, rfl, g37, bx37, by37, rfl⟩
      have H37 : Hid _ := g37
      clear g37
      go_wp2_with fail
      refine (Conj_c _ _ by24 _).mono ?_
      rintro e w' ⟨rfl, rfl⟩
      have E36 : pEqual (cn .f64 x37, cn .f64 y37) (cn .f64 x24, cn .f64 (flip double y24)) = true := mirror_eq (div_conj lA lB) (hid_of (H37.out.trans (by rw [cn_flip hb, cn_flip hd]; rfl))) H24 by24 nn36.1 nn36.2
      clear nn36
      go_wp2_with fail
      refine (Equal_c _ _ _ _ _).mono ?_
      rintro e w' ⟨rfl, rfl⟩
      cases hcl56 : cleanL [(a, b), (x25, y25)]
      · skip
        go_wp2_with fail
        refine (clean2_c _ (a, b) (x25, y25) _ ?_ ?_).mono ?_
        any_goals (first | rfl | (simp [go_sem]; done) | skip)
        rintro e w' ⟨n56, rfl, rfl⟩
        go_wp2_with fail
        refine (Finite_c _ _ ha hb _).mono ?_
        rintro e w' ⟨n62, rfl, rfl⟩
        cases hfin : pFinite (cn .f64 a, cn .f64 b)
        · go_wp2
          go_ret
          exact ⟨rfl, by repeat (first | exact Grown.refl _ | refine grown_dn ?_ _ | apply Grown.alloc)⟩
        · have m62 := mul_one lA hfin
          go_wp2_with fail
          refine (Mul_c _ _ _ _ _).mono ?_
          rintro e w' ⟨x63, y63, n63, rfl, g63, bx63, by63, rfl⟩
          have H63 : Hid _ := g63
          clear g63
          have q62 : pEqual (cn .f64 x63, cn .f64 y63) (cn .f64 a, cn .f64 b) = true := by
            have h1 := H63.out
            have c1 : cn .f64 4607182418800017408 = fone := by decide
            rw [c1, cn0] at h1
            have hf := (Bool.and_eq_true _ _).mp (show (isFin double (cn .f64 a) && isFin double (cn .f64 b)) = true from hfin)
            have nn : ∀ t : Nat, isFin double t = true → isNaN double t = false := by intro t ht; have := fin_of_isFin ht; unfold fin at this; unfold isNaN; simp; omega
            rw [h1]; exact m62.equal (m62.1.isNaN.trans (nn _ hf.1)) (m62.2.isNaN.trans (nn _ hf.2))
          clear m62
          go_wp2_with fail
          refine (Equal_c _ _ _ _ _).mono ?_
          rintro e w' ⟨rfl, rfl⟩
          go_wp2
          go_ret
          exact ⟨rfl, by repeat (first | exact Grown.refl _ | refine grown_dn ?_ _ | apply Grown.alloc)⟩
      · skip
        go_wp2_with fail
        refine (clean2_c _ (a, b) (x25, y25) _ ?_ ?_).mono ?_
        any_goals (first | rfl | (simp [go_sem]; done) | skip)
        rintro e w' ⟨n56, rfl, rfl⟩
        have nn56 := clean2 hcl56
        go_wp2_with fail
        refine (Inv_c _ _ ha fb _).mono ?_
        rintro e w' ⟨x57, y57, n57, rfl, g57, bx57, by57, rfl⟩
        have H57 : Hid _ := g57
        clear g57
        go_wp2_with fail
        refine (Conj_c _ _ by25 _).mono ?_
        rintro e w' ⟨rfl, rfl⟩
        have E56 : pEqual (cn .f64 x57, cn .f64 y57) (cn .f64 x25, cn .f64 (flip double y25)) = true := mirror_eq (inv_conj lA) (hid_of (H57.out.trans (by rw [cn_flip hb]; rfl))) H25 by25 nn56.1 nn56.2
        clear nn56
        go_wp2_with fail
        refine (Equal_c _ _ _ _ _).mono ?_
        rintro e w' ⟨rfl, rfl⟩
        go_wp2_with fail
        refine (Finite_c _ _ ha hb _).mono ?_
        rintro e w' ⟨n66, rfl, rfl⟩
        cases hfin : pFinite (cn .f64 a, cn .f64 b)
        · go_wp2
          go_ret
          exact ⟨rfl, by repeat (first | exact Grown.refl _ | refine grown_dn ?_ _ | apply Grown.alloc)⟩
        · have m66 := mul_one lA hfin
          go_wp2_with fail
          refine (Mul_c _ _ _ _ _).mono ?_
          rintro e w' ⟨x67, y67, n67, rfl, g67, bx67, by67, rfl⟩
          have H67 : Hid _ := g67
          clear g67
          have q66 : pEqual (cn .f64 x67, cn .f64 y67) (cn .f64 a, cn .f64 b) = true := by
            have h1 := H67.out
            have c1 : cn .f64 4607182418800017408 = fone := by decide
            rw [c1, cn0] at h1
            have hf := (Bool.and_eq_true _ _).mp (show (isFin double (cn .f64 a) && isFin double (cn .f64 b)) = true from hfin)
            have nn : ∀ t : Nat, isFin double t = true → isNaN double t = false := by intro t ht; have := fin_of_isFin ht; unfold fin at this; unfold isNaN; simp; omega
            rw [h1]; exact m66.equal (m66.1.isNaN.trans (nn _ hf.1)) (m66.2.isNaN.trans (nn _ hf.2))
          clear m66
          go_wp2_with fail
          refine (Equal_c _ _ _ _ _).mono ?_
          rintro e w' ⟨rfl, rfl⟩
          go_wp2
          go_ret
          exact ⟨rfl, by repeat (first | exact Grown.refl _ | refine grown_dn ?_ _ | apply Grown.alloc)⟩
  · skip
    go_wp2_with fail
    refine (clean3_c _ (a, b) (c, d) (x23, y23) _ ?_ ?_ ?_).mono ?_
    any_goals (first | rfl | (simp [go_sem]; done) | skip)
    rintro e w' ⟨n30, rfl, rfl⟩
    have nn30 := clean3 hcl30
    go_wp2_with fail
    refine (Mul_c _ _ _ _ _).mono ?_
    rintro e w' ⟨x31, y31, n31, rfl, g31, bx31, by31, rfl⟩
    have H31 : Hid _ := g31
    clear g31
    go_wp2_with fail
    refine (Conj_c _ _ by23 _).mono ?_
    rintro e w' ⟨rfl, rfl⟩
    have E30 : pEqual (cn .f64 x31, cn .f64 y31) (cn .f64 x23, cn .f64 (flip double y23)) = true := mirror_eq (mul_conj lA lB) (hid_of (H31.out.trans (by rw [cn_flip hb, cn_flip hd]; rfl))) H23 by23 nn30.1 nn30.2
    clear nn30
    go_wp2_with fail
    refine (Equal_c _ _ _ _ _).mono ?_
    rintro e w' ⟨rfl, rfl⟩
    cases hcl70 : cleanL [(a, b), (c, d), (x24, y24)]
    · skip
      go_wp2_with fail
      refine (clean3_c _ (a, b) (c, d) (x24, y24) _ ?_ ?_ ?_).mono ?_
      any_goals (first | rfl | (simp [go_sem]; done) | skip)
      rintro e w' ⟨n70, rfl, rfl⟩
      cases hcl76 : cleanL [(a, b), (x25, y25)]
      · skip
        go_wp2_with fail
        refine (clean2_c _ (a, b) (x25, y25) _ ?_ ?_).mono ?_
        any_goals (first | rfl | (simp [go_sem]; done) | skip)
        rintro e w' ⟨n76, rfl, rfl⟩
        go_wp2_with fail
        refine (Finite_c _ _ ha hb _).mono ?_
        rintro e w' ⟨n82, rfl, rfl⟩
        cases hfin : pFinite (cn .f64 a, cn .f64 b)
        · go_wp2
          go_ret
          exact ⟨rfl, by repeat (first | exact Grown.refl _ | refine grown_dn ?_ _ | apply Grown.alloc)⟩
        · have m82 := mul_one lA hfin
          go_wp2_with fail
          refine (Mul_c _ _ _ _ _).mono ?_
          rintro e w' ⟨x83, y83, n83, rfl, g83, bx83, by83, rfl⟩
          have H83 : Hid _ := g83
          clear g83
          have q82 : pEqual (cn .f64 x83, cn .f64 y83) (cn .f64 a, cn .f64 b) = true := by
            have h1 := H83.out
            have c1 : cn .f64 4607182418800017408 = fone := by decide
            rw [c1, cn0] at h1
            have hf := (Bool.and_eq_true _ _).mp (show (isFin double (cn .f64 a) && isFin double (cn .f64 b)) = true from hfin)
            have nn : ∀ t : Nat, isFin double t = true → isNaN double t = false := by intro t ht; have := fin_of_isFin ht; unfold fin at this; unfold isNaN; simp; omega
            rw [h1]; exact m82.equal (m82.1.isNaN.trans (nn _ hf.1)) (m82.2.isNaN.trans (nn _ hf.2))
          clear m82
          go_wp2_with fail
          refine (Equal_c _ _ _ _ _).mono ?_
          rintro e w' ⟨rfl, rfl⟩
          go_wp2
          go_ret
          exact ⟨rfl, by repeat (first | exact Grown.refl _ | refine grown_dn ?_ _ | apply Grown.alloc)⟩
      · skip
        go_wp2_with fail
        refine (clean2_c _ (a, b) (x25, y25) _ ?_ ?_).mono ?_
        any_goals (first | rfl | (simp [go_sem]; done) | skip)
        rintro e w' ⟨n76, rfl, rfl⟩
        have nn76 := clean2 hcl76
        go_wp2_with fail
        refine (Inv_c _ _ ha fb _).mono ?_
        rintro e w' ⟨x77, y77, n77, rfl, g77, bx77, by77, rfl⟩
        have H77 : Hid _ := g77
        clear g77
        go_wp2_with fail
        refine (Conj_c _ _ by25 _).mono ?_
        rintro e w' ⟨rfl, rfl⟩
        have E76 : pEqual (cn .f64 x77, cn .f64 y77) (cn .f64 x25, cn .f64 (flip double y25)) = true := mirror_eq (inv_conj lA) (hid_of (H77.out.trans (by rw [cn_flip hb]; rfl))) H25 by25 nn76.1 nn76.2
        clear nn76
        go_wp2_with fail
        refine (Equal_c _ _ _ _ _).mono ?_
        rintro e w' ⟨rfl, rfl⟩
        go_wp2_with fail
        refine (Finite_c _ _ ha hb _).mono ?_
        rintro e w' ⟨n86, rfl, rfl⟩
        cases hfin : pFinite (cn .f64 a, cn .f64 b)
        · go_wp2
          go_ret
          exact ⟨rfl, by repeat (first | exact Grown.refl _ | refine grown_dn ?_ _ | apply Grown.alloc)⟩
        · have m86 := mul_one lA hfin
          go_wp2_with fail
          refine (Mul_c _ _ _ _ _).mono ?_
          rintro e w' ⟨x87, y87, n87, rfl, g87, bx87, by87, rfl⟩
          have H87 : Hid _ := g87
          clear g87
          have q86 : pEqual (cn .f64 x87, cn .f64 y87) (cn .f64 a, cn .f64 b) = true := by
            have h1 := H87.out
            have c1 : cn .f64 4607182418800017408 = fone := by decide
            rw [c1, cn0] at h1
            have hf := (Bool.and_eq_true _ _).mp (show (isFin double (cn .f64 a) && isFin double (cn .f64 b)) = true from hfin)
            have nn : ∀ t : Nat, isFin double t = true → isNaN double t = false := by intro t ht; have := fin_of_isFin ht; unfold fin at this; unfold isNaN; simp; omega
            rw [h1]; exact m86.equal (m86.1.isNaN.trans (nn _ hf.1)) (m86.2.isNaN.trans (nn _ hf.2))
          clear m86
          go_wp2_with fail
          refine (Equal_c _ _ _ _ _).mono ?_
          rintro e w' ⟨rfl, rfl⟩
          go_wp2
          go_ret
          exact ⟨rfl, by repeat (first | exact Grown.refl _ | refine grown_dn ?_ _ | apply Grown.alloc)⟩
    · skip
      go_wp2_with fail
      refine (clean3_c _ (a, b) (c, d) (x24, y24) _ ?_ ?_ ?_).mono ?_
      any_goals (first | rfl | (simp [go_sem]; done) | skip)
      rintro e w' ⟨n70, rfl, rfl⟩
      have nn70 := clean3 hcl70
      go_wp2_with fail
      refine (Div_c _ _ _ _ hc fd _).mono ?_
      rintro e w' ⟨x71, y71, n71, rfl, g71, bx71, by71, rfl⟩
      have H71 : Hid _ := g71
      clear g71
      go_wp2_with fail
      refine (Conj_c _ _ by24 _).mono ?_
      rintro e w' ⟨rfl, rfl⟩
      have E70 : pEqual (cn .f64 x71, cn .f64 y71) (cn .f64 x24, cn .f64 (flip double y24)) = true := mirror_eq (div_conj lA lB) (hid_of (H71.out.trans (by rw [cn_flip hb, cn_flip hd]; rfl))) H24 by24 nn70.1 nn70.2
      clear nn70
      go_wp2_with fail
      refine (Equal_c _ _ _ _ _).mono ?_
      rintro e w' ⟨rfl, rfl⟩
      cases hcl90 : cleanL [(a, b), (x25, y25)]
      · skip
        go_wp2_with fail
        refine (clean2_c _ (a, b) (x25, y25) _ ?_ ?_).mono ?_
        any_goals (first | rfl | (simp [go_sem]; done) | skip)
        rintro e w' ⟨n90, rfl, rfl⟩
        go_wp2_with fail
        refine (Finite_c _ _ ha hb _).mono ?_
        rintro e w' ⟨n96, rfl, rfl⟩
        cases hfin : pFinite (cn .f64 a, cn .f64 b)
        · go_wp2
          go_ret
          exact ⟨rfl, by repeat (first | exact Grown.refl _ | refine grown_dn ?_ _ | apply Grown.alloc)⟩
        · have m96 := mul_one lA hfin
          go_wp2_with fail
          refine (Mul_c _ _ _ _ _).mono ?_
          rintro e w' ⟨x97, y97, n97, rfl, g97, bx97, by97, rfl⟩
          have H97 : Hid _ := g97
          clear g97
          have q96 : pEqual (cn .f64 x97, cn .f64 y97) (cn .f64 a, cn .f64 b) = true := by
            have h1 := H97.out
            have c1 : cn .f64 4607182418800017408 = fone := by decide
            rw [c1, cn0] at h1
            have hf := (Bool.and_eq_true _ _).mp (show (isFin double (cn .f64 a) && isFin double (cn .f64 b)) = true from hfin)
            have nn : ∀ t : Nat, isFin double t = true → isNaN double t = false := by intro t ht; have := fin_of_isFin ht; unfold fin at this; unfold isNaN; simp; omega
            rw [h1]; exact m96.equal (m96.1.isNaN.trans (nn _ hf.1)) (m96.2.isNaN.trans (nn _ hf.2))
          clear m96
          go_wp2_with fail
          refine (Equal_c _ _ _ _ _).mono ?_
          rintro e w' ⟨rfl, rfl⟩
          go_wp2
          go_ret
          exact ⟨rfl, by repeat (first | exact Grown.refl _ | refine grown_dn ?_ _ | apply Grown.alloc)⟩
      · skip
        go_wp2_with fail
        refine (clean2_c _ (a, b) (x25, y25) _ ?_ ?_).mono ?_
        any_goals (first | rfl | (simp [go_sem]; done) | skip)
        rintro e w' ⟨n90, rfl, rfl⟩
        have nn90 := clean2 hcl90
        go_wp2_with fail
        refine (Inv_c _ _ ha fb _).mono ?_
        rintro e w' ⟨x91, y91, n91, rfl, g91, bx91, by91, rfl⟩
        have H91 : Hid _ := g91
        clear g91
        go_wp2_with fail
        refine (Conj_c _ _ by25 _).mono ?_
        rintro e w' ⟨rfl, rfl⟩
        have E90 : pEqual (cn .f64 x91, cn .f64 y91) (cn .f64 x25, cn .f64 (flip double y25)) = true := mirror_eq (inv_conj lA) (hid_of (H91.out.trans (by rw [cn_flip hb]; rfl))) H25 by25 nn90.1 nn90.2
        clear nn90
        go_wp2_with fail
        refine (Equal_c _ _ _ _ _).mono ?_
        rintro e w' ⟨rfl, rfl⟩
        go_wp2_with fail
        refine (Finite_c _ _ ha hb _).mono ?_
        rintro e w' ⟨n100, rfl, rfl⟩
        cases hfin : pFinite (cn .f64 a, cn .f64 b)
        · go_wp2
          go_ret
          exact ⟨rfl, by repeat (first | exact Grown.refl _ | refine grown_dn ?_ _ | apply Grown.alloc)⟩
        · have m100 := mul_one lA hfin
          go_wp2_with fail
          refine (Mul_c _ _ _ _ _).mono ?_
          rintro e w' ⟨x101, y101, n101, rfl, g101, bx101, by101, rfl⟩
          have H101 : Hid _ := g101
          clear g101
          have q100 : pEqual (cn .f64 x101, cn .f64 y101) (cn .f64 a, cn .f64 b) = true := by
            have h1 := H101.out
            have c1 : cn .f64 4607182418800017408 = fone := by decide
            rw [c1, cn0] at h1
            have hf := (Bool.and_eq_true _ _).mp (show (isFin double (cn .f64 a) && isFin double (cn .f64 b)) = true from hfin)
            have nn : ∀ t : Nat, isFin double t = true → isNaN double t = false := by intro t ht; have := fin_of_isFin ht; unfold fin at this; unfold isNaN; simp; omega
            rw [h1]; exact m100.equal (m100.1.isNaN.trans (nn _ hf.1)) (m100.2.isNaN.trans (nn _ hf.2))
          clear m100
          go_wp2_with fail
          refine (Equal_c _ _ _ _ _).mono ?_
          rintro e w' ⟨rfl, rfl⟩
          go_wp2
          go_ret
          exact ⟨rfl, by repeat (first | exact Grown.refl _ | refine grown_dn ?_ _ | apply Grown.alloc)⟩
/-! ### The row's step -/
namespace partsMirror_frame
open Go.ChangeShapes Go.WideShapes Go.ChangeAt Go.RowKit
theorem own : ownKnob Try.prog.godebug = none := by kernel_rfl
theorem cellsZ : Try.prog.cellsOf 24 = 2 := by kernel_rfl
set_option maxRecDepth 100000 in
theorem lifted (os : Os) (started : os.Started) (H : Type) (enc : TypeId × Value → H) :
    ReturnsInHanded {} Try.checked os 5 .any (Rows.partsMirrorSpec.pre6 enc Try.prog Try.f5 Rows.partsMirrorRow.domain false) (Rows.partsMirrorSpec.post enc Try.prog Try.f5 false true false false) := by
  refine returnsInHanded_of_change (C := Try.checked) own started (by kernel_rfl) Try.func5
    (ChangeSpec.witness6 (enc := enc) (C := Try.checked) false ⟨#[], #[.agg #[.int .u64 0, .int .u64 0], .agg #[.int .u64 0, .int .u64 0]], []⟩ 8 (by kernel_rfl) (by kernel_rfl) (by kernel_rfl) (by kernel_rfl)) ?_
  intro W base args ds gs before hval0 hW hcnd _
  have hval : ∀ (j : Nat) t v, Try.f5.params[j]? = some t → args[j]? = some v → Value.okWide Try.prog W .any base t v := hval0
  have hW' := hW
  obtain ⟨p, q, hA0, hV, rfl, hfz, hnd⟩ := hW
  have hA : DataW.TrodAll enc Try.prog W 0 (fun _ => true) true Try.f5.params.toList args.toList ds p := hA0
  rw [Try.params5] at hA hval
  obtain ⟨v0, vs0, d0, ds0, p0, q0, hargs, rfl, rfl, h0, r0⟩ := trodAll_cons hA
  obtain ⟨v1, vs1, d1, ds1, p1, q1, rfl, rfl, rfl, h1, r1⟩ := trodAll_cons r0
  obtain ⟨rfl, rfl, rfl⟩ := trodAll_nil r1
  obtain rfl : args = #[v0, v1] := by cases args; simp_all
  obtain ⟨rfl, rfl⟩ := trodVars_none hV
  obtain ⟨c0, d0', y0, z0, m0, rfl, rfl, rfl, hy0, hz0⟩ := Joins.open_agg2 Try.underlying24 (by kernel_rfl) cellsZ (hval 0 24 v0 rfl rfl) h0
  obtain ⟨a0, e0, rfl, w0⟩ := DataW.trod_int Try.underlying22 hy0
  obtain ⟨a0', e0', rfl, w0'⟩ := DataW.trod_int Try.underlying22 hz0
  simp at e0 e0'; subst e0 e0'
  obtain ⟨n0, rfl, b0⟩ := wf_nat_u64 w0
  obtain ⟨n0', rfl, b0'⟩ := wf_nat_u64 w0'
  obtain ⟨c1, d1', y1, z1, m1, rfl, rfl, rfl, hy1, hz1⟩ := Joins.open_agg2 Try.underlying24 (by kernel_rfl) cellsZ (hval 1 24 v1 rfl rfl) h1
  obtain ⟨a1, e1, rfl, w1⟩ := DataW.trod_int Try.underlying22 hy1
  obtain ⟨a1', e1', rfl, w1'⟩ := DataW.trod_int Try.underlying22 hz1
  simp at e1 e1'; subst e1 e1'
  obtain ⟨n1, rfl, b1⟩ := wf_nat_u64 w1
  obtain ⟨n1', rfl, b1'⟩ := wf_nat_u64 w1'
  clear hA0 hval0
  simp only [List.append_nil] at hW'
  refine (PartsMirror_walk n0 b0 n0' b0' n1 b1 n1' b1' W).mono fun e W' ⟨he, hg⟩ => ?_
  subst he
  exact ⟨_, rfl, post_of_same (pa := []) (pv := []) hW' (fun _ _ _ => (trodAll_cons_mk (shut_bool Try.underlying4 _) trodAll_mk0)) (fun sp _ => (trodAll_cons_mk ((Joins.shut_agg2 (y0 := (.lit (.int .u64 n0), [])) (y1 := (.lit (.int .u64 n0'), [])) Try.underlying24 (by kernel_rfl) cellsZ ⟨1, by simp [DataW.trod, Try.underlying22, w0]⟩ ⟨1, by simp [DataW.trod, Try.underlying22, w0']⟩)) (trodAll_cons_mk ((Joins.shut_agg2 (y0 := (.lit (.int .u64 n1), [])) (y1 := (.lit (.int .u64 n1'), [])) Try.underlying24 (by kernel_rfl) cellsZ ⟨1, by simp [DataW.trod, Try.underlying22, w1]⟩ ⟨1, by simp [DataW.trod, Try.underlying22, w1']⟩)) trodAll_mk0))) (fun _ _ => rfl) rfl
    (hg.frame _) hg.2.1 (ok_one (by kernel_rfl) rfl (okWide_bool_mk Try.underlying4 _))⟩
theorem over : Rows.partsMirrorRow.holds Try.pinned (OpenSpec.ofChange Rows.partsMirrorSpec) :=
  OpenClaim.holds_of_wide 5 Try.f5 rfl rfl rfl rfl rfl rfl rfl ⟨rfl, rfl, rfl, rfl, rfl⟩ rfl rfl rfl rfl rfl (by kernel_rfl) Try.func5 (by kernel_rfl)
    (of_decide_eq_true (by kernel_rfl)) (by unfold Func.isWrapper; first | (rw [if_pos (by decide +kernel)]; kernel_rfl) | (rw [if_neg (by decide +kernel)]; exact ⟨rfl, rfl⟩))
    (fun os started H enc _ => lifted os started H enc)
end partsMirror_frame

/-- THE STATEMENT. -/
theorem partsMirror_holds : Rows.PartsMirrorSaid := partsMirror_frame.over
#print axioms partsMirror_holds
