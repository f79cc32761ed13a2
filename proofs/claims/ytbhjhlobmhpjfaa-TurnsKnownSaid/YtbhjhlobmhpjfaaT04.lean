/- Contracts of layer 4: a turn's 24ths. -/
import Derived.Test.YtbhjhlobmhpjfaaRParts
import Derived.Test.YtbhjhlobmhpjfaaFlT
namespace Go.Proofs.Ytbhjhlobmhpjfaa
open Go.RowKit Fl Ieee
set_option maxRecDepth 20000
attribute [local go_sem] x_f64frombits
attribute [local go_sem] x_f64bits
attribute [local go_sem] Fl.order_self Fl.order_self' Fl.order_eq Fl.order_ne Fl.order_lt Fl.order_gt Fl.fle_fold Fl.fge_fold Fl.negFloat_flip
theorem grown_trans {a b c : World} (h : Grown a b) (k : Grown b c) : Grown a c :=
  ⟨World.keptBut_trans h.1 k.1, fun x => (k.2.1 x).trans (h.2.1 x), Nat.le_trans h.2.2 k.2.2⟩
theorem SameNumber_c (a b c d : Nat) (w : World) :
    Calls Try.prog 10 #[.complex .f64 a b, .complex .f64 c d] w fun e w' => e = .returned (.bool (pSame (cn .f64 a, cn .f64 b) (cn .f64 c, cn .f64 d))) ∧ w = w' := by
  unfold pSame
  cases hd : decide (cn .f64 a = cn .f64 c)
  · go_enter Try.func10, Try.ntmps10
    go_wp2_with (go_at_call 19; refine (kSameReal_c _ _ _).mono ?_; rintro e w' ⟨rfl, rfl⟩)
    go_ret; exact ⟨ret_bool (by rfl), rfl⟩
  · go_enter Try.func10, Try.ntmps10
    go_wp2_with (go_at_call 19; refine (kSameReal_c _ _ _).mono ?_; rintro e w' ⟨rfl, rfl⟩)
    go_ret; exact ⟨ret_bool (by rfl), rfl⟩
theorem SameNumber_t {a b c d : Nat} {v : C} (h : Hid ((cn .f64 a, cn .f64 b) = v)) (h' : Hid ((cn .f64 c, cn .f64 d) = v)) (w : World) :
    Calls Try.prog 10 #[.complex .f64 a b, .complex .f64 c d] w fun e w' => e = .returned (.bool true) ∧ w = w' := by
  have := SameNumber_c a b c d w
  rw [h.out, h'.out] at this
  have e : pSame v v = true := by simp [pSame]
  rw [e] at this; exact this
theorem constant_c (k : Int) (h0 : 0 ≤ k) (h1 : k ≤ 6) (w : World) :
    Calls Try.prog 41 #[.int .i64 k] w fun e w' => e = .returned (.float .f64 (conT k)) ∧ w = w' := by
  have e : k = 0 ∨ k = 1 ∨ k = 2 ∨ k = 3 ∨ k = 4 ∨ k = 5 ∨ k = 6 := by omega
  clear h0 h1
  rcases e with rfl | rfl | rfl | rfl | rfl | rfl | rfl
  all_goals
    go_enter Try.func41, Try.ntmps41
    go_wp2
    go_ret; exact ⟨rfl, rfl⟩
theorem cosT_gt17 {k : Int} (h : 17 < k) : cosT k = conT (24 - k) := by unfold cosT; rw [if_pos h]
theorem cosT_gt12 {k : Int} (h : 12 < k) (h' : k ≤ 17) : cosT k = flip double (conT (k - 12)) := by unfold cosT; rw [if_neg (by omega), if_pos h]
theorem cosT_gt6 {k : Int} (h : 6 < k) (h' : k ≤ 12) : cosT k = flip double (conT (12 - k)) := by unfold cosT; rw [if_neg (by omega), if_neg (by omega), if_pos h]
theorem cosT_le6 {k : Int} (h : k ≤ 6) : cosT k = conT k := by unfold cosT; rw [if_neg (by omega), if_neg (by omega), if_neg (by omega)]
theorem cosine_c (k : Int) (h0 : 0 ≤ k) (h1 : k < 24) (w : World) :
    Calls Try.prog 29 #[.int .i64 k] w fun e w' => e = .returned (.float .f64 (cosT k)) ∧ w = w' := by
  by_cases c1 : 17 < k
  · have E : Hid _ := cosT_gt17 c1
    go_enter Try.func29, Try.ntmps29
    go_wp2_with (go_at_call 41; refine (constant_c _ (by omega) (by omega) _).mono ?_; rintro e w' ⟨rfl, rfl⟩)
    go_ret; exact ⟨ret_float E.out.symm, rfl⟩
  · by_cases c2 : 12 < k
    · have E : Hid _ := cosT_gt12 c2 (by omega)
      go_enter Try.func29, Try.ntmps29
      go_wp2_with (go_at_call 41; refine (constant_c _ (by omega) (by omega) _).mono ?_; rintro e w' ⟨rfl, rfl⟩)
      go_ret; exact ⟨ret_float E.out.symm, rfl⟩
    · by_cases c3 : 6 < k
      · have E : Hid _ := cosT_gt6 c3 (by omega)
        go_enter Try.func29, Try.ntmps29
        go_wp2_with (go_at_call 41; refine (constant_c _ (by omega) (by omega) _).mono ?_; rintro e w' ⟨rfl, rfl⟩)
        go_ret; exact ⟨ret_float E.out.symm, rfl⟩
      · have E : Hid _ := cosT_le6 (by omega : k ≤ 6)
        go_enter Try.func29, Try.ntmps29
        go_wp2_with (go_at_call 41; refine (constant_c _ (by omega) (by omega) _).mono ?_; rintro e w' ⟨rfl, rfl⟩)
        go_ret; exact ⟨ret_float E.out.symm, rfl⟩
theorem root_1 {k m : Int} (h : m = k % 24) : cosT m = (rootT k).1 := by rw [h]; rfl
theorem root_2 {k m : Int} (h : m = (k + 18) % 24) : cosT m = (rootT k).2 := by rw [h]; rfl
theorem Root_c (k : Int) (w : World) :
    Calls Try.prog 11 #[.int .i64 k] w fun e w' => e = .returned (.complex .f64 (rootT k).1 (rootT k).2) ∧ w = w' := by
  have ⟨r1, r2⟩ := tmod_range k
  have TM : Hid _ := tmod_emod k
  go_enter Try.func11, Try.ntmps11
  go_wp2_with (go_at_call 29; refine (cosine_c _ (by omega) (by omega) _).mono ?_; rintro e w' ⟨rfl, rfl⟩)
  go_ret; exact ⟨ret_complex (root_1 (by have := TM.out; omega)) (root_2 (by have := TM.out; omega)), rfl⟩
theorem Phasor_c (x : Nat) (k : Int) (w : World) :
    Calls Try.prog 13 #[.float .f64 x, .int .i64 k] w (RetC (pScale (cn .f64 x) (rootT k)) w) := by
  have h := Scale_c x (rootT k).1 (rootT k).2
  rw [cn_rootT] at h
  go_enter Try.func13, Try.ntmps13
  go_wp2_with fail
  refine (Root_c _ _).mono ?_
  rintro e w' ⟨rfl, rfl⟩
  go_wp2_with fail
  refine (h _).mono ?_
  rintro e w' ⟨x1, y1, n1, rfl, g1, bx1, by1, rfl⟩
  have H1 : Hid _ := g1
  clear g1 h
  go_wp2
  go_ret; exact ⟨_, _, _, rfl, H1.out, bx1, by1, rfl⟩
theorem Turned_c (p q : Nat) (k : Int) (w : World) :
    Calls Try.prog 15 #[.complex .f64 p q, .int .i64 k] w (RetC (pMul (cn .f64 p, cn .f64 q) (rootT k)) w) := by
  have h := Mul_c p q (rootT k).1 (rootT k).2
  rw [cn_rootT] at h
  go_enter Try.func15, Try.ntmps15
  go_wp2_with fail
  refine (Root_c _ _).mono ?_
  rintro e w' ⟨rfl, rfl⟩
  go_wp2_with fail
  refine (h _).mono ?_
  rintro e w' ⟨x1, y1, n1, rfl, g1, bx1, by1, rfl⟩
  have H1 : Hid _ := g1
  clear g1 h
  go_wp2
  go_ret; exact ⟨_, _, _, rfl, H1.out, bx1, by1, rfl⟩
theorem rconstant_c (k : Int) (h0 : 0 ≤ k) (h1 : k ≤ 6) (w : World) :
    Calls Try.prog 42 #[.int .i64 k] w fun e w' => e = .returned (.float .f64 (conT k)) ∧ Grown w w' := by
  have e : k = 0 ∨ k = 1 ∨ k = 2 ∨ k = 3 ∨ k = 4 ∨ k = 5 ∨ k = 6 := by omega
  clear h0 h1
  rcases e with rfl | rfl | rfl | rfl | rfl | rfl | rfl
  all_goals
    go_enter Try.func42, Try.ntmps42
    go_wp2
    go_ret
    refine ⟨rfl, ?_⟩
    repeat (first | exact Grown.refl _ | refine grown_dn ?_ _ | apply Grown.alloc | (refine Grown.setCell ?_ (Nat.le_refl _) _))
theorem cosT_six : cosT 6 = 0 := by decide
theorem cosT_eighteen : cosT 18 = 0 := by decide
set_option maxHeartbeats 1000000 in
theorem rcosine_c (k m : Int) (hm : m = k % 24) (w : World) :
    Calls Try.prog 30 #[.int .i64 k] w fun e w' => e = .returned (.float .f64 (cosT m)) ∧ Grown w w' := by
  obtain ⟨t, ht⟩ : ∃ t, k.tmod 24 = t := ⟨_, rfl⟩
  have h1 := tmod_emod k
  have ⟨r1, r2⟩ := tmod_range k
  rw [ht] at h1 r1 r2
  by_cases hneg : t < 0
  · obtain rfl : m = t + 24 := by omega
    clear hm h1
    have e : t + 24 = 6 ∨ t + 24 = 18 ∨ t + 24 < 6 ∨ (6 < t + 24 ∧ t + 24 ≤ 12) ∨ (12 < t + 24 ∧ t + 24 < 18) ∨ 18 < t + 24 := by omega
    rcases e with e | e | e | ⟨e, e'⟩ | ⟨e, e'⟩ | e
    · obtain rfl : t = -18 := by omega
      clear e
      go_enter Try.func30, Try.ntmps30
      go_wp2
      go_ret; exact ⟨ret_float cosT_six.symm, Grown.refl _⟩
    · obtain rfl : t = -6 := by omega
      clear e
      go_enter Try.func30, Try.ntmps30
      go_wp2
      go_ret; exact ⟨ret_float cosT_eighteen.symm, Grown.refl _⟩
    · have E : Hid _ := cosT_le6 (by omega : t + 24 ≤ 6)
      have b1 : (t + 24 == 6) = false := beq_eq_false_iff_ne.2 (by omega)
      have b2 : (t + 24 == 18) = false := beq_eq_false_iff_ne.2 (by omega)
      go_enter Try.func30, Try.ntmps30
      go_wp2_with (go_at_call 42; refine (rconstant_c _ (by omega) (by omega) _).mono ?_; rintro e w' ⟨rfl, hg⟩)
      go_ret; exact ⟨ret_float (E.out.trans (by congr 1 <;> first | rfl | omega)).symm, by assumption⟩
    · have E : Hid _ := cosT_gt6 e e'
      have b1 : (t + 24 == 6) = false := beq_eq_false_iff_ne.2 (by omega)
      have b2 : (t + 24 == 18) = false := beq_eq_false_iff_ne.2 (by omega)
      go_enter Try.func30, Try.ntmps30
      go_wp2_with (go_at_call 42; refine (rconstant_c _ (by omega) (by omega) _).mono ?_; rintro e w' ⟨rfl, hg⟩)
      go_ret; exact ⟨ret_float (E.out.trans (by congr 2 <;> first | rfl | omega)).symm, by assumption⟩
    · have E : Hid _ := cosT_gt12 e (by omega : t + 24 ≤ 17)
      have b1 : (t + 24 == 6) = false := beq_eq_false_iff_ne.2 (by omega)
      have b2 : (t + 24 == 18) = false := beq_eq_false_iff_ne.2 (by omega)
      go_enter Try.func30, Try.ntmps30
      go_wp2_with (go_at_call 42; refine (rconstant_c _ (by omega) (by omega) _).mono ?_; rintro e w' ⟨rfl, hg⟩)
      go_ret; exact ⟨ret_float (E.out.trans (by congr 2 <;> first | rfl | omega)).symm, by assumption⟩
    · have E : Hid _ := cosT_gt17 (by omega : 17 < t + 24)
      have b1 : (t + 24 == 6) = false := beq_eq_false_iff_ne.2 (by omega)
      have b2 : (t + 24 == 18) = false := beq_eq_false_iff_ne.2 (by omega)
      go_enter Try.func30, Try.ntmps30
      go_wp2_with (go_at_call 42; refine (rconstant_c _ (by omega) (by omega) _).mono ?_; rintro e w' ⟨rfl, hg⟩)
      go_ret; exact ⟨ret_float (E.out.trans (by congr 1 <;> first | rfl | omega)).symm, by assumption⟩
  · obtain rfl : m = t := by omega
    clear hm h1
    have e : m = 6 ∨ m = 18 ∨ m < 6 ∨ (6 < m ∧ m ≤ 12) ∨ (12 < m ∧ m < 18) ∨ 18 < m := by omega
    rcases e with e | e | e | ⟨e, e'⟩ | ⟨e, e'⟩ | e
    · subst e
      go_enter Try.func30, Try.ntmps30
      go_wp2
      go_ret; exact ⟨ret_float cosT_six.symm, Grown.refl _⟩
    · subst e
      go_enter Try.func30, Try.ntmps30
      go_wp2
      go_ret; exact ⟨ret_float cosT_eighteen.symm, Grown.refl _⟩
    · have E : Hid _ := cosT_le6 (by omega : m ≤ 6)
      have b1 : (m == 6) = false := beq_eq_false_iff_ne.2 (by omega)
      have b2 : (m == 18) = false := beq_eq_false_iff_ne.2 (by omega)
      go_enter Try.func30, Try.ntmps30
      go_wp2_with (go_at_call 42; refine (rconstant_c _ (by omega) (by omega) _).mono ?_; rintro e w' ⟨rfl, hg⟩)
      go_ret; exact ⟨ret_float (E.out.trans (by congr 1 <;> first | rfl | omega)).symm, by assumption⟩
    · have E : Hid _ := cosT_gt6 e e'
      have b1 : (m == 6) = false := beq_eq_false_iff_ne.2 (by omega)
      have b2 : (m == 18) = false := beq_eq_false_iff_ne.2 (by omega)
      go_enter Try.func30, Try.ntmps30
      go_wp2_with (go_at_call 42; refine (rconstant_c _ (by omega) (by omega) _).mono ?_; rintro e w' ⟨rfl, hg⟩)
      go_ret; exact ⟨ret_float (E.out.trans (by congr 2 <;> first | rfl | omega)).symm, by assumption⟩
    · have E : Hid _ := cosT_gt12 e (by omega : m ≤ 17)
      have b1 : (m == 6) = false := beq_eq_false_iff_ne.2 (by omega)
      have b2 : (m == 18) = false := beq_eq_false_iff_ne.2 (by omega)
      go_enter Try.func30, Try.ntmps30
      go_wp2_with (go_at_call 42; refine (rconstant_c _ (by omega) (by omega) _).mono ?_; rintro e w' ⟨rfl, hg⟩)
      go_ret; exact ⟨ret_float (E.out.trans (by congr 2 <;> first | rfl | omega)).symm, by assumption⟩
    · have E : Hid _ := cosT_gt17 (by omega : 17 < m)
      have b1 : (m == 6) = false := beq_eq_false_iff_ne.2 (by omega)
      have b2 : (m == 18) = false := beq_eq_false_iff_ne.2 (by omega)
      go_enter Try.func30, Try.ntmps30
      go_wp2_with (go_at_call 42; refine (rconstant_c _ (by omega) (by omega) _).mono ?_; rintro e w' ⟨rfl, hg⟩)
      go_ret; exact ⟨ret_float (E.out.trans (by congr 1 <;> first | rfl | omega)).symm, by assumption⟩
theorem rRoot_c (k : Int) (w : World) :
    Calls Try.prog 12 #[.int .i64 k] w fun e w' => e = .returned (.complex .f64 (rootT k).1 (rootT k).2) ∧ Grown w w' := by
  obtain ⟨t, ht⟩ : ∃ t, k.tmod 24 = t := ⟨_, rfl⟩
  have h1 := tmod_emod k
  have ⟨r1, r2⟩ := tmod_range k
  rw [ht] at h1 r1 r2
  have e1 : k % 24 = t % 24 := by omega
  have e2 : (k + 18) % 24 = (t - 6) % 24 := by omega
  have E1 : Hid _ := e1
  have E2 : Hid _ := e2
  clear e1 e2 h1
  go_enter Try.func12, Try.ntmps12
  go_wp2_with fail
  refine (rcosine_c _ _ E1.out _).mono ?_
  rintro e w1 ⟨rfl, g1⟩
  go_wp2_with fail
  refine (rcosine_c _ _ E2.out _).mono ?_
  rintro e w2 ⟨rfl, g2⟩
  go_wp2
  go_ret; exact ⟨rfl, grown_trans g1 g2⟩
/-- As RetC, but new memory may have been made. -/
def RetCG (v : C) (w : World) (e : Ending) (w' : World) : Prop :=
  ∃ x y, e = .returned (.complex .f64 x y) ∧ (cn .f64 x, cn .f64 y) = v ∧ x < 18446744073709551616 ∧ y < 18446744073709551616 ∧ Grown w w'
theorem rPhasor_c (x : Nat) (k : Int) (w : World) :
    Calls Try.prog 14 #[.float .f64 x, .int .i64 k] w (RetCG (pScale (cn .f64 x) (rootT k)) w) := by
  have hc := cn_rootT k
  have HC : Hid _ := hc
  clear hc
  go_enter Try.func14, Try.ntmps14
  go_wp2_with fail
  refine (rRoot_c _ _).mono ?_
  rintro e w1 ⟨rfl, g1⟩
  go_wp2_with fail
  refine upon_mul _ _ _ _ ?_
  intro r1 n1 h1
  go_wp2_with fail
  refine upon_mul _ _ _ _ ?_
  intro r2 n2 h2
  go_wp2
  go_ret
  refine ⟨_, _, rfl, ?_, h1.2, h2.2, grown_dn g1 _⟩
  rw [h1.1, h2.1]; exact congrArg (pScale (cn .f64 x)) HC.out
theorem rTurned_c (p q : Nat) (k : Int) (w : World) :
    Calls Try.prog 16 #[.complex .f64 p q, .int .i64 k] w (RetCG (pMul (cn .f64 p, cn .f64 q) (rootT k)) w) := by
  have h := rMul_c p q (rootT k).1 (rootT k).2
  rw [cn_rootT] at h
  go_enter Try.func16, Try.ntmps16
  go_wp2_with fail
  refine (rRoot_c _ _).mono ?_
  rintro e w1 ⟨rfl, g1⟩
  go_wp2_with fail
  refine (h _).mono ?_
  rintro e w' ⟨x1, y1, n1, rfl, g2, bx1, by1, rfl⟩
  have H1 : Hid _ := g2
  clear g2 h
  go_wp2
  go_ret; exact ⟨_, _, rfl, H1.out, bx1, by1, grown_dn g1 _⟩
end Go.Proofs.Ytbhjhlobmhpjfaa
