/- Layer 7's statements: the document's examples. -/
import Derived.Test.YtdkcdcbbpebgmaaL07A
import Derived.Test.YtdkcdcbbpebgmaaMX16
namespace Go.Proofs.Ytdkcdcbbpebgmaa
open Go.RowKit Fl Ieee
set_option maxRecDepth 20000
attribute [local go_sem] run_store_float run_store_complex Fl.order_self Fl.order_self' Fl.order_eq Fl.order_ne Fl.order_lt Fl.order_gt
theorem lit_reads {X W1 : World} {t : TypeId} (xs : List Value) (h : Below (X.alloc (.cells xs.toArray t)).heap.size (X.alloc (.cells xs.toArray t)) W1) :
    Reads W1 W1.heap.size (some ⟨X.heap.size, 0, none⟩) xs ∧ Below X.heap.size X W1 ∧ X.heap.size < W1.heap.size := by
  have e : (X.alloc (.cells xs.toArray t)).heap.size = X.heap.size + 1 := by simp
  have hs := h.size
  rw [e] at h hs
  refine ⟨((Reads.new X t xs).below h).more (by omega), (below_new X _).trans (h.mono (by omega)), by omega⟩
theorem reads_lit {X : World} {t : TypeId} {xs : List Value} {b : Nat} (hb : b = X.heap.size) : Reads (X.alloc (.cells xs.toArray t)) (X.alloc (.cells xs.toArray t)).heap.size (some ⟨b, 0, none⟩) xs :=
  (Reads.newAt X t xs hb).more (by simp)
theorem reads_litD {X : World} {t : TypeId} {xs : List Value} {b : Nat} (hb : b = X.heap.size) : Reads (X.alloc (.cells xs.toArray t)).drew (X.alloc (.cells xs.toArray t)).drew.heap.size (some ⟨b, 0, none⟩) xs :=
  reads_lit hb
/-- No NaN: the words themselves are told. -/
theorem eq_of_cns {zs l : List C} (h : zs.map cnC = l) (hn : (l.all fun z => !isNaN double z.1 && !isNaN double z.2) = true) : zs = l := by
  subst h
  induction zs with
  | nil => rfl
  | cons a t ih =>
    rw [List.map_cons, List.all_cons, Bool.and_eq_true, Bool.and_eq_true, Bool.not_eq_true', Bool.not_eq_true'] at hn
    rw [List.map_cons, ← ih hn.2]
    have e1 : a.1 = cn .f64 a.1 := eq_of_cn rfl hn.1.1
    have e2 : a.2 = cn .f64 a.2 := eq_of_cn rfl hn.1.2
    exact congrArg (· :: t) (Prod.ext e1 e2)
theorem ltCs_of {l : List C} (h : (l.all fun z => decide (z.1 < 18446744073709551616) && decide (z.2 < 18446744073709551616)) = true) : ltCs l := fun z hz => by
  have := List.all_eq_true.1 h z hz
  rw [Bool.and_eq_true, decide_eq_true_eq, decide_eq_true_eq] at this
  exact this
abbrev f1 : Nat := 4607182418800017408
abbrev f2 : Nat := 4611686018427387904
abbrev f3 : Nat := 4613937818241073152
abbrev f4 : Nat := 4616189618054758400
abbrev fm : Nat := 13830554455654793216
abbrev aw1 : List C := [(f1, 0), (0, f1), (0, 0), (f2, 0)]
abbrev aw2 : List C := [(f1, 0), (0, f1)]
abbrev aw3 : List C := [(0, 0), (0, f2)]
abbrev aw4 : List C := [(f1, 0), (f2, 0), (f3, 0), (f4, 0)]
abbrev aw5 : List C := [(f1, f2), (f3, f4)]
abbrev aw6 : List C := [(f3, f4), (f1, 0), (fm, 0), (f2, 0)]
theorem aw_mul : entries 1 (fun i j => dot aw1 aw2 2 1 i j 2) (2 * 1) = aw3 := by decide +kernel
theorem aw_app : applied aw4 aw2 2 2 = aw5 := by decide +kernel
theorem aw_norm : norm1 aw6 2 2 = 4620693217682128896 := by decide +kernel
set_option maxHeartbeats 2000000 in
theorem awake7_c (w : World) : Calls Try.prog 51 #[] w (RetBB true w) := by
  go_enter Try.func51, Try.ntmps51
  go_wp2_with fail
  refine (made7_c _ _ _ _ _ _).mono ?_
  rintro e W1 ⟨rfl, h1⟩
  obtain ⟨rd1, hb1, hs1⟩ := lit_reads (nums aw1) h1
  have RD1 := Lib.hid rd1
  have HB1 := Lib.hid hb1
  clear rd1 hb1 hs1 h1
  go_wp2_with fail
  refine (made7_c _ _ _ _ _ _).mono ?_
  rintro e W2 ⟨rfl, h2⟩
  obtain ⟨rd2, hb2, hs2⟩ := lit_reads (nums aw2) h2
  have hm : Calls Try.prog 31 #[mval 2 2 (.slice (some ⟨w.heap.size, 0, none⟩) 4 4), mval 2 1 (.slice (some ⟨W1.heap.size, 0, none⟩) 2 2)] W2 (RetMxE 2 1 aw3 0 W2) := by
    have h := MMul_c 2 2 1 (some ⟨w.heap.size, 0, none⟩) (some ⟨W1.heap.size, 0, none⟩) aw1 aw2 4 2 W2 (by omega) (by omega) (by omega) rfl rfl ((RD1.out.below hb2).more hb2.size) rd2
    rw [aw_mul] at h; exact h
  have HM := Lib.hid hm
  have HB2 := Lib.hid (HB1.out.trans (hb2.mono HB1.out.size))
  clear rd2 hb2 hs2 h2 hm
  go_wp2_with fail
  refine HM.out.mono ?_
  rintro e W3 ⟨s, zs, rfl, hz, hlz, hown, hb3⟩
  have ez := eq_of_cns hz (by decide +kernel)
  subst ez
  obtain ⟨sA, sn, sc, rfl, -⟩ := slice_of_own hown
  obtain ⟨e1, hcap, -⟩ := own_slice hown
  subst e1
  have hrd := Reads.of_own hown
  have HR3 := Lib.hid hrd
  have HB3 := Lib.hid (HB2.out.trans (hb3.mono HB2.out.size))
  clear hz hlz hown hb3 hcap hrd
  go_wp2_with fail
  refine (made7_c _ _ _ _ _ _).mono ?_
  rintro e W4 ⟨rfl, h4⟩
  obtain ⟨rd4, hb4, hs4⟩ := lit_reads (nums aw4) h4
  obtain ⟨bx4, hq4, hl4⟩ := frame0 hb4
  have e4 : (W3.alloc (.cells #[.int .i64 2, .int .i64 1, .slice sA 2 sc] 28)).heap.size = W3.heap.size + 1 := by simp
  rw [e4] at rd4
  have RD4 := Lib.hid rd4
  have HB4 := Lib.hid (HB3.out.trans (hq4.mono HB3.out.size))
  have BX4 := Lib.hid bx4
  have HL4 := Lib.hid hl4
  have HR4 := Lib.hid ((HR3.out.below hq4).more hq4.size)
  clear rd4 hb4 hs4 h4 bx4 hq4 hl4 e4
  go_wp2_with fail
  -- the list is written out; what it is applied to
  have hq5 : ∀ o, Below W4.heap.size W4 (W4.alloc o) := fun o => below_new W4 o
  have ha : Calls Try.prog 15 #[mval 2 2 (.slice (some ⟨W3.heap.size + 1, 0, none⟩) 4 4), .slice (some ⟨W4.heap.size, 0, none⟩) 2 2] (W4.alloc (.cells #[.complex .f64 f1 0, .complex .f64 0 f1] 63)) (RetLC aw5 0 (W4.alloc (.cells #[.complex .f64 f1 0, .complex .f64 0 f1] 63))) := by
    have h := Apply_c 2 2 (some ⟨W3.heap.size + 1, 0, none⟩) (some ⟨W4.heap.size, 0, none⟩) aw4 aw2 4 2 (W4.alloc (.cells #[.complex .f64 f1 0, .complex .f64 0 f1] 63)) (by omega) (by omega) rfl rfl ((RD4.out.below (hq5 _)).more (hq5 _).size) ((Reads.new W4 63 (nums aw2)).more (by simp))
    rw [aw_app] at h; exact h
  have HA := Lib.hid ha
  clear ha hq5
  refine HA.out.mono ?_
  rintro e W5 ⟨s5, zs5, rfl, hz5, hlz5, hown5, hb5⟩
  have ez := eq_of_cns hz5 (by decide +kernel)
  subst ez
  obtain ⟨tA, tn, tc, rfl, -⟩ := slice_of_own hown5
  obtain ⟨e5, hcap5, -⟩ := own_slice hown5
  subst e5
  have hq5 : Below W4.heap.size W4 W5 := (below_new W4 _).trans (hb5.mono (by simp))
  have HR5 := Lib.hid (Reads.of_own hown5)
  have HB5 := Lib.hid (HB4.out.trans (hq5.mono HB4.out.size))
  have BX5 := Lib.hid (BX4.out.below hq5 HL4.out)
  have HL5 := Lib.hid (Nat.lt_of_lt_of_le HL4.out hq5.size)
  have HQ5 := Lib.hid ((HR4.out.below hq5).more hq5.size)
  clear hz5 hlz5 hown5 hb5 hcap5 hq5
  go_wp2_with fail
  refine (made7_c _ _ _ _ _ _).mono ?_
  rintro e W6 ⟨rfl, h6⟩
  obtain ⟨rd6, hb6, hs6⟩ := lit_reads (nums aw6) h6
  have hn : Calls Try.prog 16 #[mval 2 2 (.slice (some ⟨W5.heap.size, 0, none⟩) 4 4)] W6 (RetFE 4620693217682128896 0 W6) := by
    have h := Norm1_c 2 2 (some ⟨W5.heap.size, 0, none⟩) aw6 4 W6 (by omega) (by omega) rfl rd6 (ltCs_of (by decide +kernel))
    rw [aw_norm] at h; exact h
  have HN := Lib.hid hn
  have HB6 := Lib.hid (HB5.out.trans (hb6.mono HB5.out.size))
  have BX6 := Lib.hid (BX5.out.below hb6 HL5.out)
  have HL6 := Lib.hid (Nat.lt_of_lt_of_le HL5.out hb6.size)
  have HQ6 := Lib.hid ((HQ5.out.below hb6).more hb6.size)
  have HR6 := Lib.hid ((HR5.out.below hb6).more hb6.size)
  clear rd6 hb6 hs6 h6 hn
  go_wp2_with fail
  refine HN.out.mono ?_
  rintro e W7 ⟨rfl, hb7⟩
  have HB7 := Lib.hid (HB6.out.trans (hb7.mono HB6.out.size))
  have BX7 := Lib.hid (BX6.out.below hb7 HL6.out)
  have HL7 := Lib.hid (Nat.lt_of_lt_of_le HL6.out hb7.size)
  have HQ7 := Lib.hid ((HQ6.out.below hb7).more hb7.size)
  have HR7 := Lib.hid ((HR6.out.below hb7).more hb7.size)
  obtain ⟨b0, b1, b2⟩ := BX7.out
  clear hb7 RD1 HB1 HM HB2 HR3 HB3 RD4 HB4 BX4 HL4 HR4 HA HR5 HB5 BX5 HL5 HQ5 HN HB6 BX6 HL6 HQ6 HR6
  have hbd : Below W7.heap.size W7 W7.drew := (Below.refl _ W7).drew
  have hmade : ∀ (Z : World) (b : Nat), Below W7.heap.size W7 Z → Reads Z Z.heap.size (some ⟨b, 0, none⟩) [.complex .f64 0 0, .complex .f64 0 f2] → Calls Try.prog 58 #[.int .i64 2, .int .i64 1, .slice (some ⟨b, 0, none⟩) 2 2] Z
      (fun e w' => e = .returned (mval 2 1 (.slice (some ⟨b, 0, none⟩) 2 2)) ∧ Reads w' w'.heap.size (some ⟨b, 0, none⟩) (nums aw3) ∧ Below W7.heap.size W7 w') := by
    intro Z b hZ hr
    refine (made7_c _ _ _ _ _ _).mono ?_
    rintro e w' ⟨rfl, h⟩
    exact ⟨rfl, (hr.below h).more h.size, hZ.trans (h.mono hZ.size)⟩
  have hequal : ∀ (Y : World) (B : Option Addr), Below W7.heap.size W7 Y → Reads Y Y.heap.size B (nums aw3) → Calls Try.prog 44 #[mval 2 1 (.slice sA 2 sc), mval 2 1 (.slice B 2 2)] Y
      (fun e w' => e = .returned (.bool true) ∧ Below W7.heap.size W7 w') := by
    intro Y B hY hB
    have h := MEqual_c 2 1 sA B aw3 aw3 sc 2 Y (by decide) (by decide) ((HQ7.out.below hY).more hY.size) hB
    rw [show allLike pEqual aw3 aw3 = true by decide +kernel] at h
    exact h.mono fun e w' ⟨he, hb⟩ => ⟨he, hY.trans (hb.mono hY.size)⟩
  have hnums : ∀ (Z : World) (b : Nat), Below W7.heap.size W7 Z → Reads Z Z.heap.size (some ⟨b, 0, none⟩) [.complex .f64 f1 f2, .complex .f64 f3 f4] → Calls Try.prog 90 #[.slice tA 2 tc, .slice (some ⟨b, 0, none⟩) 2 2] Z
      (fun e w' => e = .returned (.bool true) ∧ Below W7.heap.size W7 w') := by
    intro Z b hZ hr
    have h := EqualNumbers_t tA (some ⟨b, 0, none⟩) aw5 aw5 2 tc 2 Z rfl rfl
      (by intro k x y hx hy; rw [hx] at hy; injection hy with hy; subst hy; match k, hx with | 0, hx => (injection hx with hx; subst hx; decide +kernel) | 1, hx => (injection hx with hx; subst hx; decide +kernel) | k + 2, hx => cases hx)
      (by omega) ((HR7.out.below hZ).more hZ.size) hr
    exact h.mono fun e w' ⟨n, he, hw⟩ => ⟨he, by rw [hw]; exact below_drewN hZ n⟩
  have HMade := Lib.hid hmade
  have HEq := Lib.hid hequal
  have HNum := Lib.hid hnums
  clear hmade hequal hnums
  have hk : ∀ w', Below W7.heap.size W7 w' → w'.cell? ⟨W3.heap.size, 0, none⟩ = some (.int .i64 2) ∧ w'.cell? ⟨W3.heap.size, 1, none⟩ = some (.int .i64 1) ∧ w'.cell? ⟨W3.heap.size, 2, none⟩ = some (.slice sA 2 sc) := fun w' h =>
    Box.below BX7.out h HL7.out
  have HK := Lib.hid hk
  clear hk
  go_wp2
  go_region_held3 (fun w' => w'.cell? ⟨W3.heap.size, 0, none⟩ = some (.int .i64 2) ∧ w'.cell? ⟨W3.heap.size, 1, none⟩ = some (.int .i64 1) ∧ w'.cell? ⟨W3.heap.size, 2, none⟩ = some (.slice sA 2 sc))
    (exact HK.out _ (by repeat (first | assumption | exact Below.refl _ _ | refine Below.new ?_ (Nat.le_refl _) _ | refine Below.drew ?_)))
    (first
    | (go_at_call 58; (with_reducible refine (HMade.out _ _ ?_ ?_).mono ?_); (repeat (first | assumption | exact Below.refl _ _ | refine Below.new ?_ (Nat.le_refl _) _ | refine Below.drew ?_)); (first | exact reads_lit rfl | exact reads_litD rfl); (rintro e V ⟨rfl, hrv, hV⟩))
    | (go_at_call 44; (with_reducible refine (HEq.out _ _ ?_ ?_).mono ?_); assumption; assumption; (rintro e V' ⟨rfl, hV'⟩))
    | (go_at_call 90; (with_reducible refine (HNum.out _ _ ?_ ?_).mono ?_); (repeat (first | assumption | exact Below.refl _ _ | refine Below.new ?_ (Nat.le_refl _) _ | refine Below.drew ?_)); (first | exact reads_lit rfl | exact reads_litD rfl); (rintro e V'' ⟨rfl, hV''⟩)))
  all_goals
    go_wp2
    go_ret
    exact ⟨ret_bool (by decide +kernel), HB7.out.trans (hV''.mono HB7.out.size)⟩
end Go.Proofs.Ytdkcdcbbpebgmaa
