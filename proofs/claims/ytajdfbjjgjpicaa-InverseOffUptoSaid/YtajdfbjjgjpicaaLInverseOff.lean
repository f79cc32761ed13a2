/- Layer 12: of every two matrices how far the product is off; what was handed in stays (gridworklaw12.InverseOff). -/
import Derived.Test.YtajdfbjjgjpicaaLOff
import Derived.Test.YtajdfbjjgjpicaaMX21
import Derived.Test.YtajdfbjjgjpicaaArg
import Derived.Test.YtajdfbjjgjpicaaFr
import Derived.ProofKit
import Derived.OpenShut
import Derived.JoinedCond
namespace Go.Proofs.Ytajdfbjjgjpicaa
open Go.RowKit Fl Ieee
set_option maxRecDepth 20000
attribute [local go_sem] run_store_float run_store_complex Fl.order_self Fl.order_self' Fl.order_eq Fl.order_ne Fl.order_lt Fl.order_gt
/-- A matrix lent: it, in memory of its own, and that memory whole. -/
def RetLn (r c : Int) (l : List C) (w : World) (e : Ending) (w' : World) : Prop :=
  ∃ (A : Option Addr) (zt zf : List C) (cap : Nat), e = .returned (.tuple #[mval r c (.slice A zt.length cap), .slice A zf.length cap]) ∧ zt.map cnC = l.map cnC ∧ ltCs zt ∧
    w'.ownsRow w.heap.size 53 1 (.slice A zt.length cap) zt.length (nums zt) ∧ zf.map cnC = lent l 6 ∧ Reads w' w'.heap.size A (nums zf) ∧ Below w.heap.size w w'
theorem Lentn_c (r c : Int) (A : Option Addr) (l : List C) (cap : Nat) (w : World) (hl : l.length ≤ 1000000) (hlt : ltCs l) (hA : A = none → cap = 0) (hr : Reads w w.heap.size A (nums l)) :
    Calls Try.prog 11 #[mval r c (.slice A l.length cap)] w (RetLn r c l w) := by
  refine (LentMatrix_c r c A l cap w hl hlt hA hr).mono ?_
  rintro e w' ⟨g, zs, cap', rfl, hz, hlz, hown, hb⟩
  have hzl := lent_len hz
  have htl : (zs.take l.length).length = l.length := by rw [List.length_take]; omega
  refine ⟨some ⟨g, 0, none⟩, zs.take l.length, zs, cap', by rw [htl], ?_, fun z hz => hlz z (List.mem_of_mem_take hz), ?_, hz, Reads.of_own hown, hb⟩
  · rw [List.map_take, hz]
    unfold lent
    rw [List.take_left' (by simp)]
  · rcases hown.2 with ⟨h, _⟩ | ⟨g', cap2, cur, h, hbg, hg, hnc, hcm, hcs, htk⟩
    · cases h
    · injection h with h1 h2 h3
      injection h1 with h4
      injection h4 with h5
      subst h5 h3
      refine ⟨by simp, .inr ⟨g, cap', cur, rfl, hbg, hg, by rw [htl]; omega, hcm, hcs, ?_⟩⟩
      rw [htl, Nat.mul_one]
      rw [Nat.mul_one] at htk
      have e : nums (zs.take l.length) = (nums zs).take l.length := by simp [nums, List.map_take]
      rw [e, ← htk, List.take_take, Nat.min_eq_left (by omega)]
theorem Off_l {ra ca rb cb : Int} {A B : Option Addr} {la lb za zb : List C} {capa capb : Nat} {w : World} {v : Nat} {er : Int} (ha : za.map cnC = la.map cnC) (hb : zb.map cnC = lb.map cnC) (hv : offV ra ca rb cb la lb = v) (he : offE ra ca rb cb la.length lb.length = er)
    (hX : Lies w A za capa) (hY : Lies w B zb capb) :
    Calls Try.prog 12 #[mval ra ca (.slice A za.length capa), mval rb cb (.slice B zb.length capb)] w (RetFE v er w) := by
  have h := Off_c ra ca rb cb A B za zb capa capb w hX hY
  have e1 : za.length = la.length := by have := congrArg List.length ha; simpa using this
  have e2 : zb.length = lb.length := by have := congrArg List.length hb; simpa using this
  have e3 : offV ra ca rb cb za zb = v := by rw [← hv]; unfold offV; rw [e1, e2, offN_congr ha hb]
  have e4 : offE ra ca rb cb za.length zb.length = er := by rw [e1, e2, he]
  rwa [e3, e4] at h
theorem kSameReal_self (a : Nat) (w : World) : Calls Try.prog 14 #[.float .f64 a, .float .f64 a] w fun e w' => e = .returned (.bool true) ∧ w = w' := by
  have h := kSameReal_c a a w
  rwa [decide_eq_true rfl] at h
set_option maxHeartbeats 16000000 in
theorem Ioff_try (R0 C0 R1 C1 : Int) (A0 A1 : Option Addr) (l0 l1 : List C) (k0 k1 : Nat) (w : World) (hl0 : l0.length ≤ 1000000) (hl1 : l1.length ≤ 1000000) (hr0 : Reads w w.heap.size A0 (zcells l0)) (hr1 : Reads w w.heap.size A1 (zcells l1)) (lt0 : ltCs l0) (lt1 : ltCs l1) :
    Calls Try.prog 3 #[mval R0 C0 (.slice A0 l0.length k0), mval R1 C1 (.slice A1 l1.length k1)] w (RetBB true w) := by
  have hfr := frame2b (Below.refl _ ((w.alloc (.cells #[.int .i64 R0, .int .i64 C0, .slice A0 l0.length k0] 24)).alloc (.cells #[.int .i64 R1, .int .i64 C1, .slice A1 l1.length k1] 24)))
  have HFr := Lib.hid hfr
  have HR0 := Lib.hid hr0
  have HR1 := Lib.hid hr1
  have HLn0 := Lib.hid hl0
  have HLn1 := Lib.hid hl1
  have LT0 := Lib.hid lt0
  have LT1 := Lib.hid lt1
  obtain ⟨v, hv⟩ : ∃ v, offV R0 C0 R1 C1 l0 l1 = v := ⟨_, rfl⟩
  obtain ⟨er, her⟩ : ∃ er, offE R0 C0 R1 C1 l0.length l1.length = er := ⟨_, rfl⟩
  have HV := Lib.hid hv
  have HE := Lib.hid her
  clear hfr hr0 hr1 hv her lt0 lt1
  go_enter Try.func3, Try.ntmps3
  go_upto_region 1 with fail
  obtain ⟨W3, hW3⟩ : ∃ W3, W3 = (w.alloc (.cells #[.int .i64 R0, .int .i64 C0, .slice A0 l0.length k0] 24)).alloc (.cells #[.int .i64 R1, .int .i64 C1, .slice A1 l1.length k1] 24) := ⟨_, rfl⟩
  rw [← hW3] at HFr
  rw [← hW3]
  clear hW3
  obtain ⟨bx, by_, hb3, hs3⟩ := HFr.out
  have HX3 := Lib.hid bx
  have HY3 := Lib.hid by_
  have HS3 := Lib.hid hs3
  have HB3 := Lib.hid hb3
  obtain ⟨x6, x7, x8⟩ := bx
  obtain ⟨y6, y7, y8⟩ := by_
  clear hb3 hs3 HFr
  have hp0 : ∀ Z, Below W3.heap.size W3 Z → Calls Try.prog 10 #[.slice A0 l0.length k0] Z (fun e w' => ∃ sA sn sc, e = .returned (.slice sA sn sc) ∧ OwnIn w' Z.heap.size w'.heap.size (.slice sA sn sc) l0.length (nums l0) ∧ Below Z.heap.size Z w' ∧ Below W3.heap.size W3 w') := fun Z hZ => by
    refine (Numbers_c A0 l0 k0 Z (by omega) ((HR0.out.below (HB3.out.trans (hZ.mono HB3.out.size))).more (Nat.le_trans HB3.out.size hZ.size))).mono ?_
    rintro e w' ⟨s, rfl, hown, hb⟩
    obtain ⟨sA, sn, sc, rfl, -⟩ := slice_of_own hown
    exact ⟨sA, sn, sc, rfl, OwnIn.of hown, hb, hZ.trans (hb.mono hZ.size)⟩
  have HP0 := Lib.hid hp0
  have hp1 : ∀ Z, Below W3.heap.size W3 Z → Calls Try.prog 10 #[.slice A1 l1.length k1] Z (fun e w' => ∃ sA sn sc, e = .returned (.slice sA sn sc) ∧ OwnIn w' Z.heap.size w'.heap.size (.slice sA sn sc) l1.length (nums l1) ∧ Below Z.heap.size Z w' ∧ Below W3.heap.size W3 w') := fun Z hZ => by
    refine (Numbers_c A1 l1 k1 Z (by omega) ((HR1.out.below (HB3.out.trans (hZ.mono HB3.out.size))).more (Nat.le_trans HB3.out.size hZ.size))).mono ?_
    rintro e w' ⟨s, rfl, hown, hb⟩
    obtain ⟨sA, sn, sc, rfl, -⟩ := slice_of_own hown
    exact ⟨sA, sn, sc, rfl, OwnIn.of hown, hb, hZ.trans (hb.mono hZ.size)⟩
  have HP1 := Lib.hid hp1
  have hk : ∀ w', Below W3.heap.size W3 w' → w'.cell? ⟨w.heap.size, 0, none⟩ = some (.int .i64 R0) ∧ w'.cell? ⟨w.heap.size, 1, none⟩ = some (.int .i64 C0) ∧ w'.cell? ⟨w.heap.size, 2, none⟩ = some (.slice A0 l0.length k0) ∧
      w'.cell? ⟨w.heap.size + 1, 0, none⟩ = some (.int .i64 R1) ∧ w'.cell? ⟨w.heap.size + 1, 1, none⟩ = some (.int .i64 C1) ∧ w'.cell? ⟨w.heap.size + 1, 2, none⟩ = some (.slice A1 l1.length k1) := fun w' h => by
    have l0 : w.heap.size < W3.heap.size := by have := HS3.out; omega
    have l1 : w.heap.size + 1 < W3.heap.size := by have := HS3.out; omega
    obtain ⟨a, b, c⟩ := Box.below HX3.out h l0
    obtain ⟨d, e, f⟩ := Box.below HY3.out h l1
    exact ⟨a, b, c, d, e, f⟩
  have HK := Lib.hid hk
  clear hk hp0 hp1
  go_wp2_with fail
  go_cut [5, 6] (fun s5 s6 wx => TwoR R0 C0 R1 C1 l0 l1 w s5 s6 wx)
  case first =>
    go_region_held3 (fun w' => w'.cell? ⟨w.heap.size, 0, none⟩ = some (.int .i64 R0) ∧ w'.cell? ⟨w.heap.size, 1, none⟩ = some (.int .i64 C0) ∧ w'.cell? ⟨w.heap.size, 2, none⟩ = some (.slice A0 l0.length k0) ∧
      w'.cell? ⟨w.heap.size + 1, 0, none⟩ = some (.int .i64 R1) ∧ w'.cell? ⟨w.heap.size + 1, 1, none⟩ = some (.int .i64 C1) ∧ w'.cell? ⟨w.heap.size + 1, 2, none⟩ = some (.slice A1 l1.length k1))
      (exact HK.out _ (by repeat (first | with_reducible assumption | with_reducible refine Below.setCell ?_ (by show W3.heap.size ≤ _; first | exact Nat.le_refl _ | exact Nat.le_succ _ | exact Below.size (B := W3.heap.size) (by assumption) | exact Nat.le_succ_of_le (Below.size (B := W3.heap.size) (by assumption))) _ | with_reducible refine Below.new ?_ (Nat.le_refl _) _ | with_reducible refine Below.drew ?_ | with_reducible exact Below.refl _ _)))
      (first
      | (go_at_call 10; (with_reducible refine (HP0.out _ ?_).mono ?_); (repeat (first | with_reducible assumption | with_reducible refine Below.setCell ?_ (by show W3.heap.size ≤ _; first | exact Nat.le_refl _ | exact Nat.le_succ _ | exact Below.size (B := W3.heap.size) (by assumption) | exact Nat.le_succ_of_le (Below.size (B := W3.heap.size) (by assumption))) _ | with_reducible refine Below.new ?_ (Nat.le_refl _) _ | with_reducible refine Below.drew ?_ | with_reducible exact Below.refl _ _)); (rintro e V ⟨sA, sn, sc, rfl, hown0, hZ0, hV⟩); have e0 := hZ0.size; (try simp at e0); (try (have ra0 := row_keep (b := W3.heap.size) (o := zrow) hZ0 (by first | exact heap_alloc_new _ _ | exact row_alloc (heap_alloc_new _ _)))); (try (have ra1 := row_keep (b := W3.heap.size + 1) (o := zrow) hZ0 (by first | exact row_new2 _ _ _))))
      | (go_at_call 10; (with_reducible refine (HP1.out _ ?_).mono ?_); (repeat (first | with_reducible assumption | with_reducible refine Below.setCell ?_ (by show W3.heap.size ≤ _; first | exact Nat.le_refl _ | exact Nat.le_succ _ | exact Below.size (B := W3.heap.size) (by assumption) | exact Nat.le_succ_of_le (Below.size (B := W3.heap.size) (by assumption))) _ | with_reducible refine Below.new ?_ (Nat.le_refl _) _ | with_reducible refine Below.drew ?_ | with_reducible exact Below.refl _ _)); (rintro e V' ⟨tA, tn, tc, rfl, hown1, hZ1, hV'⟩); have e1 := hZ1.size; (try simp at e1); (first | (with_reducible have hO0 := hown0.below hZ1) | (with_reducible have hO0 := (hown0.alloc zrow).below hZ1) | (with_reducible have hO0 := ((hown0.alloc zrow).alloc zrow).below hZ1)); (try (have rb0 := row_keep (b := W3.heap.size) (o := zrow) hZ1 (by first | exact ra0 | exact row_alloc ra0 | exact row_alloc (row_alloc ra0)); obtain ⟨xb0, yb0, zb0, fb0⟩ := box3 rb0; have gb0 := fb0 0; have hb0 := fb0 1; have kb0 := fb0 2; clear fb0; have Mb0 := Nat.ne_of_lt (row_lt rb0); have Nb0 := Nat.ne_of_gt (row_lt rb0); have Bb0 := fun o => box3 (row_alloc (o' := o) rb0); have Xb0 := fun o => (Bb0 o).1; have Yb0 := fun o => (Bb0 o).2.1; have Zb0 := fun o => (Bb0 o).2.2.1; have Gb0 := fun o => (Bb0 o).2.2.2 0; have Hb0 := fun o => (Bb0 o).2.2.2 1; have Kb0 := fun o => (Bb0 o).2.2.2 2; clear Bb0)); (try (have rb1 := row_keep (b := W3.heap.size + 1) (o := zrow) hZ1 (by first | exact ra1 | exact row_alloc ra1 | exact row_alloc (row_alloc ra1)); obtain ⟨xb1, yb1, zb1, fb1⟩ := box3 rb1; have gb1 := fb1 0; have hb1 := fb1 1; have kb1 := fb1 2; clear fb1; have Mb1 := Nat.ne_of_lt (row_lt rb1); have Nb1 := Nat.ne_of_gt (row_lt rb1); have Bb1 := fun o => box3 (row_alloc (o' := o) rb1); have Xb1 := fun o => (Bb1 o).1; have Yb1 := fun o => (Bb1 o).2.1; have Zb1 := fun o => (Bb1 o).2.2.1; have Gb1 := fun o => (Bb1 o).2.2.2 0; have Hb1 := fun o => (Bb1 o).2.2.2 1; have Kb1 := fun o => (Bb1 o).2.2.2 2; clear Bb1)); (try (have rb2 := row_keep (b := V.heap.size) (o := zrow) hZ1 (by first | exact heap_alloc_new _ _ | exact row_alloc (heap_alloc_new _ _)); obtain ⟨xb2, yb2, zb2, fb2⟩ := box3 rb2; have gb2 := fb2 0; have hb2 := fb2 1; have kb2 := fb2 2; clear fb2; have Mb2 := Nat.ne_of_lt (row_lt rb2); have Nb2 := Nat.ne_of_gt (row_lt rb2); have Bb2 := fun o => box3 (row_alloc (o' := o) rb2); have Xb2 := fun o => (Bb2 o).1; have Yb2 := fun o => (Bb2 o).2.1; have Zb2 := fun o => (Bb2 o).2.2.1; have Gb2 := fun o => (Bb2 o).2.2.2 0; have Hb2 := fun o => (Bb2 o).2.2.2 1; have Kb2 := fun o => (Bb2 o).2.2.2 2; clear Bb2)); (try (have rb3 := row_keep (b := V.heap.size + 1) (o := zrow) hZ1 (by first | exact row_new2 _ _ _); obtain ⟨xb3, yb3, zb3, fb3⟩ := box3 rb3; have gb3 := fb3 0; have hb3 := fb3 1; have kb3 := fb3 2; clear fb3; have Mb3 := Nat.ne_of_lt (row_lt rb3); have Nb3 := Nat.ne_of_gt (row_lt rb3); have Bb3 := fun o => box3 (row_alloc (o' := o) rb3); have Xb3 := fun o => (Bb3 o).1; have Yb3 := fun o => (Bb3 o).2.1; have Zb3 := fun o => (Bb3 o).2.2.1; have Gb3 := fun o => (Bb3 o).2.2.2 0; have Hb3 := fun o => (Bb3 o).2.2.2 1; have Kb3 := fun o => (Bb3 o).2.2.2 2; clear Bb3))))
    all_goals
      as_aux_lemma =>
        have hO1 := hown1
        clear HP0 HP1 HK
        go_wp2_with fail
        go_meet
        first
          | (with_reducible refine two_set (X := V') hO0 hO1 ?_ ?_ ?_ ?_ ?_ ?_ ?_ ?_ ?_ ?_; all_goals (first | with_reducible exact rb0 | with_reducible exact rb1 | with_reducible exact rb2 | with_reducible exact rb3 | (with_reducible refine Below.trans HB3.out (Below.mono (B := W3.heap.size) ?_ HB3.out.size); repeat (first | with_reducible assumption | with_reducible refine Below.setCell ?_ (by show W3.heap.size ≤ _; first | exact Nat.le_refl _ | exact Nat.le_succ _ | exact Below.size (B := W3.heap.size) (by assumption) | exact Nat.le_succ_of_le (Below.size (B := W3.heap.size) (by assumption))) _ | with_reducible refine Below.new ?_ (Nat.le_refl _) _ | with_reducible refine Below.drew ?_ | with_reducible exact Below.refl _ _)) | (simp; done) | (simp; omega) | omega))
          | (with_reducible refine two_set (X := V'.alloc zrow) (hO0.alloc zrow) (hO1.alloc zrow) ?_ ?_ ?_ ?_ ?_ ?_ ?_ ?_ ?_ ?_; all_goals (first | with_reducible exact row_alloc rb0 | with_reducible exact row_alloc rb1 | with_reducible exact row_alloc rb2 | with_reducible exact row_alloc rb3 | with_reducible exact heap_alloc_new _ _ | (with_reducible refine Below.trans HB3.out (Below.mono (B := W3.heap.size) ?_ HB3.out.size); repeat (first | with_reducible assumption | with_reducible refine Below.setCell ?_ (by show W3.heap.size ≤ _; first | exact Nat.le_refl _ | exact Nat.le_succ _ | exact Below.size (B := W3.heap.size) (by assumption) | exact Nat.le_succ_of_le (Below.size (B := W3.heap.size) (by assumption))) _ | with_reducible refine Below.new ?_ (Nat.le_refl _) _ | with_reducible refine Below.drew ?_ | with_reducible exact Below.refl _ _)) | (simp; done) | (simp; omega) | omega))
          | (with_reducible refine two_new_set (X := V') hO0 hO1 ?_ ?_ ?_ ?_ ?_ ?_ ?_; all_goals (first | with_reducible exact rb0 | with_reducible exact rb1 | with_reducible exact rb2 | with_reducible exact rb3 | (with_reducible refine Below.trans HB3.out (Below.mono (B := W3.heap.size) ?_ HB3.out.size); repeat (first | with_reducible assumption | with_reducible refine Below.setCell ?_ (by show W3.heap.size ≤ _; first | exact Nat.le_refl _ | exact Nat.le_succ _ | exact Below.size (B := W3.heap.size) (by assumption) | exact Nat.le_succ_of_le (Below.size (B := W3.heap.size) (by assumption))) _ | with_reducible refine Below.new ?_ (Nat.le_refl _) _ | with_reducible refine Below.drew ?_ | with_reducible exact Below.refl _ _)) | (simp; done) | (simp; omega) | omega))
          | (with_reducible refine two_new (X := V') hO0 hO1 ?_ ?_ ?_ ?_ ?_; all_goals (first | with_reducible exact rb0 | with_reducible exact rb1 | with_reducible exact rb2 | with_reducible exact rb3 | (with_reducible refine Below.trans HB3.out (Below.mono (B := W3.heap.size) ?_ HB3.out.size); repeat (first | with_reducible assumption | with_reducible refine Below.setCell ?_ (by show W3.heap.size ≤ _; first | exact Nat.le_refl _ | exact Nat.le_succ _ | exact Below.size (B := W3.heap.size) (by assumption) | exact Nat.le_succ_of_le (Below.size (B := W3.heap.size) (by assumption))) _ | with_reducible refine Below.new ?_ (Nat.le_refl _) _ | with_reducible refine Below.drew ?_ | with_reducible exact Below.refl _ _)) | (simp; done) | (simp; omega) | omega))
          | (with_reducible refine two_new' (X := V') hO0 hO1 ?_ ?_ ?_ ?_ ?_; all_goals (first | with_reducible exact rb0 | with_reducible exact rb1 | with_reducible exact rb2 | with_reducible exact rb3 | (with_reducible refine Below.trans HB3.out (Below.mono (B := W3.heap.size) ?_ HB3.out.size); repeat (first | with_reducible assumption | with_reducible refine Below.setCell ?_ (by show W3.heap.size ≤ _; first | exact Nat.le_refl _ | exact Nat.le_succ _ | exact Below.size (B := W3.heap.size) (by assumption) | exact Nat.le_succ_of_le (Below.size (B := W3.heap.size) (by assumption))) _ | with_reducible refine Below.new ?_ (Nat.le_refl _) _ | with_reducible refine Below.drew ?_ | with_reducible exact Below.refl _ _)) | (simp; done) | (simp; omega) | omega))
  case rest =>
  as_aux_lemma =>
    obtain ⟨b0, b1, A, B, kx, ky, rfl, rfl, hX0, hY0, hB0⟩ := hcut
    clear HX3 HY3 HS3 HB3 HP0 HP1 HK x6 x7 x8 y6 y7 y8
    have BE0 := Lib.hid hB0
    clear hB0
    have HX0 := Lib.hid hX0
    obtain ⟨⟨xa0, xb0, xc0⟩, -⟩ := hX0
    have xA0 := fun o => (HX0.out.alloc o).1.1
    have xB0 := fun o => (HX0.out.alloc o).1.2.1
    have xC0 := fun o => (HX0.out.alloc o).1.2.2
    have HY0 := Lib.hid hY0
    obtain ⟨⟨ya0, yb0, yc0⟩, -⟩ := hY0
    have yA0 := fun o => (HY0.out.alloc o).1.1
    have yB0 := fun o => (HY0.out.alloc o).1.2.1
    have yC0 := fun o => (HY0.out.alloc o).1.2.2
    go_wp2_with fail
    refine (Lentn_c R0 C0 A l0 kx _ HLn0.out LT0.out HX0.out.2.2.2.1 HX0.out.2.2.1).mono ?_
    rintro e W1 ⟨pA, zp, pf, pc, rfl, hz, hlz, hown, hzf, hrf, hb⟩
    have hX1 := HX0.out.below hb
    have hY1 := HY0.out.below hb
    clear xa0 xb0 xc0 xA0 xB0 xC0 HX0
    have HX1 := Lib.hid hX1
    obtain ⟨⟨xa1, xb1, xc1⟩, -⟩ := hX1
    have xA1 := fun o => (HX1.out.alloc o).1.1
    have xB1 := fun o => (HX1.out.alloc o).1.2.1
    have xC1 := fun o => (HX1.out.alloc o).1.2.2
    clear ya0 yb0 yc0 yA0 yB0 yC0 HY0
    have HY1 := Lib.hid hY1
    obtain ⟨⟨ya1, yb1, yc1⟩, -⟩ := hY1
    have yA1 := fun o => (HY1.out.alloc o).1.1
    have yB1 := fun o => (HY1.out.alloc o).1.2.1
    have yC1 := fun o => (HY1.out.alloc o).1.2.2
    have BE1 := Lib.hid (BE0.out.trans (hb.mono BE0.out.size))
    clear BE0
    have HZP := Lib.hid hz
    have HTP := Lib.hid hlz
    have HFP := Lib.hid hzf
    have REp1 := Lib.hid hrf
    have PP := Lib.hid (fun o => ((Reads.of_own hown).below (below_new W1 o)).more (below_new W1 o).size)
    have OWN := Lib.hid hown
    clear hz hlz hzf hrf hown hb
    go_wp2_with fail
    refine (Lentn_c R1 C1 B l1 ky _ HLn1.out LT1.out HY1.out.2.2.2.1 ((HY1.out.alloc _).2.2.1)).mono ?_
    rintro e W2 ⟨qA, zq, qf, qc, rfl, hz, hlz, hown, hzf, hrf, hb⟩
    obtain ⟨-, hP2, hq⟩ := Has.new OWN.out hb
    clear OWN PP
    have hX2 := HX1.out.below hq
    have hY2 := HY1.out.below hq
    clear xa1 xb1 xc1 xA1 xB1 xC1 HX1
    have HX2 := Lib.hid hX2
    obtain ⟨⟨xa2, xb2, xc2⟩, -⟩ := hX2
    have xA2 := fun o => (HX2.out.alloc o).1.1
    have xB2 := fun o => (HX2.out.alloc o).1.2.1
    have xC2 := fun o => (HX2.out.alloc o).1.2.2
    clear ya1 yb1 yc1 yA1 yB1 yC1 HY1
    have HY2 := Lib.hid hY2
    obtain ⟨⟨ya2, yb2, yc2⟩, -⟩ := hY2
    have yA2 := fun o => (HY2.out.alloc o).1.1
    have yB2 := fun o => (HY2.out.alloc o).1.2.1
    have yC2 := fun o => (HY2.out.alloc o).1.2.2
    have BE2 := Lib.hid (BE1.out.trans (hq.mono BE1.out.size))
    clear BE1
    have REp2 := Lib.hid ((REp1.out.below hq).more (Below.size hq))
    clear REp1
    have HP2 := Lib.hid hP2
    obtain ⟨⟨pa2, pb2, pc2⟩, -⟩ := hP2
    have pA2 := fun o => (HP2.out.alloc o).1.1
    have pB2 := fun o => (HP2.out.alloc o).1.2.1
    have pC2 := fun o => (HP2.out.alloc o).1.2.2
    clear hq
    have HZQ := Lib.hid hz
    have HTQ := Lib.hid hlz
    have HFQ := Lib.hid hzf
    have REq2 := Lib.hid hrf
    have PQ := Lib.hid (fun o => ((Reads.of_own hown).below (below_new W2 o)).more (below_new W2 o).size)
    have OWN := Lib.hid hown
    clear hz hlz hzf hrf hown hb
    have hOQ := OWN.out
    obtain ⟨-, hqf, hqn⟩ := own_slice hOQ
    have HQ := Lib.hid (And.intro hqf hqn)
    clear hOQ hqf hqn
    go_wp2_with fail
    refine (Off_l HZP.out HZQ.out HV.out HE.out ⟨((HP2.out.alloc _).2.2.1), HP2.out.2.2.2.1, HP2.out.2.2.2.2, HTP.out⟩ ⟨(PQ.out _), HQ.out.2, HQ.out.1, HTQ.out⟩).mono ?_
    rintro e W3 ⟨rfl, hb⟩
    obtain ⟨-, hQ3, hq⟩ := Has.new OWN.out hb
    clear OWN PQ
    have hX3 := HX2.out.below hq
    have hY3 := HY2.out.below hq
    have hP3 := HP2.out.below hq
    clear xa2 xb2 xc2 xA2 xB2 xC2 HX2
    have HX3 := Lib.hid hX3
    obtain ⟨⟨xa3, xb3, xc3⟩, -⟩ := hX3
    have xA3 := fun o => (HX3.out.alloc o).1.1
    have xB3 := fun o => (HX3.out.alloc o).1.2.1
    have xC3 := fun o => (HX3.out.alloc o).1.2.2
    clear ya2 yb2 yc2 yA2 yB2 yC2 HY2
    have HY3 := Lib.hid hY3
    obtain ⟨⟨ya3, yb3, yc3⟩, -⟩ := hY3
    have yA3 := fun o => (HY3.out.alloc o).1.1
    have yB3 := fun o => (HY3.out.alloc o).1.2.1
    have yC3 := fun o => (HY3.out.alloc o).1.2.2
    clear pa2 pb2 pc2 pA2 pB2 pC2 HP2
    have HP3 := Lib.hid hP3
    obtain ⟨⟨pa3, pb3, pc3⟩, -⟩ := hP3
    have pA3 := fun o => (HP3.out.alloc o).1.1
    have pB3 := fun o => (HP3.out.alloc o).1.2.1
    have pC3 := fun o => (HP3.out.alloc o).1.2.2
    have BE3 := Lib.hid (BE2.out.trans (hq.mono BE2.out.size))
    clear BE2
    have REp3 := Lib.hid ((REp2.out.below hq).more (Below.size hq))
    clear REp2
    have REq3 := Lib.hid ((REq2.out.below hq).more (Below.size hq))
    clear REq2
    have HQ3 := Lib.hid hQ3
    obtain ⟨⟨qa3, qb3, qc3⟩, -⟩ := hQ3
    have qA3 := fun o => (HQ3.out.alloc o).1.1
    have qB3 := fun o => (HQ3.out.alloc o).1.2.1
    have qC3 := fun o => (HQ3.out.alloc o).1.2.2
    clear hq
    clear hb
    go_wp2_with fail
    refine ((HV.out ▸ HE.out ▸ rOff_c R0 C0 R1 C1 A B l0 l1 kx ky _ ⟨HX3.out.2.2.1, HX3.out.2.2.2.1, HX3.out.2.2.2.2, LT0.out⟩ ⟨HY3.out.2.2.1, HY3.out.2.2.2.1, HY3.out.2.2.2.2, LT1.out⟩ : Calls _ _ _ _ (RetFE v er _))).mono ?_
    rintro e W4 ⟨rfl, hb⟩
    have hX4 := HX3.out.below hb
    have hY4 := HY3.out.below hb
    have hP4 := HP3.out.below hb
    have hQ4 := HQ3.out.below hb
    clear xa3 xb3 xc3 xA3 xB3 xC3 HX3
    have HX4 := Lib.hid hX4
    obtain ⟨⟨xa4, xb4, xc4⟩, -⟩ := hX4
    have xA4 := fun o => (HX4.out.alloc o).1.1
    have xB4 := fun o => (HX4.out.alloc o).1.2.1
    have xC4 := fun o => (HX4.out.alloc o).1.2.2
    clear ya3 yb3 yc3 yA3 yB3 yC3 HY3
    have HY4 := Lib.hid hY4
    obtain ⟨⟨ya4, yb4, yc4⟩, -⟩ := hY4
    have yA4 := fun o => (HY4.out.alloc o).1.1
    have yB4 := fun o => (HY4.out.alloc o).1.2.1
    have yC4 := fun o => (HY4.out.alloc o).1.2.2
    clear pa3 pb3 pc3 pA3 pB3 pC3 HP3
    have HP4 := Lib.hid hP4
    obtain ⟨⟨pa4, pb4, pc4⟩, -⟩ := hP4
    have pA4 := fun o => (HP4.out.alloc o).1.1
    have pB4 := fun o => (HP4.out.alloc o).1.2.1
    have pC4 := fun o => (HP4.out.alloc o).1.2.2
    clear qa3 qb3 qc3 qA3 qB3 qC3 HQ3
    have HQ4 := Lib.hid hQ4
    obtain ⟨⟨qa4, qb4, qc4⟩, -⟩ := hQ4
    have qA4 := fun o => (HQ4.out.alloc o).1.1
    have qB4 := fun o => (HQ4.out.alloc o).1.2.1
    have qC4 := fun o => (HQ4.out.alloc o).1.2.2
    have BE4 := Lib.hid (BE3.out.trans (hb.mono BE3.out.size))
    clear BE3
    have REp4 := Lib.hid ((REp3.out.below hb).more (Below.size hb))
    clear REp3
    have REq4 := Lib.hid ((REq3.out.below hb).more (Below.size hb))
    clear REq3
    clear hb
    go_wp2_with fail
    refine (kSameReal_self v _).mono ?_
    rintro e w' ⟨rfl, rfl⟩
    go_wp2_with fail
    refine (Kept_t A pA l0 pf kx pc _ HLn0.out LT0.out HX4.out.2.2.2.1 HX4.out.2.2.1 HFP.out REp4.out).mono ?_
    rintro e W5 ⟨rfl, hb⟩
    have hX5 := HX4.out.below hb
    have hY5 := HY4.out.below hb
    have hP5 := HP4.out.below hb
    have hQ5 := HQ4.out.below hb
    clear xa4 xb4 xc4 xA4 xB4 xC4 HX4
    have HX5 := Lib.hid hX5
    obtain ⟨⟨xa5, xb5, xc5⟩, -⟩ := hX5
    have xA5 := fun o => (HX5.out.alloc o).1.1
    have xB5 := fun o => (HX5.out.alloc o).1.2.1
    have xC5 := fun o => (HX5.out.alloc o).1.2.2
    clear ya4 yb4 yc4 yA4 yB4 yC4 HY4
    have HY5 := Lib.hid hY5
    obtain ⟨⟨ya5, yb5, yc5⟩, -⟩ := hY5
    have yA5 := fun o => (HY5.out.alloc o).1.1
    have yB5 := fun o => (HY5.out.alloc o).1.2.1
    have yC5 := fun o => (HY5.out.alloc o).1.2.2
    clear pa4 pb4 pc4 pA4 pB4 pC4 HP4
    have HP5 := Lib.hid hP5
    obtain ⟨⟨pa5, pb5, pc5⟩, -⟩ := hP5
    have pA5 := fun o => (HP5.out.alloc o).1.1
    have pB5 := fun o => (HP5.out.alloc o).1.2.1
    have pC5 := fun o => (HP5.out.alloc o).1.2.2
    clear qa4 qb4 qc4 qA4 qB4 qC4 HQ4
    have HQ5 := Lib.hid hQ5
    obtain ⟨⟨qa5, qb5, qc5⟩, -⟩ := hQ5
    have qA5 := fun o => (HQ5.out.alloc o).1.1
    have qB5 := fun o => (HQ5.out.alloc o).1.2.1
    have qC5 := fun o => (HQ5.out.alloc o).1.2.2
    have BE5 := Lib.hid (BE4.out.trans (hb.mono BE4.out.size))
    clear BE4
    have REp5 := Lib.hid ((REp4.out.below hb).more (Below.size hb))
    clear REp4
    have REq5 := Lib.hid ((REq4.out.below hb).more (Below.size hb))
    clear REq4
    clear hb
    go_wp2_with fail
    refine (Kept_t B qA l1 qf ky qc _ HLn1.out LT1.out HY5.out.2.2.2.1 HY5.out.2.2.1 HFQ.out REq5.out).mono ?_
    rintro e W6 ⟨rfl, hb⟩
    have hX6 := HX5.out.below hb
    have hY6 := HY5.out.below hb
    have hP6 := HP5.out.below hb
    have hQ6 := HQ5.out.below hb
    clear xa5 xb5 xc5 xA5 xB5 xC5 HX5
    have HX6 := Lib.hid hX6
    obtain ⟨⟨xa6, xb6, xc6⟩, -⟩ := hX6
    have xA6 := fun o => (HX6.out.alloc o).1.1
    have xB6 := fun o => (HX6.out.alloc o).1.2.1
    have xC6 := fun o => (HX6.out.alloc o).1.2.2
    clear ya5 yb5 yc5 yA5 yB5 yC5 HY5
    have HY6 := Lib.hid hY6
    obtain ⟨⟨ya6, yb6, yc6⟩, -⟩ := hY6
    have yA6 := fun o => (HY6.out.alloc o).1.1
    have yB6 := fun o => (HY6.out.alloc o).1.2.1
    have yC6 := fun o => (HY6.out.alloc o).1.2.2
    clear pa5 pb5 pc5 pA5 pB5 pC5 HP5
    have HP6 := Lib.hid hP6
    obtain ⟨⟨pa6, pb6, pc6⟩, -⟩ := hP6
    have pA6 := fun o => (HP6.out.alloc o).1.1
    have pB6 := fun o => (HP6.out.alloc o).1.2.1
    have pC6 := fun o => (HP6.out.alloc o).1.2.2
    clear qa5 qb5 qc5 qA5 qB5 qC5 HQ5
    have HQ6 := Lib.hid hQ6
    obtain ⟨⟨qa6, qb6, qc6⟩, -⟩ := hQ6
    have qA6 := fun o => (HQ6.out.alloc o).1.1
    have qB6 := fun o => (HQ6.out.alloc o).1.2.1
    have qC6 := fun o => (HQ6.out.alloc o).1.2.2
    have BE6 := Lib.hid (BE5.out.trans (hb.mono BE5.out.size))
    clear BE5
    have REp6 := Lib.hid ((REp5.out.below hb).more (Below.size hb))
    clear REp5
    have REq6 := Lib.hid ((REq5.out.below hb).more (Below.size hb))
    clear REq5
    clear hb
    go_wp2
    go_ret
    exact ⟨rfl, BE6.out⟩
end Go.Proofs.Ytajdfbjjgjpicaa
namespace Go.Proofs.Ytajdfbjjgjpicaa
open Go.RowKit Go.WideElems Go.Maps Go.Deep Fl Ieee
set_option maxRecDepth 20000
theorem InverseOff_walk (R0 C0 : Int) (A0 : Option Addr) (l0 : List C) (k0 : Nat) (_ : l0.length ≤ k0) (_ : k0 ≤ maxLen) (_ : A0 = none → k0 = 0) {w0 : World} (hr0 : Reads w0 w0.heap.size A0 (zcells l0)) (lt0 : ltCs l0) (hu0 : l0.length ≤ 1000000)
    (R1 C1 : Int) (A1 : Option Addr) (l1 : List C) (k1 : Nat) (_ : l1.length ≤ k1) (_ : k1 ≤ maxLen) (_ : A1 = none → k1 = 0) (hr1 : Reads w0 w0.heap.size A1 (zcells l1)) (lt1 : ltCs l1) (hu1 : l1.length ≤ 1000000) (w : World) (hw : w0 = w := by rfl) :
    Calls Try.prog 3 #[mval R0 C0 (.slice A0 l0.length k0), mval R1 C1 (.slice A1 l1.length k1)] w fun e w' => e = .returned (.bool true) ∧ Below w.heap.size w w' := by
  subst hw
  exact Ioff_try R0 C0 R1 C1 A0 A1 l0 l1 k0 k1 _ hu0 hu1 hr0 hr1 lt0 lt1
/-! ### The row's step -/
namespace inverseOff_frame
open Go.ChangeShapes Go.WideShapes Go.ChangeAt Go.RowKit
theorem own : ownKnob Try.prog.godebug = none := by kernel_rfl
theorem one_le {H : Type} (d : DataW H) : 1 ≤ Rows.uptoBulk d := by
  cases d with
  | lit l => cases l <;> simp [Rows.uptoBulk]
  | nil => simp [Rows.uptoBulk]
  | ptr d => simp [Rows.uptoBulk]
  | slice elems spare => simp [Rows.uptoBulk]
  | agg parts => simp [Rows.uptoBulk]
  | iface t d => simp [Rows.uptoBulk]
  | map entries => simp [Rows.uptoBulk]
  | held h => simp [Rows.uptoBulk]
theorem bulk_part {H : Type} {d : DataW H} {l : List (DataW H)} (h : d ∈ l) (hk : Rows.uptoBulkAll l ≤ 1048576) : Rows.uptoBulk d ≤ 1048576 := by
  induction l with
  | nil => cases h
  | cons x r ih =>
    simp only [Rows.uptoBulkAll] at hk
    rcases List.mem_cons.1 h with e | e
    · subst e; omega
    · exact ih e (by omega)
theorem bulk_pairs {H : Type} (D0 D1 : Nat → DataW H) (L : List Nat) : L.length * 3 ≤ Rows.uptoBulkAll (L.map fun i => .agg [D0 i, D1 i]) := by
  induction L with
  | nil => simp
  | cons x r ih =>
    simp only [List.map_cons, List.length_cons, Rows.uptoBulkAll, Rows.uptoBulk]
    have h0 := one_le (D0 x)
    have h1 := one_le (D1 x)
    omega
theorem bulk_mat {H : Type} {n : Nat} {z : DataW H} (a b : DataW H) (hz : ZsDatum n z) : n * 3 ≤ Rows.uptoBulk (DataW.agg [a, b, z]) := by
  rcases hz with rfl | ⟨D0, D1, sp, rfl⟩
  · simp
  · have h := bulk_pairs D0 D1 (List.range n)
    rw [List.length_range] at h
    simp only [Rows.uptoBulk, Rows.uptoBulkAll]
    omega
theorem contract (H : Type) (enc : TypeId × Value → H) (W : World) (base : Nat) (args : Array Value) (ds gs : List (DataW H)) (before : List MemPlace)
    (hval0 : ∀ (j : Nat) t v, Try.f3.params[j]? = some t → args[j]? = some v → Value.okWide Try.prog W .any base t v)
    (hW : DataW.Whole enc Try.prog Try.f3.params.toList Rows.inverseOffSpec.vars false W args.toList ds gs before) (hk : Rows.uptoSmall H (ds ++ gs) = true) :
    Calls Try.prog 3 args W fun e W' => ∃ v, e = .returned v ∧ Rows.inverseOffSpec.post enc Try.prog Try.f3 false true false false W args v W' := by
  have hbk0 : Rows.uptoBulkAll (ds ++ gs) ≤ 1048576 := of_decide_eq_true hk
  clear hk
  have hval : ∀ (j : Nat) t v, Try.f3.params[j]? = some t → args[j]? = some v → Value.okWide Try.prog W .any base t v := hval0
  have hW' := hW
  obtain ⟨p, q, hA0, hV, rfl, hfz, hnd⟩ := hW
  have hA : DataW.TrodAll enc Try.prog W 0 (fun _ => true) true Try.f3.params.toList args.toList ds p := hA0
  rw [Try.params3] at hA hval
  obtain ⟨v0, vs0, d0, ds0, p0, q0, hargs, rfl, rfl, h0, r0⟩ := trodAll_cons hA
  obtain ⟨v1, vs1, d1, ds1, p1, q1, rfl, rfl, rfl, h1, r1⟩ := trodAll_cons r0
  obtain ⟨rfl, rfl, rfl⟩ := trodAll_nil r1
  obtain rfl : args = #[v0, v1] := by cases args; simp_all
  obtain ⟨rfl, rfl⟩ := trodVars_none hV
  have hbk := hbk0
  rw [List.append_nil] at hbk
  obtain ⟨R0, C0, A0, l0, k0, rfl, wr0, wc0, hk0, hm0, hn0, hrd0, hlt0, xa0, xb0, xz0, rfl, hz0⟩ := open_matU Try.underlying24 rfl rfl rfl (by kernel_rfl) (by kernel_rfl) (hval 0 24 v0 rfl rfl) h0
  have hu0 : l0.length ≤ 1000000 := by
    have h0 := bulk_part (d := .agg [xa0, xb0, xz0]) (by simp) hbk
    have h1 := bulk_mat xa0 xb0 hz0
    omega
  obtain ⟨R1, C1, A1, l1, k1, rfl, wr1, wc1, hk1, hm1, hn1, hrd1, hlt1, xa1, xb1, xz1, rfl, hz1⟩ := open_matU Try.underlying24 rfl rfl rfl (by kernel_rfl) (by kernel_rfl) (hval 1 24 v1 rfl rfl) h1
  have hu1 : l1.length ≤ 1000000 := by
    have h0 := bulk_part (d := .agg [xa1, xb1, xz1]) (by simp) hbk
    have h1 := bulk_mat xa1 xb1 hz1
    omega
  clear hval0
  refine (InverseOff_walk R0 C0 A0 l0 k0 hk0 hm0 hn0 hrd0 hlt0 hu0 R1 C1 A1 l1 k1 hk1 hm1 hn1 hrd1 hlt1 hu1 W).mono fun e W' ⟨he, hg⟩ => ?_
  subst he
  have hT : ∀ t ∈ Try.f3.params.toList, t < Try.prog.types.size := fun t ht => of_decide_eq_true (List.all_eq_true.1 (show (Try.f3.params.toList.all fun t => decide (t < Try.prog.types.size)) = true by kernel_rfl) t ht)
  exact ⟨_, rfl, post_of_below (pv := []) hW' (fun _ _ _ => (trodAll_cons_mk (shut_bool Try.underlying4 _) trodAll_mk0)) (fun sp hsp => trodAll_move kidsP slicesP hT hA0 hg (fun p hp => hsp p (List.mem_append_left _ hp))) (fun _ _ => rfl) rfl
    hg (ok_one (by kernel_rfl) rfl (okWide_bool_mk Try.underlying4 _))⟩
set_option maxRecDepth 100000 in
theorem lifted (os : Os) (started : os.Started) (H : Type) (enc : TypeId × Value → H) (F : Stop.Interp) :
    ReturnsInHanded {} Try.checked os 3 .any ((Rows.OpenSpec.upto Rows.inverseOffSpec).pre6 enc Try.prog Try.f3 Rows.inverseOffUptoRow.domain false) (((Rows.OpenSpec.upto Rows.inverseOffSpec).at F).post enc Try.prog Try.f3 false true false false) := by
  refine returnsInHanded_of_cond (C := Try.checked) (s := Rows.OpenSpec.upto Rows.inverseOffSpec) (k := Rows.uptoSmall) rfl own started (by kernel_rfl) Try.func3
    (OpenSpec.witness (enc := enc) (C := Try.checked) (s := Rows.OpenSpec.upto Rows.inverseOffSpec) (k := Rows.uptoSmall) rfl false ⟨#[], #[.agg #[.int .i64 0, .int .i64 0, .slice none 0 0], .agg #[.int .i64 0, .int .i64 0, .slice none 0 0]], []⟩ 8 (by kernel_rfl) (by kernel_rfl) (by kernel_rfl)
      (x := ([.agg [.lit (.int .i64 0), .lit (.int .i64 0), .nil], .agg [.lit (.int .i64 0), .lit (.int .i64 0), .nil]], [], [])) (by kernel_rfl) rfl (by kernel_rfl)) ?_
  intro W base args ds gs before hval hW _ hk _
  exact contract H enc W base args ds gs before hval hW hk
theorem over : Rows.InverseOffUptoSaid :=
  OpenClaim.holds_of_cond 3 Try.f3 rfl rfl rfl rfl rfl rfl rfl ⟨rfl, rfl, rfl, rfl, rfl⟩ rfl rfl rfl rfl rfl (by kernel_rfl) Try.func3 (by kernel_rfl)
    (of_decide_eq_true (by kernel_rfl)) (by unfold Func.isWrapper; first | (rw [if_pos (by decide +kernel)]; kernel_rfl) | (rw [if_neg (by decide +kernel)]; exact ⟨rfl, rfl⟩))
    (fun os started H enc _ F => lifted os started H enc F)
end inverseOff_frame

/-- THE STATEMENT. -/
theorem inverseOff_holds : Rows.InverseOffUptoSaid := inverseOff_frame.over
#print axioms inverseOff_holds
end Go.Proofs.Ytajdfbjjgjpicaa
