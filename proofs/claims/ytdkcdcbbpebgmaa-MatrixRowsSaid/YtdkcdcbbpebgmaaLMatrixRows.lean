/- Layer 7: of every matrix a row, a column, its norm, what it does to a list; the identity (gridworklaw07.MatrixRows). -/
import Derived.Test.YtdkcdcbbpebgmaaApL
import Derived.Test.YtdkcdcbbpebgmaaArg
import Derived.Test.YtdkcdcbbpebgmaaFr
namespace Go.Proofs.Ytdkcdcbbpebgmaa
open Go.RowKit Fl Ieee
set_option maxRecDepth 20000
attribute [local go_sem] run_store_float run_store_complex Fl.order_self Fl.order_self' Fl.order_eq Fl.order_ne Fl.order_lt Fl.order_gt
set_option maxHeartbeats 16000000 in
theorem Rows_small (R0 C0 : Int) (A0 A1 : Option Addr) (l0 l1 : List C) (k0 k1 : Nat) (i n : Int) (w : World) (hl0 : l0.length ≤ 4098) (hl1 : l1.length ≤ 100) (hr0 : Reads w w.heap.size A0 (zcells l0)) (hr1 : Reads w w.heap.size A1 (zcells l1)) (lt0 : ltCs l0) (lt1 : ltCs l1) :
    Calls Try.prog 3 #[mval R0 C0 (.slice A0 l0.length k0), .slice A1 l1.length k1, .int .i64 i, .int .i64 n] w (RetBB true w) := by
  have hd : decide ((l0.length : Int) > 4098) = false := by simp; omega
  have HL := Lib.hid (large_c R0 C0 A0 l0.length k0)
  rw [hd] at HL
  have hx : (l1.length : Int) ≤ 100 := by omega
  have HR0 := Lib.hid hr0
  have HRx := Lib.hid hr1
  have HLn0 := Lib.hid (Nat.le_trans hl0 (by omega : 4098 ≤ 1000000))
  have HLn1 := Lib.hid (Nat.le_trans hl1 (by omega : 100 ≤ 1000000))
  have HX100 := Lib.hid hl1
  have HLn4 := Lib.hid hl0
  have LT0 := Lib.hid lt0
  have LT1 := Lib.hid lt1
  obtain ⟨e1, he1⟩ : ∃ e, rowE R0 C0 l0.length i = e := ⟨_, rfl⟩
  obtain ⟨e2, he2⟩ : ∃ e, colE R0 C0 l0.length i = e := ⟨_, rfl⟩
  obtain ⟨e3, he3⟩ : ∃ e, apE R0 C0 l0.length l1.length = e := ⟨_, rfl⟩
  obtain ⟨e4, he4⟩ : ∃ e, nrmE R0 C0 l0.length = e := ⟨_, rfl⟩
  obtain ⟨v4, hv4⟩ : ∃ e, nrmV R0 C0 l0 = e := ⟨_, rfl⟩
  obtain ⟨e5, he5⟩ : ∃ e, idR n = e := ⟨_, rfl⟩
  obtain ⟨N5, hN5⟩ : ∃ e, idN n = e := ⟨_, rfl⟩
  have E1 := Lib.hid he1
  have E2 := Lib.hid he2
  have E3 := Lib.hid he3
  have E4 := Lib.hid he4
  have V4 := Lib.hid hv4
  have E5 := Lib.hid he5
  have V5 := Lib.hid hN5
  clear hd hl0 hl1 hr0 hr1 lt0 lt1 he1 he2 he3 he4 hv4 he5 hN5
  go_enter Try.func3, Try.ntmps3
  go_wp2_with fail
  refine (HL.out _).mono ?_
  rintro e W1 ⟨rfl, hb⟩
  obtain ⟨⟨x0, x1, x2⟩, hb1, hs1⟩ := frame0 hb
  have BE1 := Lib.hid hb1
  clear hb hb1 hs1 HL
  go_wp2_with fail
  refine (plain_c R0 C0 A0 l0 k0 W1 HLn0.out ((HR0.out.below BE1.out).more BE1.out.size)).mono ?_
  rintro e W2 ⟨s, rfl, hown, hb⟩
  have BE2 := Lib.hid (BE1.out.trans (hb.mono BE1.out.size))
  obtain ⟨mA, mn, mc, rfl, -⟩ := slice_of_own hown
  obtain ⟨en, -, -⟩ := own_slice hown
  subst en
  have PM := Lib.hid (fun o => ((Reads.of_own hown).below (below_new W2 o)).more (below_new W2 o).size)
  have OWN := Lib.hid hown
  have BS2 := Lib.hid BE2.out.size
  clear hown hb x0 x1 x2 BE1
  go_wp2_with fail
  refine (n1_of (Numbers_c A1 l1 k1 _ HLn1.out ((HRx.out.below (BE2.out.trans ((below_new W2 _).mono BE2.out.size))).more (Nat.le_trans BE2.out.size (below_new W2 _).size)))).mono ?_
  rintro e W3 ⟨vA, vc, rfl, hL, hb⟩
  obtain ⟨-, hM3, hq⟩ := Has.new OWN.out hb
  clear OWN PM
  have BE3 := Lib.hid (BE2.out.trans (hq.mono BE2.out.size))
  clear BE2
  have SZ3 := Lib.hid (Below.size hq)
  have BS3 := Lib.hid BE3.out.size
  have HM3 := Lib.hid hM3
  obtain ⟨⟨ma3, mb3, mc3⟩, -⟩ := hM3
  have mA3 := fun o => (HM3.out.alloc o).1.1
  have mB3 := fun o => (HM3.out.alloc o).1.2.1
  have mC3 := fun o => (HM3.out.alloc o).1.2.2
  clear hq
  have Lv3 := Lib.hid (Lst.weak hL (below_new W2 _).size)
  clear hL hb
  go_wp2_with fail
  refine (Lentq_c R0 C0 mA l0 mc _ HLn0.out ⟨HM3.out.2.2.1, HM3.out.2.2.2.1, HM3.out.2.2.2.2, LT0.out⟩).mono ?_
  rintro e W4 ⟨gP, zp, zf, pc, rfl, hz, hlz, hown, hzf, hLf, hb⟩
  have hM4 := HM3.out.below hb
  clear ma3 mb3 mc3 mA3 mB3 mC3 HM3
  have HM4 := Lib.hid hM4
  obtain ⟨⟨ma4, mb4, mc4⟩, -⟩ := hM4
  have mA4 := fun o => (HM4.out.alloc o).1.1
  have mB4 := fun o => (HM4.out.alloc o).1.2.1
  have mC4 := fun o => (HM4.out.alloc o).1.2.2
  have BE4 := Lib.hid (BE3.out.trans (hb.mono BE3.out.size))
  clear BE3
  have Lv4 := Lib.hid (Lv3.out.below hb)
  clear Lv3
  have SZ4 := Lib.hid (Below.size hb)
  have BS4 := Lib.hid BE4.out.size
  have HZP := Lib.hid hz
  have HTP := Lib.hid hlz
  have HZF := Lib.hid hzf
  have PP := Lib.hid (fun o => ((Reads.of_own hown).below (below_new W4 o)).more (below_new W4 o).size)
  have OWN := Lib.hid hown
  have Lf4 := Lib.hid (Lst.weak hLf (Nat.le_refl _))
  clear hz hlz hown hzf hLf hb
  go_wp2_with fail
  refine (lg_of (Lent_c vA l1 vc _ HLn1.out LT1.out Lv4.out.none ((Lv4.out.reads.below (below_new _ _)).more (below_new _ _).size))).mono ?_
  rintro e W5 ⟨gN, zn, nc, rfl, hz, hlz, hL, hb⟩
  obtain ⟨-, hP5, hq⟩ := Has.new OWN.out hb
  clear OWN PP
  have hM5 := HM4.out.below hq
  clear ma4 mb4 mc4 mA4 mB4 mC4 HM4
  have HM5 := Lib.hid hM5
  obtain ⟨⟨ma5, mb5, mc5⟩, -⟩ := hM5
  have mA5 := fun o => (HM5.out.alloc o).1.1
  have mB5 := fun o => (HM5.out.alloc o).1.2.1
  have mC5 := fun o => (HM5.out.alloc o).1.2.2
  have BE5 := Lib.hid (BE4.out.trans (hq.mono BE4.out.size))
  clear BE4
  have Lv5 := Lib.hid (Lv4.out.below hq)
  clear Lv4
  have Lf5 := Lib.hid (Lf4.out.below hq)
  clear Lf4
  have SZ5 := Lib.hid (Below.size hq)
  have BS5 := Lib.hid BE5.out.size
  have HP5 := Lib.hid hP5
  obtain ⟨⟨pa5, pb5, pc5⟩, -⟩ := hP5
  have pA5 := fun o => (HP5.out.alloc o).1.1
  have pB5 := fun o => (HP5.out.alloc o).1.2.1
  have pC5 := fun o => (HP5.out.alloc o).1.2.2
  clear hq
  have HZN := Lib.hid hz
  have HTN := Lib.hid hlz
  have Ln5 := Lib.hid (Lst.weak hL (below_new W4 _).size)
  clear hz hlz hL hb
  go_wp2_with fail
  refine ((E1.out ▸ Row_l HZP.out ⟨HP5.out.2.2.1, HP5.out.2.2.2.1, HP5.out.2.2.2.2, HTP.out⟩ : Calls _ _ _ _ (RetLO (rowL R0 C0 l0 i) e1 _))).mono ?_
  rintro e W6 ⟨rA, zr, rc, rfl, hz, hl, hL, hb⟩
  have hM6 := HM5.out.below hb
  have hP6 := HP5.out.below hb
  clear ma5 mb5 mc5 mA5 mB5 mC5 HM5
  have HM6 := Lib.hid hM6
  obtain ⟨⟨ma6, mb6, mc6⟩, -⟩ := hM6
  have mA6 := fun o => (HM6.out.alloc o).1.1
  have mB6 := fun o => (HM6.out.alloc o).1.2.1
  have mC6 := fun o => (HM6.out.alloc o).1.2.2
  clear pa5 pb5 pc5 pA5 pB5 pC5 HP5
  have HP6 := Lib.hid hP6
  obtain ⟨⟨pa6, pb6, pc6⟩, -⟩ := hP6
  have pA6 := fun o => (HP6.out.alloc o).1.1
  have pB6 := fun o => (HP6.out.alloc o).1.2.1
  have pC6 := fun o => (HP6.out.alloc o).1.2.2
  have BE6 := Lib.hid (BE5.out.trans (hb.mono BE5.out.size))
  clear BE5
  have Lv6 := Lib.hid (Lv5.out.below hb)
  clear Lv5
  have Lf6 := Lib.hid (Lf5.out.below hb)
  clear Lf5
  have Ln6 := Lib.hid (Ln5.out.below hb)
  clear Ln5
  have SZ6 := Lib.hid (Below.size hb)
  have BS6 := Lib.hid BE6.out.size
  have HZR := Lib.hid hz
  have HTR := Lib.hid hl
  have Lr6 := Lib.hid (Lst.weak hL (Nat.le_refl _))
  clear hz hl hL hb
  go_wp2_with fail
  refine ((E2.out ▸ Col_l HZP.out ⟨HP6.out.2.2.1, HP6.out.2.2.2.1, HP6.out.2.2.2.2, HTP.out⟩ : Calls _ _ _ _ (RetLO (colL R0 C0 l0 i) e2 _))).mono ?_
  rintro e W7 ⟨uA, zu, uc, rfl, hz, hl, hL, hb⟩
  have hM7 := HM6.out.below hb
  have hP7 := HP6.out.below hb
  clear ma6 mb6 mc6 mA6 mB6 mC6 HM6
  have HM7 := Lib.hid hM7
  obtain ⟨⟨ma7, mb7, mc7⟩, -⟩ := hM7
  have mA7 := fun o => (HM7.out.alloc o).1.1
  have mB7 := fun o => (HM7.out.alloc o).1.2.1
  have mC7 := fun o => (HM7.out.alloc o).1.2.2
  clear pa6 pb6 pc6 pA6 pB6 pC6 HP6
  have HP7 := Lib.hid hP7
  obtain ⟨⟨pa7, pb7, pc7⟩, -⟩ := hP7
  have pA7 := fun o => (HP7.out.alloc o).1.1
  have pB7 := fun o => (HP7.out.alloc o).1.2.1
  have pC7 := fun o => (HP7.out.alloc o).1.2.2
  have BE7 := Lib.hid (BE6.out.trans (hb.mono BE6.out.size))
  clear BE6
  have Lv7 := Lib.hid (Lv6.out.below hb)
  clear Lv6
  have Lf7 := Lib.hid (Lf6.out.below hb)
  clear Lf6
  have Ln7 := Lib.hid (Ln6.out.below hb)
  clear Ln6
  have Lr7 := Lib.hid (Lr6.out.below hb)
  clear Lr6
  have SZ7 := Lib.hid (Below.size hb)
  have BS7 := Lib.hid BE7.out.size
  have HZU := Lib.hid hz
  have HTU := Lib.hid hl
  have Lu7 := Lib.hid (Lst.weak hL (Nat.le_refl _))
  clear hz hl hL hb
  have hnl := lent_len HZN.out
  have hcN := Ln7.out.fits
  have hap : ∀ V, Below W7.heap.size W7 V → Calls Try.prog 15 #[mval R0 C0 (.slice (some ⟨gP, 0, none⟩) zp.length pc), .slice (some ⟨gN, 0, none⟩) l1.length nc] V (RetLO (apL R0 C0 l0 l1) e3 V) := fun V hV => by
    have hLn := Ln7.out.below hV
    have hPn := HP7.out.below hV
    have hrx : Reads V V.heap.size (some ⟨gN, 0, none⟩) (nums (zn.take l1.length)) := Reads.of_own (own_take hLn.1 (by omega))
    exact (E3.out ▸ Apply_l HZP.out (lent_take HZN.out) ⟨hPn.2.2.1, hPn.2.2.2.1, hPn.2.2.2.2, HTP.out⟩ hrx : Calls _ _ _ _ (RetLO (apL R0 C0 l0 l1) e3 V))
  have HAP := Lib.hid hap
  have hsl : (l1.length : Int) ≤ (nc : Int) := by omega
  have hkp : ∀ V, Below W7.heap.size W7 V → V.cell? ⟨W4.heap.size, 0, none⟩ = some (.int .i64 R0) ∧ V.cell? ⟨W4.heap.size, 1, none⟩ = some (.int .i64 C0) ∧ V.cell? ⟨W4.heap.size, 2, none⟩ = some (.slice (some ⟨gP, 0, none⟩) zp.length pc) := fun V hV =>
    (HP7.out.below hV).1
  have HKP := Lib.hid hkp
  clear hnl hcN hap hkp
  go_wp2_with fail
  go_cut [18, 19] (fun s18 s19 wx => ∃ (A : Option Addr) (zs : List C) (c : Nat), s18 = .slice A zs.length c ∧ s19 = .int .i64 e3 ∧ zs.map cnC = apL R0 C0 l0 l1 ∧ ltCs zs ∧ Lst wx W7.heap.size wx.heap.size A zs c ∧ Below W7.heap.size W7 wx)
  case first =>
    go_region_held3 (fun V => V.cell? ⟨W4.heap.size, 0, none⟩ = some (.int .i64 R0) ∧ V.cell? ⟨W4.heap.size, 1, none⟩ = some (.int .i64 C0) ∧ V.cell? ⟨W4.heap.size, 2, none⟩ = some (.slice (some ⟨gP, 0, none⟩) zp.length pc))
      (with_reducible refine HKP.out _ ?_; (repeat (first | with_reducible assumption | with_reducible refine Below.drew ?_ | with_reducible exact Below.refl _ _)))
      (first
      | (go_at_call 15; (with_reducible refine (HAP.out _ ?_).mono ?_); (repeat (first | with_reducible assumption | with_reducible refine Below.drew ?_ | with_reducible exact Below.refl _ _)); (rintro e V ⟨tA, zt, tc, rfl, hz, hl, hL, hb⟩); (have hV : Below W7.heap.size W7 V := Below.trans (by repeat (first | with_reducible assumption | with_reducible refine Below.drew ?_ | with_reducible exact Below.refl _ _)) (Below.mono hb (by first | exact Nat.le_refl _)))))
    all_goals
      go_wp2_with fail
      go_meet
      exact ⟨tA, zt, tc, rfl, rfl, hz, hl, Lst.weak hL (by first | exact Nat.le_refl _), hV⟩
  case rest =>
    as_aux_lemma =>
      obtain ⟨yA, zy, yc, rfl, rfl, hz, hl, hL, hb⟩ := hcut
      rename World => W8
      clear HAP HKP hsl
      have hM8 := HM7.out.below hb
      have hP8 := HP7.out.below hb
      clear ma7 mb7 mc7 mA7 mB7 mC7 HM7
      have HM8 := Lib.hid hM8
      obtain ⟨⟨ma8, mb8, mc8⟩, -⟩ := hM8
      have mA8 := fun o => (HM8.out.alloc o).1.1
      have mB8 := fun o => (HM8.out.alloc o).1.2.1
      have mC8 := fun o => (HM8.out.alloc o).1.2.2
      clear pa7 pb7 pc7 pA7 pB7 pC7 HP7
      have HP8 := Lib.hid hP8
      obtain ⟨⟨pa8, pb8, pc8⟩, -⟩ := hP8
      have pA8 := fun o => (HP8.out.alloc o).1.1
      have pB8 := fun o => (HP8.out.alloc o).1.2.1
      have pC8 := fun o => (HP8.out.alloc o).1.2.2
      have BE8 := Lib.hid (BE7.out.trans (hb.mono BE7.out.size))
      clear BE7
      have Lv8 := Lib.hid (Lv7.out.below hb)
      clear Lv7
      have Lf8 := Lib.hid (Lf7.out.below hb)
      clear Lf7
      have Ln8 := Lib.hid (Ln7.out.below hb)
      clear Ln7
      have Lr8 := Lib.hid (Lr7.out.below hb)
      clear Lr7
      have Lu8 := Lib.hid (Lu7.out.below hb)
      clear Lu7
      have SZ8 := Lib.hid (Below.size hb)
      have BS8 := Lib.hid BE8.out.size
      have HZY := Lib.hid hz
      have HTY := Lib.hid hl
      have Ly8 := Lib.hid (Lst.weak hL (Nat.le_refl _))
      clear hz hl hL hb
      have hnl := lent_len HZN.out
      have hcN := Ln8.out.fits
      have hap : ∀ V, Below W8.heap.size W8 V → Calls Try.prog 15 #[mval R0 C0 (.slice (some ⟨gP, 0, none⟩) zp.length pc), .slice (some ⟨gN, 0, none⟩) l1.length nc] V (RetLO (apL R0 C0 l0 l1) e3 V) := fun V hV => by
        have hLn := Ln8.out.below hV
        have hPn := HP8.out.below hV
        have hrx : Reads V V.heap.size (some ⟨gN, 0, none⟩) (nums (zn.take l1.length)) := Reads.of_own (own_take hLn.1 (by omega))
        exact (E3.out ▸ Apply_l HZP.out (lent_take HZN.out) ⟨hPn.2.2.1, hPn.2.2.2.1, hPn.2.2.2.2, HTP.out⟩ hrx : Calls _ _ _ _ (RetLO (apL R0 C0 l0 l1) e3 V))
      have HAP := Lib.hid hap
      have hsl : (l1.length : Int) ≤ (nc : Int) := by omega
      have hkp : ∀ V, Below W8.heap.size W8 V → V.cell? ⟨W4.heap.size, 0, none⟩ = some (.int .i64 R0) ∧ V.cell? ⟨W4.heap.size, 1, none⟩ = some (.int .i64 C0) ∧ V.cell? ⟨W4.heap.size, 2, none⟩ = some (.slice (some ⟨gP, 0, none⟩) zp.length pc) := fun V hV =>
        (HP8.out.below hV).1
      have HKP := Lib.hid hkp
      clear hnl hcN hap hkp
      go_wp2_with fail
      go_cut [20, 21] (fun s20 s21 wx => ∃ (A : Option Addr) (zs : List C) (c : Nat), s20 = .slice A zs.length c ∧ s21 = .int .i64 e3 ∧ zs.map cnC = apL R0 C0 l0 l1 ∧ ltCs zs ∧ Lst wx W8.heap.size wx.heap.size A zs c ∧ Below W8.heap.size W8 wx)
      case first =>
        go_region_held3 (fun V => V.cell? ⟨W4.heap.size, 0, none⟩ = some (.int .i64 R0) ∧ V.cell? ⟨W4.heap.size, 1, none⟩ = some (.int .i64 C0) ∧ V.cell? ⟨W4.heap.size, 2, none⟩ = some (.slice (some ⟨gP, 0, none⟩) zp.length pc))
          (with_reducible refine HKP.out _ ?_; (repeat (first | with_reducible assumption | with_reducible refine Below.drew ?_ | with_reducible exact Below.refl _ _)))
          (first
          | (go_at_call 15; (with_reducible refine (HAP.out _ ?_).mono ?_); (repeat (first | with_reducible assumption | with_reducible refine Below.drew ?_ | with_reducible exact Below.refl _ _)); (rintro e V ⟨tA, zt, tc, rfl, hz, hl, hL, hb⟩); (have hV : Below W8.heap.size W8 V := Below.trans (by repeat (first | with_reducible assumption | with_reducible refine Below.drew ?_ | with_reducible exact Below.refl _ _)) (Below.mono hb (by first | exact Nat.le_refl _)))))
        all_goals
          go_wp2_with fail
          go_meet
          exact ⟨tA, zt, tc, rfl, rfl, hz, hl, Lst.weak hL (by first | exact Nat.le_refl _), hV⟩
      case rest =>
        as_aux_lemma =>
          obtain ⟨zA, zz, zc, rfl, rfl, hz, hl, hL, hb⟩ := hcut
          rename World => W9
          clear HAP HKP hsl
          have hM9 := HM8.out.below hb
          have hP9 := HP8.out.below hb
          clear ma8 mb8 mc8 mA8 mB8 mC8 HM8
          have HM9 := Lib.hid hM9
          obtain ⟨⟨ma9, mb9, mc9⟩, -⟩ := hM9
          have mA9 := fun o => (HM9.out.alloc o).1.1
          have mB9 := fun o => (HM9.out.alloc o).1.2.1
          have mC9 := fun o => (HM9.out.alloc o).1.2.2
          clear pa8 pb8 pc8 pA8 pB8 pC8 HP8
          have HP9 := Lib.hid hP9
          obtain ⟨⟨pa9, pb9, pc9⟩, -⟩ := hP9
          have pA9 := fun o => (HP9.out.alloc o).1.1
          have pB9 := fun o => (HP9.out.alloc o).1.2.1
          have pC9 := fun o => (HP9.out.alloc o).1.2.2
          have BE9 := Lib.hid (BE8.out.trans (hb.mono BE8.out.size))
          clear BE8
          have Lv9 := Lib.hid (Lv8.out.below hb)
          clear Lv8
          have Lf9 := Lib.hid (Lf8.out.below hb)
          clear Lf8
          have Ln9 := Lib.hid (Ln8.out.below hb)
          clear Ln8
          have Lr9 := Lib.hid (Lr8.out.below hb)
          clear Lr8
          have Lu9 := Lib.hid (Lu8.out.below hb)
          clear Lu8
          have Ly9 := Lib.hid (Ly8.out.below hb)
          clear Ly8
          have SZ9 := Lib.hid (Below.size hb)
          have BS9 := Lib.hid BE9.out.size
          have HZZ := Lib.hid hz
          have HTZ := Lib.hid hl
          have Lz9 := Lib.hid (Lst.weak hL (Nat.le_refl _))
          clear hz hl hL hb
          go_wp2_with fail
          refine ((V4.out ▸ E4.out ▸ Norm1_l HZP.out ⟨HP9.out.2.2.1, HP9.out.2.2.2.1, HP9.out.2.2.2.2, HTP.out⟩ : Calls _ _ _ _ (RetFE v4 e4 _))).mono ?_
          rintro e W10 ⟨rfl, hb⟩
          have hM10 := HM9.out.below hb
          have hP10 := HP9.out.below hb
          clear ma9 mb9 mc9 mA9 mB9 mC9 HM9
          have HM10 := Lib.hid hM10
          obtain ⟨⟨ma10, mb10, mc10⟩, -⟩ := hM10
          have mA10 := fun o => (HM10.out.alloc o).1.1
          have mB10 := fun o => (HM10.out.alloc o).1.2.1
          have mC10 := fun o => (HM10.out.alloc o).1.2.2
          clear pa9 pb9 pc9 pA9 pB9 pC9 HP9
          have HP10 := Lib.hid hP10
          obtain ⟨⟨pa10, pb10, pc10⟩, -⟩ := hP10
          have pA10 := fun o => (HP10.out.alloc o).1.1
          have pB10 := fun o => (HP10.out.alloc o).1.2.1
          have pC10 := fun o => (HP10.out.alloc o).1.2.2
          have BE10 := Lib.hid (BE9.out.trans (hb.mono BE9.out.size))
          clear BE9
          have Lv10 := Lib.hid (Lv9.out.below hb)
          clear Lv9
          have Lf10 := Lib.hid (Lf9.out.below hb)
          clear Lf9
          have Ln10 := Lib.hid (Ln9.out.below hb)
          clear Ln9
          have Lr10 := Lib.hid (Lr9.out.below hb)
          clear Lr9
          have Lu10 := Lib.hid (Lu9.out.below hb)
          clear Lu9
          have Ly10 := Lib.hid (Ly9.out.below hb)
          clear Ly9
          have Lz10 := Lib.hid (Lz9.out.below hb)
          clear Lz9
          have SZ10 := Lib.hid (Below.size hb)
          have BS10 := Lib.hid BE10.out.size
          clear hb
          go_wp2_with fail
          refine ((V5.out ▸ E5.out ▸ Identity_x n _ : Calls _ _ _ _ (RetMxE N5 N5 (idL n) e5 _))).mono ?_
          rintro e W11 ⟨s, zj, rfl, hz, hlz, hown, hb⟩
          have hM11 := HM10.out.below hb
          have hP11 := HP10.out.below hb
          clear ma10 mb10 mc10 mA10 mB10 mC10 HM10
          have HM11 := Lib.hid hM11
          obtain ⟨⟨ma11, mb11, mc11⟩, -⟩ := hM11
          have mA11 := fun o => (HM11.out.alloc o).1.1
          have mB11 := fun o => (HM11.out.alloc o).1.2.1
          have mC11 := fun o => (HM11.out.alloc o).1.2.2
          clear pa10 pb10 pc10 pA10 pB10 pC10 HP10
          have HP11 := Lib.hid hP11
          obtain ⟨⟨pa11, pb11, pc11⟩, -⟩ := hP11
          have pA11 := fun o => (HP11.out.alloc o).1.1
          have pB11 := fun o => (HP11.out.alloc o).1.2.1
          have pC11 := fun o => (HP11.out.alloc o).1.2.2
          have BE11 := Lib.hid (BE10.out.trans (hb.mono BE10.out.size))
          clear BE10
          have Lv11 := Lib.hid (Lv10.out.below hb)
          clear Lv10
          have Lf11 := Lib.hid (Lf10.out.below hb)
          clear Lf10
          have Ln11 := Lib.hid (Ln10.out.below hb)
          clear Ln10
          have Lr11 := Lib.hid (Lr10.out.below hb)
          clear Lr10
          have Lu11 := Lib.hid (Lu10.out.below hb)
          clear Lu10
          have Ly11 := Lib.hid (Ly10.out.below hb)
          clear Ly10
          have Lz11 := Lib.hid (Lz10.out.below hb)
          clear Lz10
          have SZ11 := Lib.hid (Below.size hb)
          have BS11 := Lib.hid BE11.out.size
          have hel := congrArg List.length hz
          rw [List.length_map] at hel
          rw [← hel] at hown
          obtain ⟨jA, jn, jc, rfl, -⟩ := slice_of_own hown
          obtain ⟨en, -, -⟩ := own_slice hown
          subst en
          have HZJ := Lib.hid hz
          have HTJ := Lib.hid hlz
          have PJ := Lib.hid (fun o => ((Reads.of_own hown).below (below_new W11 o)).more (below_new W11 o).size)
          have OWN := Lib.hid hown
          have hL : Lst W11 _ W11.heap.size jA zj jc := OwnIn.of hown
          have Lj11 := Lib.hid (Lst.weak hL (Nat.le_refl _))
          clear hz hlz hel hown hb hL
          go_wp2_with fail
          refine ((E1.out ▸ lo_of (rRow_x R0 C0 mA l0 mc i _ ⟨((HM11.out.alloc _).2.2.1), HM11.out.2.2.2.1, HM11.out.2.2.2.2, LT0.out⟩) : Calls _ _ _ _ (RetLO (rowL R0 C0 l0 i) e1 _))).mono ?_
          rintro e W12 ⟨aA, za, ac, rfl, hz, hl, hL, hb⟩
          obtain ⟨-, hJ12, hq⟩ := Has.new OWN.out hb
          clear OWN PJ
          have hM12 := HM11.out.below hq
          have hP12 := HP11.out.below hq
          clear ma11 mb11 mc11 mA11 mB11 mC11 HM11
          have HM12 := Lib.hid hM12
          obtain ⟨⟨ma12, mb12, mc12⟩, -⟩ := hM12
          have mA12 := fun o => (HM12.out.alloc o).1.1
          have mB12 := fun o => (HM12.out.alloc o).1.2.1
          have mC12 := fun o => (HM12.out.alloc o).1.2.2
          clear pa11 pb11 pc11 pA11 pB11 pC11 HP11
          have HP12 := Lib.hid hP12
          obtain ⟨⟨pa12, pb12, pc12⟩, -⟩ := hP12
          have pA12 := fun o => (HP12.out.alloc o).1.1
          have pB12 := fun o => (HP12.out.alloc o).1.2.1
          have pC12 := fun o => (HP12.out.alloc o).1.2.2
          have BE12 := Lib.hid (BE11.out.trans (hq.mono BE11.out.size))
          clear BE11
          have Lv12 := Lib.hid (Lv11.out.below hq)
          clear Lv11
          have Lf12 := Lib.hid (Lf11.out.below hq)
          clear Lf11
          have Ln12 := Lib.hid (Ln11.out.below hq)
          clear Ln11
          have Lr12 := Lib.hid (Lr11.out.below hq)
          clear Lr11
          have Lu12 := Lib.hid (Lu11.out.below hq)
          clear Lu11
          have Ly12 := Lib.hid (Ly11.out.below hq)
          clear Ly11
          have Lz12 := Lib.hid (Lz11.out.below hq)
          clear Lz11
          have Lj12 := Lib.hid (Lj11.out.below hq)
          clear Lj11
          have SZ12 := Lib.hid (Below.size hq)
          have BS12 := Lib.hid BE12.out.size
          have HJ12 := Lib.hid hJ12
          obtain ⟨⟨ja12, jb12, jc12⟩, -⟩ := hJ12
          have jA12 := fun o => (HJ12.out.alloc o).1.1
          have jB12 := fun o => (HJ12.out.alloc o).1.2.1
          have jC12 := fun o => (HJ12.out.alloc o).1.2.2
          clear hq
          have HZA := Lib.hid hz
          have HTA := Lib.hid hl
          have La12 := Lib.hid (Lst.weak hL (below_new W11 _).size)
          clear hz hl hL hb
          go_wp2_with fail
          refine ((E2.out ▸ lo_of (rCol_x R0 C0 mA l0 mc i _ ⟨HM12.out.2.2.1, HM12.out.2.2.2.1, HM12.out.2.2.2.2, LT0.out⟩) : Calls _ _ _ _ (RetLO (colL R0 C0 l0 i) e2 _))).mono ?_
          rintro e W13 ⟨bA, zb, bc, rfl, hz, hl, hL, hb⟩
          have hM13 := HM12.out.below hb
          have hP13 := HP12.out.below hb
          have hJ13 := HJ12.out.below hb
          clear ma12 mb12 mc12 mA12 mB12 mC12 HM12
          have HM13 := Lib.hid hM13
          obtain ⟨⟨ma13, mb13, mc13⟩, -⟩ := hM13
          have mA13 := fun o => (HM13.out.alloc o).1.1
          have mB13 := fun o => (HM13.out.alloc o).1.2.1
          have mC13 := fun o => (HM13.out.alloc o).1.2.2
          clear pa12 pb12 pc12 pA12 pB12 pC12 HP12
          have HP13 := Lib.hid hP13
          obtain ⟨⟨pa13, pb13, pc13⟩, -⟩ := hP13
          have pA13 := fun o => (HP13.out.alloc o).1.1
          have pB13 := fun o => (HP13.out.alloc o).1.2.1
          have pC13 := fun o => (HP13.out.alloc o).1.2.2
          clear ja12 jb12 jc12 jA12 jB12 jC12 HJ12
          have HJ13 := Lib.hid hJ13
          obtain ⟨⟨ja13, jb13, jc13⟩, -⟩ := hJ13
          have jA13 := fun o => (HJ13.out.alloc o).1.1
          have jB13 := fun o => (HJ13.out.alloc o).1.2.1
          have jC13 := fun o => (HJ13.out.alloc o).1.2.2
          have BE13 := Lib.hid (BE12.out.trans (hb.mono BE12.out.size))
          clear BE12
          have Lv13 := Lib.hid (Lv12.out.below hb)
          clear Lv12
          have Lf13 := Lib.hid (Lf12.out.below hb)
          clear Lf12
          have Ln13 := Lib.hid (Ln12.out.below hb)
          clear Ln12
          have Lr13 := Lib.hid (Lr12.out.below hb)
          clear Lr12
          have Lu13 := Lib.hid (Lu12.out.below hb)
          clear Lu12
          have Ly13 := Lib.hid (Ly12.out.below hb)
          clear Ly12
          have Lz13 := Lib.hid (Lz12.out.below hb)
          clear Lz12
          have Lj13 := Lib.hid (Lj12.out.below hb)
          clear Lj12
          have La13 := Lib.hid (La12.out.below hb)
          clear La12
          have SZ13 := Lib.hid (Below.size hb)
          have BS13 := Lib.hid BE13.out.size
          have HZB := Lib.hid hz
          have HTB := Lib.hid hl
          have Lb13 := Lib.hid (Lst.weak hL (Nat.le_refl _))
          clear hz hl hL hb
          go_wp2_with fail
          refine ((E3.out ▸ lo_of (rApply_x R0 C0 mA vA l0 l1 mc vc _ ⟨HM13.out.2.2.1, HM13.out.2.2.2.1, HM13.out.2.2.2.2, LT0.out⟩ Lv13.out.reads) : Calls _ _ _ _ (RetLO (apL R0 C0 l0 l1) e3 _))).mono ?_
          rintro e W14 ⟨dA, zd, dc, rfl, hz, hl, hL, hb⟩
          have hM14 := HM13.out.below hb
          have hP14 := HP13.out.below hb
          have hJ14 := HJ13.out.below hb
          clear ma13 mb13 mc13 mA13 mB13 mC13 HM13
          have HM14 := Lib.hid hM14
          obtain ⟨⟨ma14, mb14, mc14⟩, -⟩ := hM14
          have mA14 := fun o => (HM14.out.alloc o).1.1
          have mB14 := fun o => (HM14.out.alloc o).1.2.1
          have mC14 := fun o => (HM14.out.alloc o).1.2.2
          clear pa13 pb13 pc13 pA13 pB13 pC13 HP13
          have HP14 := Lib.hid hP14
          obtain ⟨⟨pa14, pb14, pc14⟩, -⟩ := hP14
          have pA14 := fun o => (HP14.out.alloc o).1.1
          have pB14 := fun o => (HP14.out.alloc o).1.2.1
          have pC14 := fun o => (HP14.out.alloc o).1.2.2
          clear ja13 jb13 jc13 jA13 jB13 jC13 HJ13
          have HJ14 := Lib.hid hJ14
          obtain ⟨⟨ja14, jb14, jc14⟩, -⟩ := hJ14
          have jA14 := fun o => (HJ14.out.alloc o).1.1
          have jB14 := fun o => (HJ14.out.alloc o).1.2.1
          have jC14 := fun o => (HJ14.out.alloc o).1.2.2
          have BE14 := Lib.hid (BE13.out.trans (hb.mono BE13.out.size))
          clear BE13
          have Lv14 := Lib.hid (Lv13.out.below hb)
          clear Lv13
          have Lf14 := Lib.hid (Lf13.out.below hb)
          clear Lf13
          have Ln14 := Lib.hid (Ln13.out.below hb)
          clear Ln13
          have Lr14 := Lib.hid (Lr13.out.below hb)
          clear Lr13
          have Lu14 := Lib.hid (Lu13.out.below hb)
          clear Lu13
          have Ly14 := Lib.hid (Ly13.out.below hb)
          clear Ly13
          have Lz14 := Lib.hid (Lz13.out.below hb)
          clear Lz13
          have Lj14 := Lib.hid (Lj13.out.below hb)
          clear Lj13
          have La14 := Lib.hid (La13.out.below hb)
          clear La13
          have Lb14 := Lib.hid (Lb13.out.below hb)
          clear Lb13
          have SZ14 := Lib.hid (Below.size hb)
          have BS14 := Lib.hid BE14.out.size
          have HZD := Lib.hid hz
          have HTD := Lib.hid hl
          have Ld14 := Lib.hid (Lst.weak hL (Nat.le_refl _))
          clear hz hl hL hb
          go_wp2_with fail
          refine ((V4.out ▸ E4.out ▸ rNorm1_x R0 C0 mA l0 mc _ ⟨HM14.out.2.2.1, HM14.out.2.2.2.1, HM14.out.2.2.2.2, LT0.out⟩ : Calls _ _ _ _ (RetFE v4 e4 _))).mono ?_
          rintro e W15 ⟨rfl, hb⟩
          have hM15 := HM14.out.below hb
          have hP15 := HP14.out.below hb
          have hJ15 := HJ14.out.below hb
          clear ma14 mb14 mc14 mA14 mB14 mC14 HM14
          have HM15 := Lib.hid hM15
          obtain ⟨⟨ma15, mb15, mc15⟩, -⟩ := hM15
          have mA15 := fun o => (HM15.out.alloc o).1.1
          have mB15 := fun o => (HM15.out.alloc o).1.2.1
          have mC15 := fun o => (HM15.out.alloc o).1.2.2
          clear pa14 pb14 pc14 pA14 pB14 pC14 HP14
          have HP15 := Lib.hid hP15
          obtain ⟨⟨pa15, pb15, pc15⟩, -⟩ := hP15
          have pA15 := fun o => (HP15.out.alloc o).1.1
          have pB15 := fun o => (HP15.out.alloc o).1.2.1
          have pC15 := fun o => (HP15.out.alloc o).1.2.2
          clear ja14 jb14 jc14 jA14 jB14 jC14 HJ14
          have HJ15 := Lib.hid hJ15
          obtain ⟨⟨ja15, jb15, jc15⟩, -⟩ := hJ15
          have jA15 := fun o => (HJ15.out.alloc o).1.1
          have jB15 := fun o => (HJ15.out.alloc o).1.2.1
          have jC15 := fun o => (HJ15.out.alloc o).1.2.2
          have BE15 := Lib.hid (BE14.out.trans (hb.mono BE14.out.size))
          clear BE14
          have Lv15 := Lib.hid (Lv14.out.below hb)
          clear Lv14
          have Lf15 := Lib.hid (Lf14.out.below hb)
          clear Lf14
          have Ln15 := Lib.hid (Ln14.out.below hb)
          clear Ln14
          have Lr15 := Lib.hid (Lr14.out.below hb)
          clear Lr14
          have Lu15 := Lib.hid (Lu14.out.below hb)
          clear Lu14
          have Ly15 := Lib.hid (Ly14.out.below hb)
          clear Ly14
          have Lz15 := Lib.hid (Lz14.out.below hb)
          clear Lz14
          have Lj15 := Lib.hid (Lj14.out.below hb)
          clear Lj14
          have La15 := Lib.hid (La14.out.below hb)
          clear La14
          have Lb15 := Lib.hid (Lb14.out.below hb)
          clear Lb14
          have Ld15 := Lib.hid (Ld14.out.below hb)
          clear Ld14
          have SZ15 := Lib.hid (Below.size hb)
          have BS15 := Lib.hid BE15.out.size
          clear hb
          go_wp2_with fail
          refine ((V5.out ▸ E5.out ▸ rIdentity_x n _ : Calls _ _ _ _ (RetMxE N5 N5 (idL n) e5 _))).mono ?_
          rintro e W16 ⟨s, zk, rfl, hz, hlz, hown, hb⟩
          have hM16 := HM15.out.below hb
          have hP16 := HP15.out.below hb
          have hJ16 := HJ15.out.below hb
          clear ma15 mb15 mc15 mA15 mB15 mC15 HM15
          have HM16 := Lib.hid hM16
          obtain ⟨⟨ma16, mb16, mc16⟩, -⟩ := hM16
          have mA16 := fun o => (HM16.out.alloc o).1.1
          have mB16 := fun o => (HM16.out.alloc o).1.2.1
          have mC16 := fun o => (HM16.out.alloc o).1.2.2
          clear pa15 pb15 pc15 pA15 pB15 pC15 HP15
          have HP16 := Lib.hid hP16
          obtain ⟨⟨pa16, pb16, pc16⟩, -⟩ := hP16
          have pA16 := fun o => (HP16.out.alloc o).1.1
          have pB16 := fun o => (HP16.out.alloc o).1.2.1
          have pC16 := fun o => (HP16.out.alloc o).1.2.2
          clear ja15 jb15 jc15 jA15 jB15 jC15 HJ15
          have HJ16 := Lib.hid hJ16
          obtain ⟨⟨ja16, jb16, jc16⟩, -⟩ := hJ16
          have jA16 := fun o => (HJ16.out.alloc o).1.1
          have jB16 := fun o => (HJ16.out.alloc o).1.2.1
          have jC16 := fun o => (HJ16.out.alloc o).1.2.2
          have BE16 := Lib.hid (BE15.out.trans (hb.mono BE15.out.size))
          clear BE15
          have Lv16 := Lib.hid (Lv15.out.below hb)
          clear Lv15
          have Lf16 := Lib.hid (Lf15.out.below hb)
          clear Lf15
          have Ln16 := Lib.hid (Ln15.out.below hb)
          clear Ln15
          have Lr16 := Lib.hid (Lr15.out.below hb)
          clear Lr15
          have Lu16 := Lib.hid (Lu15.out.below hb)
          clear Lu15
          have Ly16 := Lib.hid (Ly15.out.below hb)
          clear Ly15
          have Lz16 := Lib.hid (Lz15.out.below hb)
          clear Lz15
          have Lj16 := Lib.hid (Lj15.out.below hb)
          clear Lj15
          have La16 := Lib.hid (La15.out.below hb)
          clear La15
          have Lb16 := Lib.hid (Lb15.out.below hb)
          clear Lb15
          have Ld16 := Lib.hid (Ld15.out.below hb)
          clear Ld15
          have SZ16 := Lib.hid (Below.size hb)
          have BS16 := Lib.hid BE16.out.size
          have hel := congrArg List.length hz
          rw [List.length_map] at hel
          rw [← hel] at hown
          obtain ⟨kA, kn, kc, rfl, -⟩ := slice_of_own hown
          obtain ⟨en, -, -⟩ := own_slice hown
          subst en
          have HZK := Lib.hid hz
          have HTK := Lib.hid hlz
          have PK := Lib.hid (fun o => ((Reads.of_own hown).below (below_new W16 o)).more (below_new W16 o).size)
          have OWN := Lib.hid hown
          have hL : Lst W16 _ W16.heap.size kA zk kc := OwnIn.of hown
          have Lk16 := Lib.hid (Lst.weak hL (Nat.le_refl _))
          clear hz hlz hel hown hb hL
          have hii : zj.map cnC = zk.map cnC := HZJ.out.trans HZK.out.symm
          have HII := Lib.hid hii
          have hil : zj.length ≤ 4096 := by have h := idL_len n; rw [← HZJ.out, List.length_map] at h; exact h
          have HIL := Lib.hid hil
          clear hii hil
          go_wp2_with fail
          refine (kSameReal_self7 v4 _).mono ?_
          rintro e w' ⟨rfl, rfl⟩
          go_wp2_with fail
          refine (SameMatrix_u N5 N5 jA kA zj zk jc kc _ HII.out HIL.out ((HJ16.out.alloc _).2.2.1) (PK.out _)).mono ?_
          rintro e W17 ⟨rfl, hb⟩
          obtain ⟨-, hK17, hq⟩ := Has.new OWN.out hb
          clear OWN PK
          have hM17 := HM16.out.below hq
          have hP17 := HP16.out.below hq
          have hJ17 := HJ16.out.below hq
          clear ma16 mb16 mc16 mA16 mB16 mC16 HM16
          have HM17 := Lib.hid hM17
          obtain ⟨⟨ma17, mb17, mc17⟩, -⟩ := hM17
          have mA17 := fun o => (HM17.out.alloc o).1.1
          have mB17 := fun o => (HM17.out.alloc o).1.2.1
          have mC17 := fun o => (HM17.out.alloc o).1.2.2
          clear pa16 pb16 pc16 pA16 pB16 pC16 HP16
          have HP17 := Lib.hid hP17
          obtain ⟨⟨pa17, pb17, pc17⟩, -⟩ := hP17
          have pA17 := fun o => (HP17.out.alloc o).1.1
          have pB17 := fun o => (HP17.out.alloc o).1.2.1
          have pC17 := fun o => (HP17.out.alloc o).1.2.2
          clear ja16 jb16 jc16 jA16 jB16 jC16 HJ16
          have HJ17 := Lib.hid hJ17
          obtain ⟨⟨ja17, jb17, jc17⟩, -⟩ := hJ17
          have jA17 := fun o => (HJ17.out.alloc o).1.1
          have jB17 := fun o => (HJ17.out.alloc o).1.2.1
          have jC17 := fun o => (HJ17.out.alloc o).1.2.2
          have BE17 := Lib.hid (BE16.out.trans (hq.mono BE16.out.size))
          clear BE16
          have Lv17 := Lib.hid (Lv16.out.below hq)
          clear Lv16
          have Lf17 := Lib.hid (Lf16.out.below hq)
          clear Lf16
          have Ln17 := Lib.hid (Ln16.out.below hq)
          clear Ln16
          have Lr17 := Lib.hid (Lr16.out.below hq)
          clear Lr16
          have Lu17 := Lib.hid (Lu16.out.below hq)
          clear Lu16
          have Ly17 := Lib.hid (Ly16.out.below hq)
          clear Ly16
          have Lz17 := Lib.hid (Lz16.out.below hq)
          clear Lz16
          have Lj17 := Lib.hid (Lj16.out.below hq)
          clear Lj16
          have La17 := Lib.hid (La16.out.below hq)
          clear La16
          have Lb17 := Lib.hid (Lb16.out.below hq)
          clear Lb16
          have Ld17 := Lib.hid (Ld16.out.below hq)
          clear Ld16
          have Lk17 := Lib.hid (Lk16.out.below hq)
          clear Lk16
          have SZ17 := Lib.hid (Below.size hq)
          have BS17 := Lib.hid BE17.out.size
          have HK17 := Lib.hid hK17
          obtain ⟨⟨ka17, kb17, kc17⟩, -⟩ := hK17
          have kA17 := fun o => (HK17.out.alloc o).1.1
          have kB17 := fun o => (HK17.out.alloc o).1.2.1
          have kC17 := fun o => (HK17.out.alloc o).1.2.2
          clear hq
          clear hb
          go_wp2_with fail
          refine (Kept_t mA (some ⟨gP, 0, none⟩) l0 zf mc pc _ HLn0.out LT0.out HM17.out.2.2.2.1 HM17.out.2.2.1 HZF.out Lf17.out.reads).mono ?_
          rintro e W18 ⟨rfl, hb⟩
          have hM18 := HM17.out.below hb
          have hP18 := HP17.out.below hb
          have hJ18 := HJ17.out.below hb
          have hK18 := HK17.out.below hb
          clear ma17 mb17 mc17 mA17 mB17 mC17 HM17
          have HM18 := Lib.hid hM18
          obtain ⟨⟨ma18, mb18, mc18⟩, -⟩ := hM18
          have mA18 := fun o => (HM18.out.alloc o).1.1
          have mB18 := fun o => (HM18.out.alloc o).1.2.1
          have mC18 := fun o => (HM18.out.alloc o).1.2.2
          clear pa17 pb17 pc17 pA17 pB17 pC17 HP17
          have HP18 := Lib.hid hP18
          obtain ⟨⟨pa18, pb18, pc18⟩, -⟩ := hP18
          have pA18 := fun o => (HP18.out.alloc o).1.1
          have pB18 := fun o => (HP18.out.alloc o).1.2.1
          have pC18 := fun o => (HP18.out.alloc o).1.2.2
          clear ja17 jb17 jc17 jA17 jB17 jC17 HJ17
          have HJ18 := Lib.hid hJ18
          obtain ⟨⟨ja18, jb18, jc18⟩, -⟩ := hJ18
          have jA18 := fun o => (HJ18.out.alloc o).1.1
          have jB18 := fun o => (HJ18.out.alloc o).1.2.1
          have jC18 := fun o => (HJ18.out.alloc o).1.2.2
          clear ka17 kb17 kc17 kA17 kB17 kC17 HK17
          have HK18 := Lib.hid hK18
          obtain ⟨⟨ka18, kb18, kc18⟩, -⟩ := hK18
          have kA18 := fun o => (HK18.out.alloc o).1.1
          have kB18 := fun o => (HK18.out.alloc o).1.2.1
          have kC18 := fun o => (HK18.out.alloc o).1.2.2
          have BE18 := Lib.hid (BE17.out.trans (hb.mono BE17.out.size))
          clear BE17
          have Lv18 := Lib.hid (Lv17.out.below hb)
          clear Lv17
          have Lf18 := Lib.hid (Lf17.out.below hb)
          clear Lf17
          have Ln18 := Lib.hid (Ln17.out.below hb)
          clear Ln17
          have Lr18 := Lib.hid (Lr17.out.below hb)
          clear Lr17
          have Lu18 := Lib.hid (Lu17.out.below hb)
          clear Lu17
          have Ly18 := Lib.hid (Ly17.out.below hb)
          clear Ly17
          have Lz18 := Lib.hid (Lz17.out.below hb)
          clear Lz17
          have Lj18 := Lib.hid (Lj17.out.below hb)
          clear Lj17
          have La18 := Lib.hid (La17.out.below hb)
          clear La17
          have Lb18 := Lib.hid (Lb17.out.below hb)
          clear Lb17
          have Ld18 := Lib.hid (Ld17.out.below hb)
          clear Ld17
          have Lk18 := Lib.hid (Lk17.out.below hb)
          clear Lk17
          have SZ18 := Lib.hid (Below.size hb)
          have BS18 := Lib.hid BE18.out.size
          clear hb
          go_wp2_with fail
          refine (Kept_t vA (some ⟨gN, 0, none⟩) l1 zn vc nc _ HLn1.out LT1.out Lv18.out.none Lv18.out.reads HZN.out Ln18.out.reads).mono ?_
          rintro e W19 ⟨rfl, hb⟩
          have hM19 := HM18.out.below hb
          have hP19 := HP18.out.below hb
          have hJ19 := HJ18.out.below hb
          have hK19 := HK18.out.below hb
          clear ma18 mb18 mc18 mA18 mB18 mC18 HM18
          have HM19 := Lib.hid hM19
          obtain ⟨⟨ma19, mb19, mc19⟩, -⟩ := hM19
          have mA19 := fun o => (HM19.out.alloc o).1.1
          have mB19 := fun o => (HM19.out.alloc o).1.2.1
          have mC19 := fun o => (HM19.out.alloc o).1.2.2
          clear pa18 pb18 pc18 pA18 pB18 pC18 HP18
          have HP19 := Lib.hid hP19
          obtain ⟨⟨pa19, pb19, pc19⟩, -⟩ := hP19
          have pA19 := fun o => (HP19.out.alloc o).1.1
          have pB19 := fun o => (HP19.out.alloc o).1.2.1
          have pC19 := fun o => (HP19.out.alloc o).1.2.2
          clear ja18 jb18 jc18 jA18 jB18 jC18 HJ18
          have HJ19 := Lib.hid hJ19
          obtain ⟨⟨ja19, jb19, jc19⟩, -⟩ := hJ19
          have jA19 := fun o => (HJ19.out.alloc o).1.1
          have jB19 := fun o => (HJ19.out.alloc o).1.2.1
          have jC19 := fun o => (HJ19.out.alloc o).1.2.2
          clear ka18 kb18 kc18 kA18 kB18 kC18 HK18
          have HK19 := Lib.hid hK19
          obtain ⟨⟨ka19, kb19, kc19⟩, -⟩ := hK19
          have kA19 := fun o => (HK19.out.alloc o).1.1
          have kB19 := fun o => (HK19.out.alloc o).1.2.1
          have kC19 := fun o => (HK19.out.alloc o).1.2.2
          have BE19 := Lib.hid (BE18.out.trans (hb.mono BE18.out.size))
          clear BE18
          have Lv19 := Lib.hid (Lv18.out.below hb)
          clear Lv18
          have Lf19 := Lib.hid (Lf18.out.below hb)
          clear Lf18
          have Ln19 := Lib.hid (Ln18.out.below hb)
          clear Ln18
          have Lr19 := Lib.hid (Lr18.out.below hb)
          clear Lr18
          have Lu19 := Lib.hid (Lu18.out.below hb)
          clear Lu18
          have Ly19 := Lib.hid (Ly18.out.below hb)
          clear Ly18
          have Lz19 := Lib.hid (Lz18.out.below hb)
          clear Lz18
          have Lj19 := Lib.hid (Lj18.out.below hb)
          clear Lj18
          have La19 := Lib.hid (La18.out.below hb)
          clear La18
          have Lb19 := Lib.hid (Lb18.out.below hb)
          clear Lb18
          have Ld19 := Lib.hid (Ld18.out.below hb)
          clear Ld18
          have Lk19 := Lib.hid (Lk18.out.below hb)
          clear Lk18
          have SZ19 := Lib.hid (Below.size hb)
          have BS19 := Lib.hid BE19.out.size
          clear hb
          have hci : W19.cell? ⟨W11.heap.size, 2, none⟩ = some (.slice jA zj.length jc) := HJ19.out.1.2.2
          have HCI := Lib.hid hci
          clear hci
          clear ma19 mb19 mc19 mA19 mB19 mC19 HM19
          clear pa19 pb19 pc19 pA19 pB19 pC19 HP19
          clear ja19 jb19 jc19 jA19 jB19 jC19 HJ19
          clear ka19 kb19 kc19 kA19 kB19 kC19 HK19
          clear Lv19
          clear Lk19
          have hnl : zf.length ≤ 1000000 := by have h1 := lent_len HZF.out; have h2 := HX100.out; have h3 := HLn4.out; omega
          have HNL := Lib.hid hnl
          clear hnl
          go_wp2_with fail
          refine (Over_c _ gP pc zf.length zf _ rfl HNL.out Lf19.out.1).mono ?_
          rintro e W20 ⟨z', rfl, -, -, hg⟩
          obtain ⟨hg1, hg2⟩ := Lf19.out.blk gP rfl
          clear Lf19 HNL
          have s5 := SZ5.out
          have s6 := SZ6.out
          have s7 := SZ7.out
          have s8 := SZ8.out
          have s9 := SZ9.out
          have s10 := SZ10.out
          have s11 := SZ11.out
          have s12 := SZ12.out
          have s13 := SZ13.out
          have s14 := SZ14.out
          have s15 := SZ15.out
          have s16 := SZ16.out
          have s17 := SZ17.out
          have s18 := SZ18.out
          have s19 := SZ19.out
          have Ln20 := Lib.hid (Ln19.out.over hg (by first | (right; omega) | (left; omega)))
          clear Ln19
          have Lr20 := Lib.hid (Lr19.out.over hg (by first | (right; omega) | (left; omega)))
          clear Lr19
          have Lu20 := Lib.hid (Lu19.out.over hg (by first | (right; omega) | (left; omega)))
          clear Lu19
          have Ly20 := Lib.hid (Ly19.out.over hg (by first | (right; omega) | (left; omega)))
          clear Ly19
          have Lz20 := Lib.hid (Lz19.out.over hg (by first | (right; omega) | (left; omega)))
          clear Lz19
          have Lj20 := Lib.hid (Lj19.out.over hg (by first | (right; omega) | (left; omega)))
          clear Lj19
          have La20 := Lib.hid (La19.out.over hg (by first | (right; omega) | (left; omega)))
          clear La19
          have Lb20 := Lib.hid (Lb19.out.over hg (by first | (right; omega) | (left; omega)))
          clear Lb19
          have Ld20 := Lib.hid (Ld19.out.over hg (by first | (right; omega) | (left; omega)))
          clear Ld19
          have HCI' := Lib.hid (hg.cell HCI.out (by intro e; injection e with e; simp only at e; omega))
          clear HCI
          have HCI := HCI'
          clear HCI'
          have BE20 := Lib.hid (BE19.out.grown hg BE19.out.size (fun j hj => by injection hj with hj; subst hj; exact Nat.le_trans BS3.out hg1))
          have SZ20 := Lib.hid hg.size
          clear hg hg1 hg2 BE19 s5 s6 s7 s8 s9 s10 s11 s12 s13 s14 s15 s16 s17 s18 s19
          have hnl : zn.length ≤ 1000000 := by have h1 := lent_len HZN.out; have h2 := HX100.out; have h3 := HLn4.out; omega
          have HNL := Lib.hid hnl
          clear hnl
          go_wp2_with fail
          refine (Over_c _ gN nc zn.length zn _ rfl HNL.out Ln20.out.1).mono ?_
          rintro e W21 ⟨z', rfl, -, -, hg⟩
          obtain ⟨hg1, hg2⟩ := Ln20.out.blk gN rfl
          clear Ln20 HNL
          have s6 := SZ6.out
          have s7 := SZ7.out
          have s8 := SZ8.out
          have s9 := SZ9.out
          have s10 := SZ10.out
          have s11 := SZ11.out
          have s12 := SZ12.out
          have s13 := SZ13.out
          have s14 := SZ14.out
          have s15 := SZ15.out
          have s16 := SZ16.out
          have s17 := SZ17.out
          have s18 := SZ18.out
          have s19 := SZ19.out
          have s20 := SZ20.out
          have Lr21 := Lib.hid (Lr20.out.over hg (by first | (right; omega) | (left; omega)))
          clear Lr20
          have Lu21 := Lib.hid (Lu20.out.over hg (by first | (right; omega) | (left; omega)))
          clear Lu20
          have Ly21 := Lib.hid (Ly20.out.over hg (by first | (right; omega) | (left; omega)))
          clear Ly20
          have Lz21 := Lib.hid (Lz20.out.over hg (by first | (right; omega) | (left; omega)))
          clear Lz20
          have Lj21 := Lib.hid (Lj20.out.over hg (by first | (right; omega) | (left; omega)))
          clear Lj20
          have La21 := Lib.hid (La20.out.over hg (by first | (right; omega) | (left; omega)))
          clear La20
          have Lb21 := Lib.hid (Lb20.out.over hg (by first | (right; omega) | (left; omega)))
          clear Lb20
          have Ld21 := Lib.hid (Ld20.out.over hg (by first | (right; omega) | (left; omega)))
          clear Ld20
          have HCI' := Lib.hid (hg.cell HCI.out (by intro e; injection e with e; simp only at e; omega))
          clear HCI
          have HCI := HCI'
          clear HCI'
          have BE21 := Lib.hid (BE20.out.grown hg BE20.out.size (fun j hj => by injection hj with hj; subst hj; exact Nat.le_trans BS4.out hg1))
          have SZ21 := Lib.hid hg.size
          clear hg hg1 hg2 BE20 s6 s7 s8 s9 s10 s11 s12 s13 s14 s15 s16 s17 s18 s19 s20
          have LENr := Lib.hid (show zr.length ≤ 5000 by have h := rowL_len R0 C0 l0 i; rw [← HZR.out, List.length_map] at h; exact h)
          have LENu := Lib.hid (show zu.length ≤ 5000 by have h := colL_len R0 C0 l0 i; rw [← HZU.out, List.length_map] at h; exact h)
          have LENy := Lib.hid (show zy.length ≤ 5000 by have h := apL_len R0 C0 l0 l1; rw [← HZY.out, List.length_map] at h; exact h)
          have LENz := Lib.hid (show zz.length ≤ 5000 by have h := apL_len R0 C0 l0 l1; rw [← HZZ.out, List.length_map] at h; exact h)
          have hsm := HZR.out.trans HZA.out.symm
          have hln := map_len hsm
          have HSM := Lib.hid hsm
          have HLN := Lib.hid hln
          have hbn : zr.length ≤ 4611686018427387904 := by have h := LENr.out; omega
          have HBN := Lib.hid hbn
          clear hsm hln hbn
          go_wp2_with fail
          refine (same_of Lr21.out La21.out HSM.out HBN.out).mono ?_
          rintro e W22 ⟨rfl, hb⟩
          have BE22 := Lib.hid (BE21.out.trans (hb.mono BE21.out.size))
          clear BE21
          have Lr22 := Lib.hid (Lr21.out.below hb)
          clear Lr21
          have Lu22 := Lib.hid (Lu21.out.below hb)
          clear Lu21
          have Ly22 := Lib.hid (Ly21.out.below hb)
          clear Ly21
          have Lz22 := Lib.hid (Lz21.out.below hb)
          clear Lz21
          have Lj22 := Lib.hid (Lj21.out.below hb)
          clear Lj21
          have La22 := Lib.hid (La21.out.below hb)
          clear La21
          have Lb22 := Lib.hid (Lb21.out.below hb)
          clear Lb21
          have Ld22 := Lib.hid (Ld21.out.below hb)
          clear Ld21
          have HCI' := Lib.hid ((Below.cell (p := ⟨W11.heap.size, 2, none⟩) hb (block_lt_of_cell HCI.out)).trans HCI.out)
          clear HCI
          have HCI := HCI'
          clear HCI'
          have SZ22 := Lib.hid (Below.size hb)
          have BS22 := Lib.hid BE22.out.size
          clear hb
          clear HSM HLN HBN
          have hsm := HZU.out.trans HZB.out.symm
          have hln := map_len hsm
          have HSM := Lib.hid hsm
          have HLN := Lib.hid hln
          have hbn : zu.length ≤ 4611686018427387904 := by have h := LENu.out; omega
          have HBN := Lib.hid hbn
          clear hsm hln hbn
          go_wp2_with fail
          refine (same_of Lu22.out Lb22.out HSM.out HBN.out).mono ?_
          rintro e W23 ⟨rfl, hb⟩
          have BE23 := Lib.hid (BE22.out.trans (hb.mono BE22.out.size))
          clear BE22
          have Lr23 := Lib.hid (Lr22.out.below hb)
          clear Lr22
          have Lu23 := Lib.hid (Lu22.out.below hb)
          clear Lu22
          have Ly23 := Lib.hid (Ly22.out.below hb)
          clear Ly22
          have Lz23 := Lib.hid (Lz22.out.below hb)
          clear Lz22
          have Lj23 := Lib.hid (Lj22.out.below hb)
          clear Lj22
          have La23 := Lib.hid (La22.out.below hb)
          clear La22
          have Lb23 := Lib.hid (Lb22.out.below hb)
          clear Lb22
          have Ld23 := Lib.hid (Ld22.out.below hb)
          clear Ld22
          have HCI' := Lib.hid ((Below.cell (p := ⟨W11.heap.size, 2, none⟩) hb (block_lt_of_cell HCI.out)).trans HCI.out)
          clear HCI
          have HCI := HCI'
          clear HCI'
          have SZ23 := Lib.hid (Below.size hb)
          have BS23 := Lib.hid BE23.out.size
          clear hb
          clear HSM HLN HBN
          have hsm := HZY.out.trans HZD.out.symm
          have hln := map_len hsm
          have HSM := Lib.hid hsm
          have HLN := Lib.hid hln
          have hbn : zy.length ≤ 4611686018427387904 := by have h := LENy.out; omega
          have HBN := Lib.hid hbn
          clear hsm hln hbn
          go_wp2_with fail
          refine (same_of Ly23.out Ld23.out HSM.out HBN.out).mono ?_
          rintro e W24 ⟨rfl, hb⟩
          have BE24 := Lib.hid (BE23.out.trans (hb.mono BE23.out.size))
          clear BE23
          have Lr24 := Lib.hid (Lr23.out.below hb)
          clear Lr23
          have Lu24 := Lib.hid (Lu23.out.below hb)
          clear Lu23
          have Ly24 := Lib.hid (Ly23.out.below hb)
          clear Ly23
          have Lz24 := Lib.hid (Lz23.out.below hb)
          clear Lz23
          have Lj24 := Lib.hid (Lj23.out.below hb)
          clear Lj23
          have La24 := Lib.hid (La23.out.below hb)
          clear La23
          have Lb24 := Lib.hid (Lb23.out.below hb)
          clear Lb23
          have Ld24 := Lib.hid (Ld23.out.below hb)
          clear Ld23
          have HCI' := Lib.hid ((Below.cell (p := ⟨W11.heap.size, 2, none⟩) hb (block_lt_of_cell HCI.out)).trans HCI.out)
          clear HCI
          have HCI := HCI'
          clear HCI'
          have SZ24 := Lib.hid (Below.size hb)
          have BS24 := Lib.hid BE24.out.size
          clear hb
          clear HSM HLN HBN
          have hsm := HZZ.out.trans HZD.out.symm
          have hln := map_len hsm
          have HSM := Lib.hid hsm
          have HLN := Lib.hid hln
          have hbn : zz.length ≤ 4611686018427387904 := by have h := LENz.out; omega
          have HBN := Lib.hid hbn
          clear hsm hln hbn
          go_wp2_with fail
          refine (same_of Lz24.out Ld24.out HSM.out HBN.out).mono ?_
          rintro e W25 ⟨rfl, hb⟩
          have BE25 := Lib.hid (BE24.out.trans (hb.mono BE24.out.size))
          clear BE24
          have Lr25 := Lib.hid (Lr24.out.below hb)
          clear Lr24
          have Lu25 := Lib.hid (Lu24.out.below hb)
          clear Lu24
          have Ly25 := Lib.hid (Ly24.out.below hb)
          clear Ly24
          have Lz25 := Lib.hid (Lz24.out.below hb)
          clear Lz24
          have Lj25 := Lib.hid (Lj24.out.below hb)
          clear Lj24
          have La25 := Lib.hid (La24.out.below hb)
          clear La24
          have Lb25 := Lib.hid (Lb24.out.below hb)
          clear Lb24
          have Ld25 := Lib.hid (Ld24.out.below hb)
          clear Ld24
          have HCI' := Lib.hid ((Below.cell (p := ⟨W11.heap.size, 2, none⟩) hb (block_lt_of_cell HCI.out)).trans HCI.out)
          clear HCI
          have HCI := HCI'
          clear HCI'
          have SZ25 := Lib.hid (Below.size hb)
          have BS25 := Lib.hid BE25.out.size
          clear hb
          clear HSM HLN HBN
          have hci : W25.cell? ⟨W11.heap.size, 2, none⟩ = some (.slice jA zj.length jc) := HCI.out
          have hFam : Fam (W25.alloc (.cells #[.slice rA zr.length rc, .slice uA zu.length uc, .slice yA zy.length yc, .slice zA zz.length zc, .slice jA zj.length jc] 26)) w.heap.size W25.heap.size [.slice rA zr.length rc, .slice uA zu.length uc, .slice yA zy.length yc, .slice zA zz.length zc, .slice jA zj.length jc] [zr, zu, zy, zz, zj] :=
            fam5 ((Lr25.out.own BS5.out).alloc _) ((Lu25.out.own BS6.out).alloc _) ((Ly25.out.own BS7.out).alloc _) ((Lz25.out.own BS8.out).alloc _) ((Lj25.out.own BS10.out).alloc _) (heap_alloc_new _ _)
          have s6 := SZ6.out
          have s7 := SZ7.out
          have s8 := SZ8.out
          have s9 := SZ9.out
          have s10 := SZ10.out
          have s11 := SZ11.out
          have s12 := SZ12.out
          have s13 := SZ13.out
          have s14 := SZ14.out
          have s15 := SZ15.out
          have s16 := SZ16.out
          have s17 := SZ17.out
          have s18 := SZ18.out
          have s19 := SZ19.out
          have s20 := SZ20.out
          have s21 := SZ21.out
          have s22 := SZ22.out
          have s23 := SZ23.out
          have s24 := SZ24.out
          have s25 := SZ25.out
          have hApt : Apt W25.heap.size [.slice rA zr.length rc, .slice uA zu.length uc, .slice yA zy.length yc, .slice zA zz.length zc, .slice jA zj.length jc] :=
            apt5 Lr25.out.blk Lu25.out.blk Ly25.out.blk Lz25.out.blk Lj25.out.blk (by omega) (by omega) (by omega) (by omega) (by omega) (by omega) (by omega) (by omega) (by omega) (by omega)
          have hil5 : zj.length ≤ 5000 := by have := HIL.out; omega
          have hAp := Apart_try w.heap.size W25.heap.size 5 5 [.slice rA zr.length rc, .slice uA zu.length uc, .slice yA zy.length yc, .slice zA zz.length zc, .slice jA zj.length jc] [zr.length, zu.length, zy.length, zz.length, zj.length] [zr, zu, zy, zz, zj] (W25.alloc (.cells #[.slice rA zr.length rc, .slice uA zu.length uc, .slice yA zy.length yc, .slice zA zz.length zc, .slice jA zj.length jc] 26)) rfl (by omega) hApt hFam rfl (Nat.le_trans BE25.out.size (below_new _ _).size)
            (by intro k hk; simp only [List.mem_cons, List.not_mem_nil, or_false] at hk; rcases hk with rfl | rfl | rfl | rfl | rfl; exact LENr.out; exact LENu.out; exact LENy.out; exact LENz.out; exact hil5)
          have HAp := Lib.hid hAp
          clear hFam hApt hAp hil5 s6 s7 s8 s9 s10 s11 s12 s13 s14 s15 s16 s17 s18 s19 s20 s21 s22 s23 s24 s25
          obtain ⟨iS, his, hs0, hs1, hs2⟩ := info_parts infoSl
          go_upto_region 24 with fail
          iterate 34 (first | go_values | go_skip | go_guarded | go_step | go_upon)
          go_guarded
          refine wp_buildSlice 48 26 5 _ rfl #[.slice rA zr.length rc, .slice uA zu.length uc, .slice yA zy.length yc, .slice zA zz.length zc, .slice jA zj.length jc] iS (.slice none 0 0) Try.underlying48 his hs0 (by rw [hs1]; decide) (by rw [hs1]; decide) (by rw [hs1]; simp [Act.eval]; first | exact fill5 rA uA yA zA jA zr.length rc zu.length uc zy.length yc zz.length zc zj.length jc | rfl) ?_
          clear his hs0 hs1 hs2
          go_wp2_with fail
          refine HAp.out.mono ?_
          rintro e W26 ⟨rfl, hb⟩
          have BEF := Lib.hid ((BE25.out.new (Nat.le_refl _) _).trans hb)
          clear hb
          go_wp2
          go_ret
          exact ⟨rfl, BEF.out⟩
theorem Rows_big0 (R0 C0 : Int) (A0 A1 : Option Addr) (l0 : List C) (m1 k0 k1 : Nat) (i n : Int) (w : World) (hl0 : 4098 < l0.length) :
    Calls Try.prog 3 #[mval R0 C0 (.slice A0 l0.length k0), .slice A1 m1 k1, .int .i64 i, .int .i64 n] w (RetBB true w) := by
  have hd : decide ((l0.length : Int) > 4098) = true := by simp; omega
  have HL := Lib.hid (large_c R0 C0 A0 l0.length k0)
  rw [hd] at HL
  clear hd hl0
  go_enter Try.func3, Try.ntmps3
  go_wp2_with fail
  refine (HL.out _).mono ?_
  rintro e W1 ⟨rfl, hb⟩
  obtain ⟨⟨x0, x1, x2⟩, hb1, hs1⟩ := frame0 hb
  have BE1 := Lib.hid hb1
  clear hb hb1 hs1 HL
  go_wp2
  go_ret
  exact ⟨rfl, BE1.out⟩
theorem Rows_big1 (R0 C0 : Int) (A0 A1 : Option Addr) (l0 : List C) (m1 k0 k1 : Nat) (i n : Int) (w : World) (hl0 : l0.length ≤ 4098) (hm : 100 < m1) :
    Calls Try.prog 3 #[mval R0 C0 (.slice A0 l0.length k0), .slice A1 m1 k1, .int .i64 i, .int .i64 n] w (RetBB true w) := by
  have hd : decide ((l0.length : Int) > 4098) = false := by simp; omega
  have HL := Lib.hid (large_c R0 C0 A0 l0.length k0)
  rw [hd] at HL
  have hx : (100 : Int) < (m1 : Int) := by omega
  clear hd hl0
  go_enter Try.func3, Try.ntmps3
  go_wp2_with fail
  refine (HL.out _).mono ?_
  rintro e W1 ⟨rfl, hb⟩
  obtain ⟨⟨x0, x1, x2⟩, hb1, hs1⟩ := frame0 hb
  have BE1 := Lib.hid hb1
  clear hb hb1 hs1 HL
  go_wp2
  go_ret
  exact ⟨rfl, BE1.out⟩
end Go.Proofs.Ytdkcdcbbpebgmaa
namespace Go.Proofs.Ytdkcdcbbpebgmaa
open Go.RowKit Go.WideElems Go.Maps Go.Deep Fl Ieee
set_option maxRecDepth 20000
theorem MatrixRows_walk (R0 C0 : Int) (A0 : Option Addr) (l0 : List C) (k0 : Nat) (_ : l0.length ≤ k0) (_ : k0 ≤ maxLen) (_ : A0 = none → k0 = 0) {w0 : World} (hr0 : Reads w0 w0.heap.size A0 (zcells l0)) (lt0 : ltCs l0)
    (A1 : Option Addr) (l1 : List C) (k1 : Nat) (_ : l1.length ≤ k1) (_ : k1 ≤ maxLen) (_ : A1 = none → k1 = 0) (hr1 : Reads w0 w0.heap.size A1 (zcells l1)) (lt1 : ltCs l1)
    (i : Int) (_ : (Lit.int .i64 i).wf = true) (n : Int) (_ : (Lit.int .i64 n).wf = true) (w : World) (hw : w0 = w := by rfl) :
    Calls Try.prog 3 #[mval R0 C0 (.slice A0 l0.length k0), .slice A1 l1.length k1, .int .i64 i, .int .i64 n] w fun e w' => e = .returned (.bool true) ∧ Below w.heap.size w w' := by
  subst hw
  rcases Nat.lt_or_ge 4098 l0.length with h | h
  · exact Rows_big0 R0 C0 A0 A1 l0 l1.length k0 k1 i n _ h
  · rcases Nat.lt_or_ge 100 l1.length with h' | h'
    · exact Rows_big1 R0 C0 A0 A1 l0 l1.length k0 k1 i n _ h h'
    · exact Rows_small R0 C0 A0 A1 l0 l1 k0 k1 i n _ h h' hr0 hr1 lt0 lt1
/-! ### The row's step -/
namespace matrixRows_frame
open Go.ChangeShapes Go.WideShapes Go.ChangeAt Go.RowKit
theorem own : ownKnob Try.prog.godebug = none := by kernel_rfl
set_option maxRecDepth 100000 in
theorem lifted (os : Os) (started : os.Started) (H : Type) (enc : TypeId × Value → H) :
    ReturnsInHanded {} Try.checked os 3 .any (Rows.matrixRowsSpec.pre6 enc Try.prog Try.f3 Rows.matrixRowsRow.domain false) (Rows.matrixRowsSpec.post enc Try.prog Try.f3 false true false false) := by
  refine returnsInHanded_of_change (C := Try.checked) own started (by kernel_rfl) Try.func3
    (ChangeSpec.witness6 (enc := enc) (C := Try.checked) false ⟨#[], #[.agg #[.int .i64 0, .int .i64 0, .slice none 0 0], .slice none 0 0, .int .i64 0, .int .i64 0], []⟩ 8 (by kernel_rfl) (by kernel_rfl) (by kernel_rfl) (by kernel_rfl)) ?_
  intro W base args ds gs before hval0 hW hcnd _
  have hval : ∀ (j : Nat) t v, Try.f3.params[j]? = some t → args[j]? = some v → Value.okWide Try.prog W .any base t v := hval0
  have hW' := hW
  obtain ⟨p, q, hA0, hV, rfl, hfz, hnd⟩ := hW
  have hA : DataW.TrodAll enc Try.prog W 0 (fun _ => true) true Try.f3.params.toList args.toList ds p := hA0
  rw [Try.params3] at hA hval
  obtain ⟨v0, vs0, d0, ds0, p0, q0, hargs, rfl, rfl, h0, r0⟩ := trodAll_cons hA
  obtain ⟨v1, vs1, d1, ds1, p1, q1, rfl, rfl, rfl, h1, r1⟩ := trodAll_cons r0
  obtain ⟨v2, vs2, d2, ds2, p2, q2, rfl, rfl, rfl, h2, r2⟩ := trodAll_cons r1
  obtain ⟨v3, vs3, d3, ds3, p3, q3, rfl, rfl, rfl, h3, r3⟩ := trodAll_cons r2
  obtain ⟨rfl, rfl, rfl⟩ := trodAll_nil r3
  obtain rfl : args = #[v0, v1, v2, v3] := by cases args; simp_all
  obtain ⟨rfl, rfl⟩ := trodVars_none hV
  obtain ⟨R0, C0, A0, l0, k0, rfl, wr0, wc0, hk0, hm0, hn0, hrd0, hlt0⟩ := open_mat Try.underlying24 rfl rfl rfl (by kernel_rfl) (by kernel_rfl) (hval 0 24 v0 rfl rfl) h0
  obtain ⟨A1, l1, k1, rfl, hk1, hm1, hn1, hrd1, hlt1⟩ := open_zs_arg (hval 1 22 v1 rfl rfl) h1
  obtain ⟨a2, rfl, rfl, rfl, w2⟩ := open_int Try.underlying3 (hval 2 3 v2 rfl rfl) h2
  obtain ⟨a3, rfl, rfl, rfl, w3⟩ := open_int Try.underlying3 (hval 3 3 v3 rfl rfl) h3
  clear hval0
  refine (MatrixRows_walk R0 C0 A0 l0 k0 hk0 hm0 hn0 hrd0 hlt0 A1 l1 k1 hk1 hm1 hn1 hrd1 hlt1 a2 w2 a3 w3 W).mono fun e W' ⟨he, hg⟩ => ?_
  subst he
  have hT : ∀ t ∈ Try.f3.params.toList, t < Try.prog.types.size := fun t ht => of_decide_eq_true (List.all_eq_true.1 (show (Try.f3.params.toList.all fun t => decide (t < Try.prog.types.size)) = true by kernel_rfl) t ht)
  exact ⟨_, rfl, post_of_below (pv := []) hW' (fun _ _ _ => (trodAll_cons_mk (shut_bool Try.underlying4 _) trodAll_mk0)) (fun sp hsp => trodAll_move kidsP slicesP hT hA0 hg (fun p hp => hsp p (List.mem_append_left _ hp))) (fun _ _ => rfl) rfl
    hg (ok_one (by kernel_rfl) rfl (okWide_bool_mk Try.underlying4 _))⟩
theorem over : Rows.matrixRowsRow.holds Try.pinned (OpenSpec.ofChange Rows.matrixRowsSpec) :=
  OpenClaim.holds_of_wide 3 Try.f3 rfl rfl rfl rfl rfl rfl rfl ⟨rfl, rfl, rfl, rfl, rfl⟩ rfl rfl rfl rfl rfl (by kernel_rfl) Try.func3 (by kernel_rfl)
    (of_decide_eq_true (by kernel_rfl)) (by unfold Func.isWrapper; first | (rw [if_pos (by decide +kernel)]; kernel_rfl) | (rw [if_neg (by decide +kernel)]; exact ⟨rfl, rfl⟩))
    (fun os started H enc _ => lifted os started H enc)
end matrixRows_frame

/-- THE STATEMENT. -/
theorem matrixRows_holds : Rows.MatrixRowsSaid := matrixRows_frame.over
#print axioms matrixRows_holds
end Go.Proofs.Ytdkcdcbbpebgmaa
