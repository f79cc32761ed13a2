/- Layer 7's statements: sums of matrices, their transposes. -/
import Derived.Test.YtdkcdcbbpebgmaaL07A
import Derived.Test.YtdkcdcbbpebgmaaMX18
import Derived.Test.YtdkcdcbbpebgmaaMXq
namespace Go.Proofs.Ytdkcdcbbpebgmaa
open Go.RowKit Fl Ieee
set_option maxRecDepth 20000
attribute [local go_sem] run_store_float run_store_complex
/-- What a caller hands in: a matrix that lies in memory. -/
structure Mat (w : World) (A : Option Addr) (l : List C) (cap : Nat) : Prop where
  reads : Reads w w.heap.size A (nums l)
  none : A = none → cap = 0
  fits : l.length ≤ cap
  lt : ltCs l
theorem Mat.has {w W : World} {A : Option Addr} {l : List C} {cap b : Nat} {r c : Int} (h : Mat w A l cap) (hb : Below w.heap.size w W) (hx : Box W b r c (.slice A l.length cap)) (hl : b < W.heap.size) : Has W b r c A l cap :=
  ⟨hx, hl, (h.reads.below hb).more hb.size, h.none, h.fits⟩

set_option maxHeartbeats 4000000 in
theorem sums_same (r c : Nat) (A B T : Option Addr) (l0 l1 zt : List C) (k0 k1 k2 : Nat) (w : World) (hr : r ≤ 64) (hc : c ≤ 64) (hl0 : l0.length = r * c) (hl1 : l1.length = r * c) (hX : Mat w A l0 k0) (hY : Mat w B l1 k1) (hT : Mat w T zt k2)
    (hzt : zt.map cnC = entries r (fun i j => ent l0 c j i) (c * r)) :
    Calls Try.prog 59 #[mval r c (.slice A l0.length k0), mval r c (.slice B l1.length k1), mval c r (.slice T zt.length k2)] w (RetBB true w) := by
  have hb0 : Below w.heap.size w (((w.alloc (.cells #[.int .i64 r, .int .i64 c, .slice A l0.length k0] 28)).alloc (.cells #[.int .i64 r, .int .i64 c, .slice B l1.length k1] 28)).alloc (.cells #[.int .i64 c, .int .i64 r, .slice T zt.length k2] 28)) :=
    (((Below.refl _ w).new (Nat.le_refl _) _).new (Nat.le_refl _) _).new (Nat.le_refl _) _
  have HB0 := Lib.hid hb0
  have HX := Lib.hid hX
  have HY := Lib.hid hY
  have HT := Lib.hid hT
  have HL0 := Lib.hid hl0
  have HL1 := Lib.hid hl1
  have HZT := Lib.hid hzt
  have HTL := Lib.hid (len_made hzt)
  clear hb0 hX hY hT hl0 hl1 hzt
  go_enter Try.func59, Try.ntmps59
  go_wp2_with fail
  refine (Transpose_c r c B l1 k1 _ hr hc HL1.out ((HY.out.reads.below HB0.out).more HB0.out.size) HY.out.lt).mono ?_
  rintro e W1 ⟨s, zv, rfl, hz, hlz, hown, hb⟩
  obtain ⟨bx, by_, bt, hbl, hs⟩ := frame3b hb
  have hX1 := HX.out.has hbl bx (by omega)
  have hY1 := HY.out.has hbl by_ (by omega)
  have hT1 := HT.out.has hbl bt (by omega)
  have BE1 := Lib.hid hbl
  have hel := congrArg List.length hz
  rw [List.length_map] at hel
  rw [← hel] at hown
  obtain ⟨vA, vn, vc, rfl, -⟩ := slice_of_own hown
  obtain ⟨en, -, -⟩ := own_slice hown
  subst en
  have HZV := Lib.hid hz
  have HTV := Lib.hid hlz
  have PV := Lib.hid (fun o => ((Reads.of_own hown).below (below_new W1 o)).more (below_new W1 o).size)
  have OWN := Lib.hid hown
  clear hz hlz hel hown hb hbl hs bx by_ bt HB0
  have HX1 := Lib.hid hX1
  obtain ⟨⟨xa1, xb1, xc1⟩, -⟩ := hX1
  have xA1 := fun o => (HX1.out.alloc o).1.1
  have xB1 := fun o => (HX1.out.alloc o).1.2.1
  have xC1 := fun o => (HX1.out.alloc o).1.2.2
  have HY1 := Lib.hid hY1
  obtain ⟨⟨ya1, yb1, yc1⟩, -⟩ := hY1
  have yA1 := fun o => (HY1.out.alloc o).1.1
  have yB1 := fun o => (HY1.out.alloc o).1.2.1
  have yC1 := fun o => (HY1.out.alloc o).1.2.2
  have HT1 := Lib.hid hT1
  obtain ⟨⟨ta1, tb1, tc1⟩, -⟩ := hT1
  have tA1 := fun o => (HT1.out.alloc o).1.1
  have tB1 := fun o => (HT1.out.alloc o).1.2.1
  have tC1 := fun o => (HT1.out.alloc o).1.2.2
  go_wp2_with fail
  refine (MAdd_c r c A B l0 l1 k0 k1 _ hr hc HL0.out HL1.out ((HX1.out.alloc _).2.2.1) ((HY1.out.alloc _).2.2.1)).mono ?_
  rintro e W2 ⟨s, za, rfl, hz, hlz, hown, hb⟩
  obtain ⟨-, hV2, hq⟩ := Has.new OWN.out hb
  clear OWN PV
  have hX2 := HX1.out.below hq
  have hY2 := HY1.out.below hq
  have hT2 := HT1.out.below hq
  clear xa1 xb1 xc1 xA1 xB1 xC1 HX1
  have HX2 := Lib.hid hX2
  obtain ⟨⟨xa2, xb2, xc2⟩, -⟩ := hX2
  have xA2 := fun o => (HX2.out.alloc o).1.1
  have xB2 := fun o => (HX2.out.alloc o).1.2.1
  have xC2 := fun o => (HX2.out.alloc o).1.2.2
  clear ya1 yb1 yc1 yA1 yB1 yC1 HY1
  have HY2 := Lib.hid hY2
  obtain ⟨⟨ya2, yb2, yc2⟩, -⟩ := hY2
  have yA2 := fun o => (HY2.out.alloc o).1.1
  have yB2 := fun o => (HY2.out.alloc o).1.2.1
  have yC2 := fun o => (HY2.out.alloc o).1.2.2
  clear ta1 tb1 tc1 tA1 tB1 tC1 HT1
  have HT2 := Lib.hid hT2
  obtain ⟨⟨ta2, tb2, tc2⟩, -⟩ := hT2
  have tA2 := fun o => (HT2.out.alloc o).1.1
  have tB2 := fun o => (HT2.out.alloc o).1.2.1
  have tC2 := fun o => (HT2.out.alloc o).1.2.2
  have BE2 := Lib.hid (BE1.out.trans (hq.mono BE1.out.size))
  clear BE1
  have HV2 := Lib.hid hV2
  obtain ⟨⟨va2, vb2, vc2⟩, -⟩ := hV2
  have vA2 := fun o => (HV2.out.alloc o).1.1
  have vB2 := fun o => (HV2.out.alloc o).1.2.1
  have vC2 := fun o => (HV2.out.alloc o).1.2.2
  clear hq
  have hel := congrArg List.length hz
  rw [List.length_map] at hel
  rw [← hel] at hown
  obtain ⟨aA, an, ac, rfl, -⟩ := slice_of_own hown
  obtain ⟨en, -, -⟩ := own_slice hown
  subst en
  have HZA := Lib.hid hz
  have HTA := Lib.hid hlz
  have PA := Lib.hid (fun o => ((Reads.of_own hown).below (below_new W2 o)).more (below_new W2 o).size)
  have OWN := Lib.hid hown
  clear hz hlz hel hown hb
  go_wp2_with fail
  refine (MAdd_c r c B A l1 l0 k1 k0 _ hr hc HL1.out HL0.out ((HY2.out.alloc _).2.2.1) ((HX2.out.alloc _).2.2.1)).mono ?_
  rintro e W3 ⟨s, zb, rfl, hz, hlz, hown, hb⟩
  obtain ⟨-, hA3, hq⟩ := Has.new OWN.out hb
  clear OWN PA
  have hX3 := HX2.out.below hq
  have hY3 := HY2.out.below hq
  have hT3 := HT2.out.below hq
  have hV3 := HV2.out.below hq
  clear xa2 xb2 xc2 xA2 xB2 xC2 HX2
  have HX3 := Lib.hid hX3
  obtain ⟨⟨xa3, xb3, xc3⟩, -⟩ := hX3
  have xA3 := fun o => (HX3.out.alloc o).1.1
  have xB3 := fun o => (HX3.out.alloc o).1.2.1
  have xC3 := fun o => (HX3.out.alloc o).1.2.2
  clear ya2 yb2 yc2 yA2 yB2 yC2 HY2
  have HY3 := Lib.hid hY3
  obtain ⟨⟨ya3, yb3, yc3⟩, -⟩ := hY3
  have yA3 := fun o => (HY3.out.alloc o).1.1
  have yB3 := fun o => (HY3.out.alloc o).1.2.1
  have yC3 := fun o => (HY3.out.alloc o).1.2.2
  clear ta2 tb2 tc2 tA2 tB2 tC2 HT2
  have HT3 := Lib.hid hT3
  obtain ⟨⟨ta3, tb3, tc3⟩, -⟩ := hT3
  have tA3 := fun o => (HT3.out.alloc o).1.1
  have tB3 := fun o => (HT3.out.alloc o).1.2.1
  have tC3 := fun o => (HT3.out.alloc o).1.2.2
  clear va2 vb2 vc2 vA2 vB2 vC2 HV2
  have HV3 := Lib.hid hV3
  obtain ⟨⟨va3, vb3, vc3⟩, -⟩ := hV3
  have vA3 := fun o => (HV3.out.alloc o).1.1
  have vB3 := fun o => (HV3.out.alloc o).1.2.1
  have vC3 := fun o => (HV3.out.alloc o).1.2.2
  have BE3 := Lib.hid (BE2.out.trans (hq.mono BE2.out.size))
  clear BE2
  have HA3 := Lib.hid hA3
  obtain ⟨⟨aa3, ab3, ac3⟩, -⟩ := hA3
  have aA3 := fun o => (HA3.out.alloc o).1.1
  have aB3 := fun o => (HA3.out.alloc o).1.2.1
  have aC3 := fun o => (HA3.out.alloc o).1.2.2
  clear hq
  have hel := congrArg List.length hz
  rw [List.length_map] at hel
  rw [← hel] at hown
  obtain ⟨bA, bn, bc, rfl, -⟩ := slice_of_own hown
  obtain ⟨en, -, -⟩ := own_slice hown
  subst en
  have HZB := Lib.hid hz
  have HTB := Lib.hid hlz
  have PB := Lib.hid (fun o => ((Reads.of_own hown).below (below_new W3 o)).more (below_new W3 o).size)
  have OWN := Lib.hid hown
  clear hz hlz hel hown hb
  go_wp2_with fail
  refine (MAdd_c c r T vA zt zv k2 vc _ hc hr HTL.out (len_made HZV.out) ((HT3.out.alloc _).2.2.1) ((HV3.out.alloc _).2.2.1)).mono ?_
  rintro e W4 ⟨s, zc, rfl, hz, hlz, hown, hb⟩
  obtain ⟨-, hB4, hq⟩ := Has.new OWN.out hb
  clear OWN PB
  have hX4 := HX3.out.below hq
  have hY4 := HY3.out.below hq
  have hT4 := HT3.out.below hq
  have hV4 := HV3.out.below hq
  have hA4 := HA3.out.below hq
  clear xa3 xb3 xc3 xA3 xB3 xC3 HX3
  have HX4 := Lib.hid hX4
  obtain ⟨⟨xa4, xb4, xc4⟩, -⟩ := hX4
  have xA4 := fun o => (HX4.out.alloc o).1.1
  have xB4 := fun o => (HX4.out.alloc o).1.2.1
  have xC4 := fun o => (HX4.out.alloc o).1.2.2
  clear ya3 yb3 yc3 yA3 yB3 yC3 HY3
  have HY4 := Lib.hid hY4
  obtain ⟨⟨ya4, yb4, yc4⟩, -⟩ := hY4
  have yA4 := fun o => (HY4.out.alloc o).1.1
  have yB4 := fun o => (HY4.out.alloc o).1.2.1
  have yC4 := fun o => (HY4.out.alloc o).1.2.2
  clear ta3 tb3 tc3 tA3 tB3 tC3 HT3
  have HT4 := Lib.hid hT4
  obtain ⟨⟨ta4, tb4, tc4⟩, -⟩ := hT4
  have tA4 := fun o => (HT4.out.alloc o).1.1
  have tB4 := fun o => (HT4.out.alloc o).1.2.1
  have tC4 := fun o => (HT4.out.alloc o).1.2.2
  clear va3 vb3 vc3 vA3 vB3 vC3 HV3
  have HV4 := Lib.hid hV4
  obtain ⟨⟨va4, vb4, vc4⟩, -⟩ := hV4
  have vA4 := fun o => (HV4.out.alloc o).1.1
  have vB4 := fun o => (HV4.out.alloc o).1.2.1
  have vC4 := fun o => (HV4.out.alloc o).1.2.2
  clear aa3 ab3 ac3 aA3 aB3 aC3 HA3
  have HA4 := Lib.hid hA4
  obtain ⟨⟨aa4, ab4, ac4⟩, -⟩ := hA4
  have aA4 := fun o => (HA4.out.alloc o).1.1
  have aB4 := fun o => (HA4.out.alloc o).1.2.1
  have aC4 := fun o => (HA4.out.alloc o).1.2.2
  have BE4 := Lib.hid (BE3.out.trans (hq.mono BE3.out.size))
  clear BE3
  have HB4 := Lib.hid hB4
  obtain ⟨⟨ba4, bb4, bc4⟩, -⟩ := hB4
  have bA4 := fun o => (HB4.out.alloc o).1.1
  have bB4 := fun o => (HB4.out.alloc o).1.2.1
  have bC4 := fun o => (HB4.out.alloc o).1.2.2
  clear hq
  have hel := congrArg List.length hz
  rw [List.length_map] at hel
  rw [← hel] at hown
  obtain ⟨cA, cn, cc, rfl, -⟩ := slice_of_own hown
  obtain ⟨en, -, -⟩ := own_slice hown
  subst en
  have HZC := Lib.hid hz
  have HTC := Lib.hid hlz
  have PC := Lib.hid (fun o => ((Reads.of_own hown).below (below_new W4 o)).more (below_new W4 o).size)
  have OWN := Lib.hid hown
  clear hz hlz hel hown hb
  go_wp2_with fail
  refine (Transpose_c r c aA za ac _ hr hc (len_made HZA.out) ((HA4.out.alloc _).2.2.1) HTA.out).mono ?_
  rintro e W5 ⟨s, zd, rfl, hz, hlz, hown, hb⟩
  obtain ⟨-, hC5, hq⟩ := Has.new OWN.out hb
  clear OWN PC
  have hX5 := HX4.out.below hq
  have hY5 := HY4.out.below hq
  have hT5 := HT4.out.below hq
  have hV5 := HV4.out.below hq
  have hA5 := HA4.out.below hq
  have hB5 := HB4.out.below hq
  clear xa4 xb4 xc4 xA4 xB4 xC4 HX4
  have HX5 := Lib.hid hX5
  obtain ⟨⟨xa5, xb5, xc5⟩, -⟩ := hX5
  have xA5 := fun o => (HX5.out.alloc o).1.1
  have xB5 := fun o => (HX5.out.alloc o).1.2.1
  have xC5 := fun o => (HX5.out.alloc o).1.2.2
  clear ya4 yb4 yc4 yA4 yB4 yC4 HY4
  have HY5 := Lib.hid hY5
  obtain ⟨⟨ya5, yb5, yc5⟩, -⟩ := hY5
  have yA5 := fun o => (HY5.out.alloc o).1.1
  have yB5 := fun o => (HY5.out.alloc o).1.2.1
  have yC5 := fun o => (HY5.out.alloc o).1.2.2
  clear ta4 tb4 tc4 tA4 tB4 tC4 HT4
  have HT5 := Lib.hid hT5
  obtain ⟨⟨ta5, tb5, tc5⟩, -⟩ := hT5
  have tA5 := fun o => (HT5.out.alloc o).1.1
  have tB5 := fun o => (HT5.out.alloc o).1.2.1
  have tC5 := fun o => (HT5.out.alloc o).1.2.2
  clear va4 vb4 vc4 vA4 vB4 vC4 HV4
  have HV5 := Lib.hid hV5
  obtain ⟨⟨va5, vb5, vc5⟩, -⟩ := hV5
  have vA5 := fun o => (HV5.out.alloc o).1.1
  have vB5 := fun o => (HV5.out.alloc o).1.2.1
  have vC5 := fun o => (HV5.out.alloc o).1.2.2
  clear aa4 ab4 ac4 aA4 aB4 aC4 HA4
  have HA5 := Lib.hid hA5
  obtain ⟨⟨aa5, ab5, ac5⟩, -⟩ := hA5
  have aA5 := fun o => (HA5.out.alloc o).1.1
  have aB5 := fun o => (HA5.out.alloc o).1.2.1
  have aC5 := fun o => (HA5.out.alloc o).1.2.2
  clear ba4 bb4 bc4 bA4 bB4 bC4 HB4
  have HB5 := Lib.hid hB5
  obtain ⟨⟨ba5, bb5, bc5⟩, -⟩ := hB5
  have bA5 := fun o => (HB5.out.alloc o).1.1
  have bB5 := fun o => (HB5.out.alloc o).1.2.1
  have bC5 := fun o => (HB5.out.alloc o).1.2.2
  have BE5 := Lib.hid (BE4.out.trans (hq.mono BE4.out.size))
  clear BE4
  have HC5 := Lib.hid hC5
  obtain ⟨⟨ca5, cb5, cc5⟩, -⟩ := hC5
  have cA5 := fun o => (HC5.out.alloc o).1.1
  have cB5 := fun o => (HC5.out.alloc o).1.2.1
  have cC5 := fun o => (HC5.out.alloc o).1.2.2
  clear hq
  have hel := congrArg List.length hz
  rw [List.length_map] at hel
  rw [← hel] at hown
  obtain ⟨dA, dn, dc, rfl, -⟩ := slice_of_own hown
  obtain ⟨en, -, -⟩ := own_slice hown
  subst en
  have HZD := Lib.hid hz
  have HTD := Lib.hid hlz
  have PD := Lib.hid (fun o => ((Reads.of_own hown).below (below_new W5 o)).more (below_new W5 o).size)
  have OWN := Lib.hid hown
  clear hz hlz hel hown hb
  have hab : za.map cnC = zb.map cnC := by
    rw [HZA.out, HZB.out]
    exact entries_congr fun k _ => by unfold entry; exact pAdd_comm _ _
  have hcd : zc.map cnC = zd.map cnC := by
    rw [HZC.out, HZD.out]
    refine entries_congr fun k hk => ?_
    have hr0 : 0 < r := by
      rcases Nat.eq_zero_or_pos r with h | h
      · subst h; simp at hk
      · exact h
    have h1 : k / r < c := Nat.div_lt_of_lt_mul (by rw [Nat.mul_comm]; exact hk)
    have h2 : k % r < r := Nat.mod_lt _ hr0
    show pAdd (ent zt r (k / r) (k % r)) (ent zv r (k / r) (k % r)) = ent za c (k % r) (k / r)
    rw [at_made HZT.out h1 h2, at_made HZV.out h1 h2, at_made HZA.out h2 h1]
  have HAB := Lib.hid hab
  have HCD := Lib.hid hcd
  clear hab hcd
  go_wp2_with fail
  refine (SameMatrix_u r c aA bA za zb ac bc _ HAB.out (by rw [len_made HZA.out]; exact prod_small hr hc) ((HA5.out.alloc _).2.2.1) ((HB5.out.alloc _).2.2.1)).mono ?_
  rintro e W6 ⟨rfl, hb⟩
  obtain ⟨-, hD6, hq⟩ := Has.new OWN.out hb
  clear OWN PD
  have hX6 := HX5.out.below hq
  have hY6 := HY5.out.below hq
  have hT6 := HT5.out.below hq
  have hV6 := HV5.out.below hq
  have hA6 := HA5.out.below hq
  have hB6 := HB5.out.below hq
  have hC6 := HC5.out.below hq
  clear xa5 xb5 xc5 xA5 xB5 xC5 HX5
  have HX6 := Lib.hid hX6
  obtain ⟨⟨xa6, xb6, xc6⟩, -⟩ := hX6
  have xA6 := fun o => (HX6.out.alloc o).1.1
  have xB6 := fun o => (HX6.out.alloc o).1.2.1
  have xC6 := fun o => (HX6.out.alloc o).1.2.2
  clear ya5 yb5 yc5 yA5 yB5 yC5 HY5
  have HY6 := Lib.hid hY6
  obtain ⟨⟨ya6, yb6, yc6⟩, -⟩ := hY6
  have yA6 := fun o => (HY6.out.alloc o).1.1
  have yB6 := fun o => (HY6.out.alloc o).1.2.1
  have yC6 := fun o => (HY6.out.alloc o).1.2.2
  clear ta5 tb5 tc5 tA5 tB5 tC5 HT5
  have HT6 := Lib.hid hT6
  obtain ⟨⟨ta6, tb6, tc6⟩, -⟩ := hT6
  have tA6 := fun o => (HT6.out.alloc o).1.1
  have tB6 := fun o => (HT6.out.alloc o).1.2.1
  have tC6 := fun o => (HT6.out.alloc o).1.2.2
  clear va5 vb5 vc5 vA5 vB5 vC5 HV5
  have HV6 := Lib.hid hV6
  obtain ⟨⟨va6, vb6, vc6⟩, -⟩ := hV6
  have vA6 := fun o => (HV6.out.alloc o).1.1
  have vB6 := fun o => (HV6.out.alloc o).1.2.1
  have vC6 := fun o => (HV6.out.alloc o).1.2.2
  clear aa5 ab5 ac5 aA5 aB5 aC5 HA5
  have HA6 := Lib.hid hA6
  obtain ⟨⟨aa6, ab6, ac6⟩, -⟩ := hA6
  have aA6 := fun o => (HA6.out.alloc o).1.1
  have aB6 := fun o => (HA6.out.alloc o).1.2.1
  have aC6 := fun o => (HA6.out.alloc o).1.2.2
  clear ba5 bb5 bc5 bA5 bB5 bC5 HB5
  have HB6 := Lib.hid hB6
  obtain ⟨⟨ba6, bb6, bc6⟩, -⟩ := hB6
  have bA6 := fun o => (HB6.out.alloc o).1.1
  have bB6 := fun o => (HB6.out.alloc o).1.2.1
  have bC6 := fun o => (HB6.out.alloc o).1.2.2
  clear ca5 cb5 cc5 cA5 cB5 cC5 HC5
  have HC6 := Lib.hid hC6
  obtain ⟨⟨ca6, cb6, cc6⟩, -⟩ := hC6
  have cA6 := fun o => (HC6.out.alloc o).1.1
  have cB6 := fun o => (HC6.out.alloc o).1.2.1
  have cC6 := fun o => (HC6.out.alloc o).1.2.2
  have BE6 := Lib.hid (BE5.out.trans (hq.mono BE5.out.size))
  clear BE5
  have HD6 := Lib.hid hD6
  obtain ⟨⟨da6, db6, dc6⟩, -⟩ := hD6
  have dA6 := fun o => (HD6.out.alloc o).1.1
  have dB6 := fun o => (HD6.out.alloc o).1.2.1
  have dC6 := fun o => (HD6.out.alloc o).1.2.2
  clear hq
  clear hb
  go_wp2_with fail
  refine (SameMatrix_u c r cA dA zc zd cc dc _ HCD.out (by rw [len_made HZC.out]; exact prod_small hc hr) HC6.out.2.2.1 HD6.out.2.2.1).mono ?_
  rintro e W7 ⟨rfl, hb⟩
  have hX7 := HX6.out.below hb
  have hY7 := HY6.out.below hb
  have hT7 := HT6.out.below hb
  have hV7 := HV6.out.below hb
  have hA7 := HA6.out.below hb
  have hB7 := HB6.out.below hb
  have hC7 := HC6.out.below hb
  have hD7 := HD6.out.below hb
  clear xa6 xb6 xc6 xA6 xB6 xC6 HX6
  have HX7 := Lib.hid hX7
  obtain ⟨⟨xa7, xb7, xc7⟩, -⟩ := hX7
  have xA7 := fun o => (HX7.out.alloc o).1.1
  have xB7 := fun o => (HX7.out.alloc o).1.2.1
  have xC7 := fun o => (HX7.out.alloc o).1.2.2
  clear ya6 yb6 yc6 yA6 yB6 yC6 HY6
  have HY7 := Lib.hid hY7
  obtain ⟨⟨ya7, yb7, yc7⟩, -⟩ := hY7
  have yA7 := fun o => (HY7.out.alloc o).1.1
  have yB7 := fun o => (HY7.out.alloc o).1.2.1
  have yC7 := fun o => (HY7.out.alloc o).1.2.2
  clear ta6 tb6 tc6 tA6 tB6 tC6 HT6
  have HT7 := Lib.hid hT7
  obtain ⟨⟨ta7, tb7, tc7⟩, -⟩ := hT7
  have tA7 := fun o => (HT7.out.alloc o).1.1
  have tB7 := fun o => (HT7.out.alloc o).1.2.1
  have tC7 := fun o => (HT7.out.alloc o).1.2.2
  clear va6 vb6 vc6 vA6 vB6 vC6 HV6
  have HV7 := Lib.hid hV7
  obtain ⟨⟨va7, vb7, vc7⟩, -⟩ := hV7
  have vA7 := fun o => (HV7.out.alloc o).1.1
  have vB7 := fun o => (HV7.out.alloc o).1.2.1
  have vC7 := fun o => (HV7.out.alloc o).1.2.2
  clear aa6 ab6 ac6 aA6 aB6 aC6 HA6
  have HA7 := Lib.hid hA7
  obtain ⟨⟨aa7, ab7, ac7⟩, -⟩ := hA7
  have aA7 := fun o => (HA7.out.alloc o).1.1
  have aB7 := fun o => (HA7.out.alloc o).1.2.1
  have aC7 := fun o => (HA7.out.alloc o).1.2.2
  clear ba6 bb6 bc6 bA6 bB6 bC6 HB6
  have HB7 := Lib.hid hB7
  obtain ⟨⟨ba7, bb7, bc7⟩, -⟩ := hB7
  have bA7 := fun o => (HB7.out.alloc o).1.1
  have bB7 := fun o => (HB7.out.alloc o).1.2.1
  have bC7 := fun o => (HB7.out.alloc o).1.2.2
  clear ca6 cb6 cc6 cA6 cB6 cC6 HC6
  have HC7 := Lib.hid hC7
  obtain ⟨⟨ca7, cb7, cc7⟩, -⟩ := hC7
  have cA7 := fun o => (HC7.out.alloc o).1.1
  have cB7 := fun o => (HC7.out.alloc o).1.2.1
  have cC7 := fun o => (HC7.out.alloc o).1.2.2
  clear da6 db6 dc6 dA6 dB6 dC6 HD6
  have HD7 := Lib.hid hD7
  obtain ⟨⟨da7, db7, dc7⟩, -⟩ := hD7
  have dA7 := fun o => (HD7.out.alloc o).1.1
  have dB7 := fun o => (HD7.out.alloc o).1.2.1
  have dC7 := fun o => (HD7.out.alloc o).1.2.2
  have BE7 := Lib.hid (BE6.out.trans (hb.mono BE6.out.size))
  clear BE6
  clear hb
  go_wp2
  go_ret
  exact ⟨rfl, BE7.out⟩
theorem Transpose_nil (A : Option Addr) (l : List C) (cap : Nat) (w : World) (hl : l.map cnC = []) : Calls Try.prog 32 #[mval 0 0 (.slice A l.length cap)] w (RetMxE 0 0 [] 0 w) := by
  have e : l = [] := List.map_eq_nil_iff.1 hl
  subst e
  exact Transpose_c 0 0 A [] cap w (by omega) (by omega) rfl (fun h => absurd h (by simp)) (by simp [ltCs])
set_option maxHeartbeats 4000000 in
theorem sums_diff (r c p q : Nat) (A B T : Option Addr) (l0 l1 zt : List C) (k0 k1 k2 : Nat) (w : World) (hr : r ≤ 64) (hc : c ≤ 64) (hp : p ≤ 64) (hq' : q ≤ 64) (hne : r ≠ p ∨ c ≠ q) (hl0 : l0.length = r * c) (hl1 : l1.length = p * q) (hX : Mat w A l0 k0) (hY : Mat w B l1 k1) (hT : Mat w T zt k2)
    (hzt : zt.map cnC = entries r (fun i j => ent l0 c j i) (c * r)) :
    Calls Try.prog 59 #[mval r c (.slice A l0.length k0), mval p q (.slice B l1.length k1), mval c r (.slice T zt.length k2)] w (RetBB true w) := by
  have hb0 : Below w.heap.size w (((w.alloc (.cells #[.int .i64 r, .int .i64 c, .slice A l0.length k0] 28)).alloc (.cells #[.int .i64 p, .int .i64 q, .slice B l1.length k1] 28)).alloc (.cells #[.int .i64 c, .int .i64 r, .slice T zt.length k2] 28)) :=
    (((Below.refl _ w).new (Nat.le_refl _) _).new (Nat.le_refl _) _).new (Nat.le_refl _) _
  have HB0 := Lib.hid hb0
  have HX := Lib.hid hX
  have HY := Lib.hid hY
  have HT := Lib.hid hT
  have HL0 := Lib.hid hl0
  have HL1 := Lib.hid hl1
  have HZT := Lib.hid hzt
  have HTL := Lib.hid (len_made hzt)
  clear hb0 hX hY hT hl0 hl1 hzt
  go_enter Try.func59, Try.ntmps59
  go_wp2_with fail
  refine (Transpose_c p q B l1 k1 _ hp hq' HL1.out ((HY.out.reads.below HB0.out).more HB0.out.size) HY.out.lt).mono ?_
  rintro e W1 ⟨s, zv, rfl, hz, hlz, hown, hb⟩
  obtain ⟨bx, by_, bt, hbl, hs⟩ := frame3b hb
  have hX1 := HX.out.has hbl bx (by omega)
  have hY1 := HY.out.has hbl by_ (by omega)
  have hT1 := HT.out.has hbl bt (by omega)
  have BE1 := Lib.hid hbl
  have hel := congrArg List.length hz
  rw [List.length_map] at hel
  rw [← hel] at hown
  obtain ⟨vA, vn, vc, rfl, -⟩ := slice_of_own hown
  obtain ⟨en, -, -⟩ := own_slice hown
  subst en
  have HZV := Lib.hid hz
  have HTV := Lib.hid hlz
  have PV := Lib.hid (fun o => ((Reads.of_own hown).below (below_new W1 o)).more (below_new W1 o).size)
  have OWN := Lib.hid hown
  clear hz hlz hel hown hb hbl hs bx by_ bt HB0
  have hbad1 : (okM r c l0.length && okM p q l1.length && ((r : Int) == (p : Int)) && ((c : Int) == (q : Int))) = false := by
    rw [okN hr hc HL0.out, okN hp hq' HL1.out]
    rcases hne with h | h
    · have : ((r : Int) == (p : Int)) = false := by simp; omega
      rw [this]; rfl
    · have : ((c : Int) == (q : Int)) = false := by simp; omega
      rw [this]; simp
  have hbad2 : (okM p q l1.length && okM r c l0.length && ((p : Int) == (r : Int)) && ((q : Int) == (c : Int))) = false := by
    rw [okN hr hc HL0.out, okN hp hq' HL1.out]
    rcases hne with h | h
    · have : ((p : Int) == (r : Int)) = false := by simp; omega
      rw [this]; rfl
    · have : ((q : Int) == (c : Int)) = false := by simp; omega
      rw [this]; simp
  have hbad3 : (okM c r zt.length && okM q p zv.length && ((c : Int) == (q : Int)) && ((r : Int) == (p : Int))) = false := by
    rcases hne with h | h
    · have : ((r : Int) == (p : Int)) = false := by simp; omega
      rw [this]; simp
    · have : ((c : Int) == (q : Int)) = false := by simp; omega
      rw [this]; simp
  have HBad1 := Lib.hid hbad1
  have HBad2 := Lib.hid hbad2
  have HBad3 := Lib.hid hbad3
  clear hbad1 hbad2 hbad3
  have HX1 := Lib.hid hX1
  obtain ⟨⟨xa1, xb1, xc1⟩, -⟩ := hX1
  have xA1 := fun o => (HX1.out.alloc o).1.1
  have xB1 := fun o => (HX1.out.alloc o).1.2.1
  have xC1 := fun o => (HX1.out.alloc o).1.2.2
  have HY1 := Lib.hid hY1
  obtain ⟨⟨ya1, yb1, yc1⟩, -⟩ := hY1
  have yA1 := fun o => (HY1.out.alloc o).1.1
  have yB1 := fun o => (HY1.out.alloc o).1.2.1
  have yC1 := fun o => (HY1.out.alloc o).1.2.2
  have HT1 := Lib.hid hT1
  obtain ⟨⟨ta1, tb1, tc1⟩, -⟩ := hT1
  have tA1 := fun o => (HT1.out.alloc o).1.1
  have tB1 := fun o => (HT1.out.alloc o).1.2.1
  have tC1 := fun o => (HT1.out.alloc o).1.2.2
  go_wp2_with fail
  refine (MAdd_bad r c p q A B l0.length l1.length k0 k1 _ HBad1.out).mono ?_
  rintro e W2 ⟨s, za, rfl, hz, hlz, hown, hb⟩
  obtain ⟨-, hV2, hq⟩ := Has.new OWN.out hb
  clear OWN PV
  have hX2 := HX1.out.below hq
  have hY2 := HY1.out.below hq
  have hT2 := HT1.out.below hq
  clear xa1 xb1 xc1 xA1 xB1 xC1 HX1
  have HX2 := Lib.hid hX2
  obtain ⟨⟨xa2, xb2, xc2⟩, -⟩ := hX2
  have xA2 := fun o => (HX2.out.alloc o).1.1
  have xB2 := fun o => (HX2.out.alloc o).1.2.1
  have xC2 := fun o => (HX2.out.alloc o).1.2.2
  clear ya1 yb1 yc1 yA1 yB1 yC1 HY1
  have HY2 := Lib.hid hY2
  obtain ⟨⟨ya2, yb2, yc2⟩, -⟩ := hY2
  have yA2 := fun o => (HY2.out.alloc o).1.1
  have yB2 := fun o => (HY2.out.alloc o).1.2.1
  have yC2 := fun o => (HY2.out.alloc o).1.2.2
  clear ta1 tb1 tc1 tA1 tB1 tC1 HT1
  have HT2 := Lib.hid hT2
  obtain ⟨⟨ta2, tb2, tc2⟩, -⟩ := hT2
  have tA2 := fun o => (HT2.out.alloc o).1.1
  have tB2 := fun o => (HT2.out.alloc o).1.2.1
  have tC2 := fun o => (HT2.out.alloc o).1.2.2
  have BE2 := Lib.hid (BE1.out.trans (hq.mono BE1.out.size))
  clear BE1
  have HV2 := Lib.hid hV2
  obtain ⟨⟨va2, vb2, vc2⟩, -⟩ := hV2
  have vA2 := fun o => (HV2.out.alloc o).1.1
  have vB2 := fun o => (HV2.out.alloc o).1.2.1
  have vC2 := fun o => (HV2.out.alloc o).1.2.2
  clear hq
  have hel := congrArg List.length hz
  rw [List.length_map] at hel
  rw [← hel] at hown
  obtain ⟨aA, an, ac, rfl, -⟩ := slice_of_own hown
  obtain ⟨en, -, -⟩ := own_slice hown
  subst en
  have HZA := Lib.hid hz
  have HTA := Lib.hid hlz
  have PA := Lib.hid (fun o => ((Reads.of_own hown).below (below_new W2 o)).more (below_new W2 o).size)
  have OWN := Lib.hid hown
  clear hz hlz hel hown hb
  go_wp2_with fail
  refine (MAdd_bad p q r c B A l1.length l0.length k1 k0 _ HBad2.out).mono ?_
  rintro e W3 ⟨s, zb, rfl, hz, hlz, hown, hb⟩
  obtain ⟨-, hA3, hq⟩ := Has.new OWN.out hb
  clear OWN PA
  have hX3 := HX2.out.below hq
  have hY3 := HY2.out.below hq
  have hT3 := HT2.out.below hq
  have hV3 := HV2.out.below hq
  clear xa2 xb2 xc2 xA2 xB2 xC2 HX2
  have HX3 := Lib.hid hX3
  obtain ⟨⟨xa3, xb3, xc3⟩, -⟩ := hX3
  have xA3 := fun o => (HX3.out.alloc o).1.1
  have xB3 := fun o => (HX3.out.alloc o).1.2.1
  have xC3 := fun o => (HX3.out.alloc o).1.2.2
  clear ya2 yb2 yc2 yA2 yB2 yC2 HY2
  have HY3 := Lib.hid hY3
  obtain ⟨⟨ya3, yb3, yc3⟩, -⟩ := hY3
  have yA3 := fun o => (HY3.out.alloc o).1.1
  have yB3 := fun o => (HY3.out.alloc o).1.2.1
  have yC3 := fun o => (HY3.out.alloc o).1.2.2
  clear ta2 tb2 tc2 tA2 tB2 tC2 HT2
  have HT3 := Lib.hid hT3
  obtain ⟨⟨ta3, tb3, tc3⟩, -⟩ := hT3
  have tA3 := fun o => (HT3.out.alloc o).1.1
  have tB3 := fun o => (HT3.out.alloc o).1.2.1
  have tC3 := fun o => (HT3.out.alloc o).1.2.2
  clear va2 vb2 vc2 vA2 vB2 vC2 HV2
  have HV3 := Lib.hid hV3
  obtain ⟨⟨va3, vb3, vc3⟩, -⟩ := hV3
  have vA3 := fun o => (HV3.out.alloc o).1.1
  have vB3 := fun o => (HV3.out.alloc o).1.2.1
  have vC3 := fun o => (HV3.out.alloc o).1.2.2
  have BE3 := Lib.hid (BE2.out.trans (hq.mono BE2.out.size))
  clear BE2
  have HA3 := Lib.hid hA3
  obtain ⟨⟨aa3, ab3, ac3⟩, -⟩ := hA3
  have aA3 := fun o => (HA3.out.alloc o).1.1
  have aB3 := fun o => (HA3.out.alloc o).1.2.1
  have aC3 := fun o => (HA3.out.alloc o).1.2.2
  clear hq
  have hel := congrArg List.length hz
  rw [List.length_map] at hel
  rw [← hel] at hown
  obtain ⟨bA, bn, bc, rfl, -⟩ := slice_of_own hown
  obtain ⟨en, -, -⟩ := own_slice hown
  subst en
  have HZB := Lib.hid hz
  have HTB := Lib.hid hlz
  have PB := Lib.hid (fun o => ((Reads.of_own hown).below (below_new W3 o)).more (below_new W3 o).size)
  have OWN := Lib.hid hown
  clear hz hlz hel hown hb
  go_wp2_with fail
  refine (MAdd_bad c r q p T vA zt.length zv.length k2 vc _ HBad3.out).mono ?_
  rintro e W4 ⟨s, zc, rfl, hz, hlz, hown, hb⟩
  obtain ⟨-, hB4, hq⟩ := Has.new OWN.out hb
  clear OWN PB
  have hX4 := HX3.out.below hq
  have hY4 := HY3.out.below hq
  have hT4 := HT3.out.below hq
  have hV4 := HV3.out.below hq
  have hA4 := HA3.out.below hq
  clear xa3 xb3 xc3 xA3 xB3 xC3 HX3
  have HX4 := Lib.hid hX4
  obtain ⟨⟨xa4, xb4, xc4⟩, -⟩ := hX4
  have xA4 := fun o => (HX4.out.alloc o).1.1
  have xB4 := fun o => (HX4.out.alloc o).1.2.1
  have xC4 := fun o => (HX4.out.alloc o).1.2.2
  clear ya3 yb3 yc3 yA3 yB3 yC3 HY3
  have HY4 := Lib.hid hY4
  obtain ⟨⟨ya4, yb4, yc4⟩, -⟩ := hY4
  have yA4 := fun o => (HY4.out.alloc o).1.1
  have yB4 := fun o => (HY4.out.alloc o).1.2.1
  have yC4 := fun o => (HY4.out.alloc o).1.2.2
  clear ta3 tb3 tc3 tA3 tB3 tC3 HT3
  have HT4 := Lib.hid hT4
  obtain ⟨⟨ta4, tb4, tc4⟩, -⟩ := hT4
  have tA4 := fun o => (HT4.out.alloc o).1.1
  have tB4 := fun o => (HT4.out.alloc o).1.2.1
  have tC4 := fun o => (HT4.out.alloc o).1.2.2
  clear va3 vb3 vc3 vA3 vB3 vC3 HV3
  have HV4 := Lib.hid hV4
  obtain ⟨⟨va4, vb4, vc4⟩, -⟩ := hV4
  have vA4 := fun o => (HV4.out.alloc o).1.1
  have vB4 := fun o => (HV4.out.alloc o).1.2.1
  have vC4 := fun o => (HV4.out.alloc o).1.2.2
  clear aa3 ab3 ac3 aA3 aB3 aC3 HA3
  have HA4 := Lib.hid hA4
  obtain ⟨⟨aa4, ab4, ac4⟩, -⟩ := hA4
  have aA4 := fun o => (HA4.out.alloc o).1.1
  have aB4 := fun o => (HA4.out.alloc o).1.2.1
  have aC4 := fun o => (HA4.out.alloc o).1.2.2
  have BE4 := Lib.hid (BE3.out.trans (hq.mono BE3.out.size))
  clear BE3
  have HB4 := Lib.hid hB4
  obtain ⟨⟨ba4, bb4, bc4⟩, -⟩ := hB4
  have bA4 := fun o => (HB4.out.alloc o).1.1
  have bB4 := fun o => (HB4.out.alloc o).1.2.1
  have bC4 := fun o => (HB4.out.alloc o).1.2.2
  clear hq
  have hel := congrArg List.length hz
  rw [List.length_map] at hel
  rw [← hel] at hown
  obtain ⟨cA, cn, cc, rfl, -⟩ := slice_of_own hown
  obtain ⟨en, -, -⟩ := own_slice hown
  subst en
  have HZC := Lib.hid hz
  have HTC := Lib.hid hlz
  have PC := Lib.hid (fun o => ((Reads.of_own hown).below (below_new W4 o)).more (below_new W4 o).size)
  have OWN := Lib.hid hown
  clear hz hlz hel hown hb
  go_wp2_with fail
  refine (Transpose_nil aA za ac _ HZA.out).mono ?_
  rintro e W5 ⟨s, zd, rfl, hz, hlz, hown, hb⟩
  obtain ⟨-, hC5, hq⟩ := Has.new OWN.out hb
  clear OWN PC
  have hX5 := HX4.out.below hq
  have hY5 := HY4.out.below hq
  have hT5 := HT4.out.below hq
  have hV5 := HV4.out.below hq
  have hA5 := HA4.out.below hq
  have hB5 := HB4.out.below hq
  clear xa4 xb4 xc4 xA4 xB4 xC4 HX4
  have HX5 := Lib.hid hX5
  obtain ⟨⟨xa5, xb5, xc5⟩, -⟩ := hX5
  have xA5 := fun o => (HX5.out.alloc o).1.1
  have xB5 := fun o => (HX5.out.alloc o).1.2.1
  have xC5 := fun o => (HX5.out.alloc o).1.2.2
  clear ya4 yb4 yc4 yA4 yB4 yC4 HY4
  have HY5 := Lib.hid hY5
  obtain ⟨⟨ya5, yb5, yc5⟩, -⟩ := hY5
  have yA5 := fun o => (HY5.out.alloc o).1.1
  have yB5 := fun o => (HY5.out.alloc o).1.2.1
  have yC5 := fun o => (HY5.out.alloc o).1.2.2
  clear ta4 tb4 tc4 tA4 tB4 tC4 HT4
  have HT5 := Lib.hid hT5
  obtain ⟨⟨ta5, tb5, tc5⟩, -⟩ := hT5
  have tA5 := fun o => (HT5.out.alloc o).1.1
  have tB5 := fun o => (HT5.out.alloc o).1.2.1
  have tC5 := fun o => (HT5.out.alloc o).1.2.2
  clear va4 vb4 vc4 vA4 vB4 vC4 HV4
  have HV5 := Lib.hid hV5
  obtain ⟨⟨va5, vb5, vc5⟩, -⟩ := hV5
  have vA5 := fun o => (HV5.out.alloc o).1.1
  have vB5 := fun o => (HV5.out.alloc o).1.2.1
  have vC5 := fun o => (HV5.out.alloc o).1.2.2
  clear aa4 ab4 ac4 aA4 aB4 aC4 HA4
  have HA5 := Lib.hid hA5
  obtain ⟨⟨aa5, ab5, ac5⟩, -⟩ := hA5
  have aA5 := fun o => (HA5.out.alloc o).1.1
  have aB5 := fun o => (HA5.out.alloc o).1.2.1
  have aC5 := fun o => (HA5.out.alloc o).1.2.2
  clear ba4 bb4 bc4 bA4 bB4 bC4 HB4
  have HB5 := Lib.hid hB5
  obtain ⟨⟨ba5, bb5, bc5⟩, -⟩ := hB5
  have bA5 := fun o => (HB5.out.alloc o).1.1
  have bB5 := fun o => (HB5.out.alloc o).1.2.1
  have bC5 := fun o => (HB5.out.alloc o).1.2.2
  have BE5 := Lib.hid (BE4.out.trans (hq.mono BE4.out.size))
  clear BE4
  have HC5 := Lib.hid hC5
  obtain ⟨⟨ca5, cb5, cc5⟩, -⟩ := hC5
  have cA5 := fun o => (HC5.out.alloc o).1.1
  have cB5 := fun o => (HC5.out.alloc o).1.2.1
  have cC5 := fun o => (HC5.out.alloc o).1.2.2
  clear hq
  have hel := congrArg List.length hz
  rw [List.length_map] at hel
  rw [← hel] at hown
  obtain ⟨dA, dn, dc, rfl, -⟩ := slice_of_own hown
  obtain ⟨en, -, -⟩ := own_slice hown
  subst en
  have HZD := Lib.hid hz
  have HTD := Lib.hid hlz
  have PD := Lib.hid (fun o => ((Reads.of_own hown).below (below_new W5 o)).more (below_new W5 o).size)
  have OWN := Lib.hid hown
  clear hz hlz hel hown hb
  have hzl : za.length = 0 := by have := congrArg List.length HZA.out; simpa using this
  by_cases h1 : r = p
  · subst h1
    have h2 : ((c : Int) == (q : Int)) = false := by
      rcases hne with h | h
      · exact absurd rfl h
      · simp; omega
    clear hne hzl
    go_wp2
    all_goals
      go_ret
      exact ⟨rfl, BE5.out.trans ((below_new W5 _).mono BE5.out.size)⟩
  · have h2 : ((r : Int) == (p : Int)) = false := by simp; omega
    clear hne hzl h1
    go_wp2
    all_goals
      go_ret
      exact ⟨rfl, BE5.out.trans ((below_new W5 _).mono BE5.out.size)⟩
end Go.Proofs.Ytdkcdcbbpebgmaa
namespace Go.Proofs.Ytdkcdcbbpebgmaa
open Go.RowKit Fl Ieee
set_option maxRecDepth 20000
attribute [local go_sem] run_store_float run_store_complex Fl.order_self Fl.order_self' Fl.order_eq Fl.order_ne Fl.order_lt Fl.order_gt
theorem fin_ent {l : List C} {r c i j : Nat} (hf : l.all finC = true) (hl : l.length = r * c) (hi : i < r) (hj : j < c) : pFinite (ent l c i j) = true := by
  unfold ent
  rw [pFinite_cnC]
  exact List.all_eq_true.1 hf _ (List.mem_of_getElem? (at_ok hl hi hj))
theorem zqC_equal {a b : C} (h : zqC a b) (hf : pFinite b = true) : pEqual a b = true := by
  unfold pFinite at hf
  rw [Bool.and_eq_true] at hf
  have n1 : ∀ {x y : Nat}, zq x y → isFin double y = true → isNaN double x = false := fun h hf => by
    have := zq_fin h (fin_of_isFin hf)
    unfold fin at this; unfold isNaN; simp; omega
  exact zqC.equal h (n1 h.1 hf.1) (n1 h.2 hf.2)
/-- Entry by entry equal. -/
theorem allLike_ents {zs l : List C} {r c : Nat} {E : Nat → Nat → C} (hz : zs.map cnC = entries c E (r * c)) (hl : l.length = r * c) (h : ∀ i j, i < r → j < c → pEqual (E i j) (ent l c i j) = true) : allLike pEqual zs l = true := by
  refine allLike_t fun k hk => ?_
  rw [len_made hz] at hk
  have hc0 : 0 < c := by
    rcases Nat.eq_zero_or_pos c with h | h
    · subst h; simp at hk
    · exact h
  have h1 : k / c < r := Nat.div_lt_of_lt_mul (by rw [Nat.mul_comm]; exact hk)
  have h2 : k % c < c := Nat.mod_lt _ hc0
  have e : k / c * c + k % c = k := by rw [Nat.mul_comm]; exact Nat.div_add_mod k c
  have h3 := h _ _ h1 h2
  rw [← at_made hz h1 h2] at h3
  unfold ent at h3
  rw [e] at h3; exact h3
set_option maxHeartbeats 4000000 in
theorem times_c (r c : Nat) (A : Option Addr) (l : List C) (cap : Nat) (w : World) (hr : r ≤ 64) (hc : c ≤ 64) (hl : l.length = r * c) (hX : Mat w A l cap) :
    Calls Try.prog 60 #[mval r c (.slice A l.length cap)] w (RetBB true w) := by
  have hb0 : Below w.heap.size w (w.alloc (.cells #[.int .i64 r, .int .i64 c, .slice A l.length cap] 28)) := below_new w _
  have HB0 := Lib.hid hb0
  have HXm := Lib.hid hX
  have HL := Lib.hid hl
  have hsm := prod_small hr hc
  rw [← hl] at hsm
  have HSm := Lib.hid hsm
  clear hb0 hX hl hsm
  go_enter Try.func60, Try.ntmps60
  go_wp2_with fail
  refine (bb_of_b (FiniteNumbers_c A l cap _ HXm.out.lt (by have := HSm.out; omega) ((HXm.out.reads.below HB0.out).more HB0.out.size))).mono ?_
  rintro e W1 ⟨rfl, hb⟩
  obtain ⟨bx, hbl, hs⟩ := frame0 hb
  have hX1 := HXm.out.has hbl bx hs
  have BE1 := Lib.hid hbl
  clear hb hbl hs bx HB0
  cases hf : l.all finC
  · go_wp2
    go_ret
    exact ⟨rfl, BE1.out⟩
  have HF := Lib.hid hf
  clear hf
  have HX1 := Lib.hid hX1
  obtain ⟨⟨xa1, xb1, xc1⟩, -⟩ := hX1
  have xA1 := fun o => (HX1.out.alloc o).1.1
  have xB1 := fun o => (HX1.out.alloc o).1.2.1
  have xC1 := fun o => (HX1.out.alloc o).1.2.2
  go_wp2_with fail
  refine (Identity_c r _ hr).mono ?_
  rintro e W2 ⟨s, zp, rfl, hz, hlz, hown, hb⟩
  have hX2 := HX1.out.below hb
  clear xa1 xb1 xc1 xA1 xB1 xC1 HX1
  have HX2 := Lib.hid hX2
  obtain ⟨⟨xa2, xb2, xc2⟩, -⟩ := hX2
  have xA2 := fun o => (HX2.out.alloc o).1.1
  have xB2 := fun o => (HX2.out.alloc o).1.2.1
  have xC2 := fun o => (HX2.out.alloc o).1.2.2
  have BE2 := Lib.hid (BE1.out.trans (hb.mono BE1.out.size))
  clear BE1
  have hel := congrArg List.length hz
  rw [List.length_map] at hel
  rw [← hel] at hown
  obtain ⟨pA, pn, pc, rfl, -⟩ := slice_of_own hown
  obtain ⟨en, -, -⟩ := own_slice hown
  subst en
  have HZP := Lib.hid hz
  have HTP := Lib.hid hlz
  have PP := Lib.hid (fun o => ((Reads.of_own hown).below (below_new W2 o)).more (below_new W2 o).size)
  have OWN := Lib.hid hown
  clear hz hlz hel hown hb
  go_wp2_with fail
  refine (Identity_c c _ hc).mono ?_
  rintro e W3 ⟨s, zq, rfl, hz, hlz, hown, hb⟩
  obtain ⟨-, hP3, hq⟩ := Has.new OWN.out hb
  clear OWN PP
  have hX3 := HX2.out.below hq
  clear xa2 xb2 xc2 xA2 xB2 xC2 HX2
  have HX3 := Lib.hid hX3
  obtain ⟨⟨xa3, xb3, xc3⟩, -⟩ := hX3
  have xA3 := fun o => (HX3.out.alloc o).1.1
  have xB3 := fun o => (HX3.out.alloc o).1.2.1
  have xC3 := fun o => (HX3.out.alloc o).1.2.2
  have BE3 := Lib.hid (BE2.out.trans (hq.mono BE2.out.size))
  clear BE2
  have HP3 := Lib.hid hP3
  obtain ⟨⟨pa3, pb3, pc3⟩, -⟩ := hP3
  have pA3 := fun o => (HP3.out.alloc o).1.1
  have pB3 := fun o => (HP3.out.alloc o).1.2.1
  have pC3 := fun o => (HP3.out.alloc o).1.2.2
  clear hq
  have hel := congrArg List.length hz
  rw [List.length_map] at hel
  rw [← hel] at hown
  obtain ⟨qA, qn, qc, rfl, -⟩ := slice_of_own hown
  obtain ⟨en, -, -⟩ := own_slice hown
  subst en
  have HZQ := Lib.hid hz
  have HTQ := Lib.hid hlz
  have PQ := Lib.hid (fun o => ((Reads.of_own hown).below (below_new W3 o)).more (below_new W3 o).size)
  have OWN := Lib.hid hown
  clear hz hlz hel hown hb
  go_wp2_with fail
  refine (MMul_c r r c pA A zp l pc cap _ hr hr hc (len_made HZP.out) HL.out ((HP3.out.alloc _).2.2.1) ((HX3.out.alloc _).2.2.1)).mono ?_
  rintro e W4 ⟨s, za, rfl, hz, hlz, hown, hb⟩
  obtain ⟨-, hQ4, hq⟩ := Has.new OWN.out hb
  clear OWN PQ
  have hX4 := HX3.out.below hq
  have hP4 := HP3.out.below hq
  clear xa3 xb3 xc3 xA3 xB3 xC3 HX3
  have HX4 := Lib.hid hX4
  obtain ⟨⟨xa4, xb4, xc4⟩, -⟩ := hX4
  have xA4 := fun o => (HX4.out.alloc o).1.1
  have xB4 := fun o => (HX4.out.alloc o).1.2.1
  have xC4 := fun o => (HX4.out.alloc o).1.2.2
  clear pa3 pb3 pc3 pA3 pB3 pC3 HP3
  have HP4 := Lib.hid hP4
  obtain ⟨⟨pa4, pb4, pc4⟩, -⟩ := hP4
  have pA4 := fun o => (HP4.out.alloc o).1.1
  have pB4 := fun o => (HP4.out.alloc o).1.2.1
  have pC4 := fun o => (HP4.out.alloc o).1.2.2
  have BE4 := Lib.hid (BE3.out.trans (hq.mono BE3.out.size))
  clear BE3
  have HQ4 := Lib.hid hQ4
  obtain ⟨⟨qa4, qb4, qc4⟩, -⟩ := hQ4
  have qA4 := fun o => (HQ4.out.alloc o).1.1
  have qB4 := fun o => (HQ4.out.alloc o).1.2.1
  have qC4 := fun o => (HQ4.out.alloc o).1.2.2
  clear hq
  have hel := congrArg List.length hz
  rw [List.length_map] at hel
  rw [← hel] at hown
  obtain ⟨aA, an, ac, rfl, -⟩ := slice_of_own hown
  obtain ⟨en, -, -⟩ := own_slice hown
  subst en
  have HZA := Lib.hid hz
  have HTA := Lib.hid hlz
  have PA := Lib.hid (fun o => ((Reads.of_own hown).below (below_new W4 o)).more (below_new W4 o).size)
  have OWN := Lib.hid hown
  clear hz hlz hel hown hb
  go_wp2_with fail
  refine (MMul_c r c c A qA l zq cap qc _ hr hc hc HL.out (len_made HZQ.out) ((HX4.out.alloc _).2.2.1) ((HQ4.out.alloc _).2.2.1)).mono ?_
  rintro e W5 ⟨s, zb, rfl, hz, hlz, hown, hb⟩
  obtain ⟨-, hA5, hq⟩ := Has.new OWN.out hb
  clear OWN PA
  have hX5 := HX4.out.below hq
  have hP5 := HP4.out.below hq
  have hQ5 := HQ4.out.below hq
  clear xa4 xb4 xc4 xA4 xB4 xC4 HX4
  have HX5 := Lib.hid hX5
  obtain ⟨⟨xa5, xb5, xc5⟩, -⟩ := hX5
  have xA5 := fun o => (HX5.out.alloc o).1.1
  have xB5 := fun o => (HX5.out.alloc o).1.2.1
  have xC5 := fun o => (HX5.out.alloc o).1.2.2
  clear pa4 pb4 pc4 pA4 pB4 pC4 HP4
  have HP5 := Lib.hid hP5
  obtain ⟨⟨pa5, pb5, pc5⟩, -⟩ := hP5
  have pA5 := fun o => (HP5.out.alloc o).1.1
  have pB5 := fun o => (HP5.out.alloc o).1.2.1
  have pC5 := fun o => (HP5.out.alloc o).1.2.2
  clear qa4 qb4 qc4 qA4 qB4 qC4 HQ4
  have HQ5 := Lib.hid hQ5
  obtain ⟨⟨qa5, qb5, qc5⟩, -⟩ := hQ5
  have qA5 := fun o => (HQ5.out.alloc o).1.1
  have qB5 := fun o => (HQ5.out.alloc o).1.2.1
  have qC5 := fun o => (HQ5.out.alloc o).1.2.2
  have BE5 := Lib.hid (BE4.out.trans (hq.mono BE4.out.size))
  clear BE4
  have HA5 := Lib.hid hA5
  obtain ⟨⟨aa5, ab5, ac5⟩, -⟩ := hA5
  have aA5 := fun o => (HA5.out.alloc o).1.1
  have aB5 := fun o => (HA5.out.alloc o).1.2.1
  have aC5 := fun o => (HA5.out.alloc o).1.2.2
  clear hq
  have hel := congrArg List.length hz
  rw [List.length_map] at hel
  rw [← hel] at hown
  obtain ⟨bA, bn, bc, rfl, -⟩ := slice_of_own hown
  obtain ⟨en, -, -⟩ := own_slice hown
  subst en
  have HZB := Lib.hid hz
  have HTB := Lib.hid hlz
  have PB := Lib.hid (fun o => ((Reads.of_own hown).below (below_new W5 o)).more (below_new W5 o).size)
  have OWN := Lib.hid hown
  clear hz hlz hel hown hb
  go_wp2_with fail
  refine (MSub_c r c A A l l cap cap _ hr hc HL.out HL.out ((HX5.out.alloc _).2.2.1) ((HX5.out.alloc _).2.2.1)).mono ?_
  rintro e W6 ⟨s, zc, rfl, hz, hlz, hown, hb⟩
  obtain ⟨-, hB6, hq⟩ := Has.new OWN.out hb
  clear OWN PB
  have hX6 := HX5.out.below hq
  have hP6 := HP5.out.below hq
  have hQ6 := HQ5.out.below hq
  have hA6 := HA5.out.below hq
  clear xa5 xb5 xc5 xA5 xB5 xC5 HX5
  have HX6 := Lib.hid hX6
  obtain ⟨⟨xa6, xb6, xc6⟩, -⟩ := hX6
  have xA6 := fun o => (HX6.out.alloc o).1.1
  have xB6 := fun o => (HX6.out.alloc o).1.2.1
  have xC6 := fun o => (HX6.out.alloc o).1.2.2
  clear pa5 pb5 pc5 pA5 pB5 pC5 HP5
  have HP6 := Lib.hid hP6
  obtain ⟨⟨pa6, pb6, pc6⟩, -⟩ := hP6
  have pA6 := fun o => (HP6.out.alloc o).1.1
  have pB6 := fun o => (HP6.out.alloc o).1.2.1
  have pC6 := fun o => (HP6.out.alloc o).1.2.2
  clear qa5 qb5 qc5 qA5 qB5 qC5 HQ5
  have HQ6 := Lib.hid hQ6
  obtain ⟨⟨qa6, qb6, qc6⟩, -⟩ := hQ6
  have qA6 := fun o => (HQ6.out.alloc o).1.1
  have qB6 := fun o => (HQ6.out.alloc o).1.2.1
  have qC6 := fun o => (HQ6.out.alloc o).1.2.2
  clear aa5 ab5 ac5 aA5 aB5 aC5 HA5
  have HA6 := Lib.hid hA6
  obtain ⟨⟨aa6, ab6, ac6⟩, -⟩ := hA6
  have aA6 := fun o => (HA6.out.alloc o).1.1
  have aB6 := fun o => (HA6.out.alloc o).1.2.1
  have aC6 := fun o => (HA6.out.alloc o).1.2.2
  have BE6 := Lib.hid (BE5.out.trans (hq.mono BE5.out.size))
  clear BE5
  have HB6 := Lib.hid hB6
  obtain ⟨⟨ba6, bb6, bc6⟩, -⟩ := hB6
  have bA6 := fun o => (HB6.out.alloc o).1.1
  have bB6 := fun o => (HB6.out.alloc o).1.2.1
  have bC6 := fun o => (HB6.out.alloc o).1.2.2
  clear hq
  have hel := congrArg List.length hz
  rw [List.length_map] at hel
  rw [← hel] at hown
  obtain ⟨cA, cn, cc, rfl, -⟩ := slice_of_own hown
  obtain ⟨en, -, -⟩ := own_slice hown
  subst en
  have HZC := Lib.hid hz
  have HTC := Lib.hid hlz
  have PC := Lib.hid (fun o => ((Reads.of_own hown).below (below_new W6 o)).more (below_new W6 o).size)
  have OWN := Lib.hid hown
  clear hz hlz hel hown hb
  have hea : allLike pEqual za l = true := allLike_ents HZA.out HL.out fun i j hi hj =>
    zqC_equal (dot_idl hi HXm.out.lt (fun n hn => at_made HZP.out hi hn) (fun n hn => fin_ent HF.out HL.out hn hj)) (fin_ent HF.out HL.out hi hj)
  have heb : allLike pEqual zb l = true := allLike_ents HZB.out HL.out fun i j hi hj =>
    zqC_equal (dot_idr hj HXm.out.lt (fun n hn => at_made HZQ.out hn hj) (fun n hn => fin_ent HF.out HL.out hi hn)) (fin_ent HF.out HL.out hi hj)
  have HEA := Lib.hid hea
  have HEB := Lib.hid heb
  clear hea heb
  go_wp2_with fail
  refine ((HEA.out ▸ MEqual_c r c aA A za l ac cap _ (okN hr hc (len_made HZA.out)) (okN hr hc HL.out) ((HA6.out.alloc _).2.2.1) ((HX6.out.alloc _).2.2.1) : Calls _ _ _ _ (RetBB true _))).mono ?_
  rintro e W7 ⟨rfl, hb⟩
  obtain ⟨-, hC7, hq⟩ := Has.new OWN.out hb
  clear OWN PC
  have hX7 := HX6.out.below hq
  have hP7 := HP6.out.below hq
  have hQ7 := HQ6.out.below hq
  have hA7 := HA6.out.below hq
  have hB7 := HB6.out.below hq
  clear xa6 xb6 xc6 xA6 xB6 xC6 HX6
  have HX7 := Lib.hid hX7
  obtain ⟨⟨xa7, xb7, xc7⟩, -⟩ := hX7
  have xA7 := fun o => (HX7.out.alloc o).1.1
  have xB7 := fun o => (HX7.out.alloc o).1.2.1
  have xC7 := fun o => (HX7.out.alloc o).1.2.2
  clear pa6 pb6 pc6 pA6 pB6 pC6 HP6
  have HP7 := Lib.hid hP7
  obtain ⟨⟨pa7, pb7, pc7⟩, -⟩ := hP7
  have pA7 := fun o => (HP7.out.alloc o).1.1
  have pB7 := fun o => (HP7.out.alloc o).1.2.1
  have pC7 := fun o => (HP7.out.alloc o).1.2.2
  clear qa6 qb6 qc6 qA6 qB6 qC6 HQ6
  have HQ7 := Lib.hid hQ7
  obtain ⟨⟨qa7, qb7, qc7⟩, -⟩ := hQ7
  have qA7 := fun o => (HQ7.out.alloc o).1.1
  have qB7 := fun o => (HQ7.out.alloc o).1.2.1
  have qC7 := fun o => (HQ7.out.alloc o).1.2.2
  clear aa6 ab6 ac6 aA6 aB6 aC6 HA6
  have HA7 := Lib.hid hA7
  obtain ⟨⟨aa7, ab7, ac7⟩, -⟩ := hA7
  have aA7 := fun o => (HA7.out.alloc o).1.1
  have aB7 := fun o => (HA7.out.alloc o).1.2.1
  have aC7 := fun o => (HA7.out.alloc o).1.2.2
  clear ba6 bb6 bc6 bA6 bB6 bC6 HB6
  have HB7 := Lib.hid hB7
  obtain ⟨⟨ba7, bb7, bc7⟩, -⟩ := hB7
  have bA7 := fun o => (HB7.out.alloc o).1.1
  have bB7 := fun o => (HB7.out.alloc o).1.2.1
  have bC7 := fun o => (HB7.out.alloc o).1.2.2
  have BE7 := Lib.hid (BE6.out.trans (hq.mono BE6.out.size))
  clear BE6
  have HC7 := Lib.hid hC7
  obtain ⟨⟨ca7, cb7, cc7⟩, -⟩ := hC7
  have cA7 := fun o => (HC7.out.alloc o).1.1
  have cB7 := fun o => (HC7.out.alloc o).1.2.1
  have cC7 := fun o => (HC7.out.alloc o).1.2.2
  clear hq
  clear hb
  go_wp2_with fail
  refine ((HEB.out ▸ MEqual_c r c bA A zb l bc cap _ (okN hr hc (len_made HZB.out)) (okN hr hc HL.out) HB7.out.2.2.1 HX7.out.2.2.1 : Calls _ _ _ _ (RetBB true _))).mono ?_
  rintro e W8 ⟨rfl, hb⟩
  have hX8 := HX7.out.below hb
  have hP8 := HP7.out.below hb
  have hQ8 := HQ7.out.below hb
  have hA8 := HA7.out.below hb
  have hB8 := HB7.out.below hb
  have hC8 := HC7.out.below hb
  clear xa7 xb7 xc7 xA7 xB7 xC7 HX7
  have HX8 := Lib.hid hX8
  obtain ⟨⟨xa8, xb8, xc8⟩, -⟩ := hX8
  have xA8 := fun o => (HX8.out.alloc o).1.1
  have xB8 := fun o => (HX8.out.alloc o).1.2.1
  have xC8 := fun o => (HX8.out.alloc o).1.2.2
  clear pa7 pb7 pc7 pA7 pB7 pC7 HP7
  have HP8 := Lib.hid hP8
  obtain ⟨⟨pa8, pb8, pc8⟩, -⟩ := hP8
  have pA8 := fun o => (HP8.out.alloc o).1.1
  have pB8 := fun o => (HP8.out.alloc o).1.2.1
  have pC8 := fun o => (HP8.out.alloc o).1.2.2
  clear qa7 qb7 qc7 qA7 qB7 qC7 HQ7
  have HQ8 := Lib.hid hQ8
  obtain ⟨⟨qa8, qb8, qc8⟩, -⟩ := hQ8
  have qA8 := fun o => (HQ8.out.alloc o).1.1
  have qB8 := fun o => (HQ8.out.alloc o).1.2.1
  have qC8 := fun o => (HQ8.out.alloc o).1.2.2
  clear aa7 ab7 ac7 aA7 aB7 aC7 HA7
  have HA8 := Lib.hid hA8
  obtain ⟨⟨aa8, ab8, ac8⟩, -⟩ := hA8
  have aA8 := fun o => (HA8.out.alloc o).1.1
  have aB8 := fun o => (HA8.out.alloc o).1.2.1
  have aC8 := fun o => (HA8.out.alloc o).1.2.2
  clear ba7 bb7 bc7 bA7 bB7 bC7 HB7
  have HB8 := Lib.hid hB8
  obtain ⟨⟨ba8, bb8, bc8⟩, -⟩ := hB8
  have bA8 := fun o => (HB8.out.alloc o).1.1
  have bB8 := fun o => (HB8.out.alloc o).1.2.1
  have bC8 := fun o => (HB8.out.alloc o).1.2.2
  clear ca7 cb7 cc7 cA7 cB7 cC7 HC7
  have HC8 := Lib.hid hC8
  obtain ⟨⟨ca8, cb8, cc8⟩, -⟩ := hC8
  have cA8 := fun o => (HC8.out.alloc o).1.1
  have cB8 := fun o => (HC8.out.alloc o).1.2.1
  have cC8 := fun o => (HC8.out.alloc o).1.2.2
  have BE8 := Lib.hid (BE7.out.trans (hb.mono BE7.out.size))
  clear BE7
  clear hb
  have hcl : zc.length = l.length := by rw [len_made HZC.out, HL.out]
  have HCL := Lib.hid hcl
  rw [hcl] at cc8
  clear hcl
  go_wp2
  go_loop [13] (fun i => ∃ k : Nat, k ≤ l.length ∧ i = .int .i64 (k : Nat)) (fun i => l.length - (intOf i).toNat)
  case atStart => exact ⟨0, Nat.zero_le _, rfl⟩
  case round =>
    obtain ⟨k, hk, rfl⟩ := hrel
    have hkb : k < 4611686018427387904 := by have := HSm.out; omega
    by_cases hlt : k < l.length
    · obtain ⟨z, hz⟩ := some_of_lt (l := zc) (k := k) (by rw [HCL.out]; exact hlt)
      have hv : (nums zc)[k]? = some (.complex .f64 z.1 z.2) := by simp [nums, hz]
      obtain ⟨ad, rfl, -, hcell⟩ := HC8.out.2.2.1.at_ hv
      have hnz : feq .f64 z.1 0 = true ∧ feq .f64 z.2 0 = true := by
        have hk2 : k < r * c := by rw [← HL.out]; exact hlt
        have hc0 : 0 < c := by
          rcases Nat.eq_zero_or_pos c with h | h
          · subst h; simp at hk2
          · exact h
        have h1 : k / c < r := Nat.div_lt_of_lt_mul (by rw [Nat.mul_comm]; exact hk2)
        have h2 : k % c < c := Nat.mod_lt _ hc0
        have e : k / c * c + k % c = k := by rw [Nat.mul_comm]; exact Nat.div_add_mod k c
        have h3 := at_made HZC.out h1 h2
        have h3' : ent zc c (k / c) (k % c) = cnC z := by unfold ent; rw [e, List.getD_eq_getElem?_getD, hz]; rfl
        have h4 : cnC z = pSub (ent l c (k / c) (k % c)) (ent l c (k / c) (k % c)) := h3'.symm.trans h3
        have h5 := sub_self_zero (ltC_ent HXm.out.lt c (k / c) (k % c)) (fin_ent HF.out HL.out h1 h2)
        rw [← h4] at h5
        exact ⟨(feq_cn0 z.1).trans h5.1, (feq_cn0 z.2).trans h5.2⟩
      have hn1 := hnz.1
      have hn2 := hnz.2
      clear hz hv hnz
      go_wp2
      go_round
      case rel => exact ⟨k + 1, hlt, by go_num⟩
      case measure => simp [intOf]; omega
    · have e : k = l.length := by omega
      subst e
      go_wp2
      go_ret
      exact ⟨rfl, BE8.out⟩
end Go.Proofs.Ytdkcdcbbpebgmaa
