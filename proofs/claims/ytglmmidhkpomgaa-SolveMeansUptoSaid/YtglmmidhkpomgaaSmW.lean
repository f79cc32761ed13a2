/- Layer 10, SolveMeans: the walk . -/
import Derived.Test.YtglmmidhkpomgaaT14
namespace Go.Proofs.Ytglmmidhkpomgaa
open Go.RowKit Fl Ieee
set_option maxRecDepth 20000
attribute [local go_sem] run_store_float run_store_complex Fl.order_self Fl.order_self' Fl.order_eq Fl.order_ne Fl.order_lt Fl.order_gt
theorem RetMx.liesT {w w' : World} {r c M : Nat} {l : List C} {e : Ending} (h : RetMx r c l w e w') (hM : l.length = M) (hf : ∀ z ∈ l, pFinite z = true) : ∃ A cap, e = .returned (mval r c (.slice A M cap)) ∧ Reads w' w'.heap.size A (nums l) ∧ Below w.heap.size w w' := by
  obtain ⟨s, zs, rfl, hz, hlz, hown, hb⟩ := h
  rw [exact_of hz hf] at hown
  obtain ⟨A, cap, rfl, hrd, -, -⟩ := own_reads hown
  exact ⟨A, cap, by rw [hM], hrd, hb⟩
/-- The row that is being reckoned; all else of the world W0 stays. -/
structure MeS (W0 W : World) (rb n : Nat) (zs : Nat → C) : Prop where
  bel : Below W0.heap.size W0 W
  lo : W0.heap.size ≤ rb
  x : W.heap[rb]? = some (.cells (nums ((List.range n).map zs)).toArray 43)
  lt : ∀ j, j < n → ltC (zs j)
namespace MeS
variable {W0 W V : World} {rb n : Nat} {zs : Nat → C}
theorem cellX (h : MeS W0 W rb n zs) {i : Nat} (hi : i < n) : W.cell? ⟨rb, i, none⟩ = some (.complex .f64 (zs i).1 (zs i).2) := by
  rw [cell_of_row W rb i _ _ _ h.x]
  simp [nums, hi]
theorem frozenX (h : MeS W0 W rb n zs) (i : Nat) : W.frozen? ⟨rb, i, none⟩ = false := frozen_of_row W rb i _ _ h.x
theorem put (h : MeS W0 W rb n zs) {i : Nat} {z : C} (hi : i < n) (hz : ltC z) : MeS W0 (W.setCell ⟨rb, i, none⟩ (.complex .f64 z.1 z.2)) rb n (putX zs i z) where
  bel := h.bel.setCell h.lo _
  lo := h.lo
  x := by
    rw [heap_setCell_same W rb i _ _ _ h.x]
    congr 2
    rw [← map_put]
    simp
  lt j hj := by
    by_cases e : j = i
    · subst e; rw [putX_same]; exact hz
    · rw [putX_other e]; exact h.lt j hj
theorem below (h : MeS W0 W rb n zs) (hb : Below W.heap.size W V) : MeS W0 V rb n zs := ⟨h.bel.trans (hb.mono h.bel.size), h.lo, row_keep hb h.x, h.lt⟩
end MeS
/-- What stands while it is reckoned: the boxes of L and U, the rows that are read. -/
structure MeE (W0 : World) (b1 b2 n M : Nat) (Al Au Ao Ab A5 : Option Addr) (kl ku : Nat) (S : El) (x rs : List C) : Prop where
  b1 : W0.heap[b1]? = some (.cells #[.int .i64 (n : Nat), .int .i64 (n : Nat), .slice Al M kl] 32)
  b2 : W0.heap[b2]? = some (.cells #[.int .i64 (n : Nat), .int .i64 (n : Nat), .slice Au M ku] 32)
  rl : Reads W0 W0.heap.size Al (nums (entries n (lowE S) (n * n)))
  ru : Reads W0 W0.heap.size Au (nums (entries n (uppE S) (n * n)))
  ro : Reads W0 W0.heap.size Ao (intsV (ordL n S.o))
  rb : Reads W0 W0.heap.size Ab (nums x)
  rs : Reads W0 W0.heap.size A5 (nums rs)
theorem addr10 (g j : Nat) : (Addr.add ⟨g, 0, none⟩ j) = ⟨g, j, none⟩ := by unfold Addr.add; split <;> simp_all
theorem reads_row {W : World} {b : Nat} {xs : List Value} {t : TypeId} (h : W.heap[b]? = some (.cells xs.toArray t)) : Reads W W.heap.size (some ⟨b, 0, none⟩) xs := fun _ =>
  ⟨_, rfl, row_lt h, fun j u hu => by
    rw [addr10, cell_of_row W b j _ _ _ h]
    simpa using hu⟩
theorem at10_c {n M : Nat} (E : Nat → Nat → C) (A : Option Addr) (cap i k : Nat) (W : World) (hM : M = n * n) (hn : n ≤ 64) (hi : i < n) (hk : k < n) (hr : Reads W W.heap.size A (nums (entries n E (n * n)))) :
    Calls Try.prog 21 #[mval n n (.slice A M cap), .int .i64 (i : Nat), .int .i64 (k : Nat)] W fun e w' => e = .returned (.complex .f64 (E i k).1 (E i k).2) ∧ Below W.heap.size W w' := by
  have hev := ent_get E hi hk
  obtain ⟨r, hr'⟩ : ∃ r, r = i * n := ⟨_, rfl⟩
  have hr4 : r ≤ 4096 := by rw [hr']; exact prod_small (by omega) hn
  have h1 : (i + 1) * n ≤ n * n := Nat.mul_le_mul_right _ hi
  rw [Nat.add_mul, Nat.one_mul, ← hM, ← hr'] at h1
  have hM4 : M ≤ 4096 := by rw [hM]; exact prod_small hn hn
  obtain ⟨q, hq⟩ : ∃ q, q = r + k := ⟨_, rfl⟩
  have hqM : q < M := by omega
  rw [← hr', ← hq] at hev
  obtain ⟨z, hz⟩ : ∃ z, z = E i k := ⟨_, rfl⟩
  rw [← hz] at hev ⊢
  obtain ⟨ad, rfl, hb, hcell⟩ := hr.at_ hev
  have hcell2 : ∀ o, (W.alloc o).cell? (ad.add q) = some (.complex .f64 z.1 z.2) := fun o => by
    rw [World.cell?_alloc_lt W o (ad.add q) (by rw [block_of_add]; omega)]; exact hcell
  have hm1 : (i : Int) * (n : Int) = (r : Int) := by rw [hr', Int.natCast_mul]
  have hm2 : (r : Int) + (k : Int) = (q : Int) := by omega
  have hqi : (q : Int) < (M : Int) := Int.ofNat_lt.2 hqM
  have b1 : (r : Int) ≤ 4096 := by omega
  have b2 : (q : Int) ≤ 4096 := by omega
  have n1 : decide ((q : Int) < 0) = false := by simp
  clear hev hr' hr4 h1 hM4 hq hqM hz hr hb hcell hM hn hi hk
  go_enter Try.func21, Try.ntmps21
  go_wp2
  go_ret; exact ⟨rfl, below_new _ _⟩
set_option linter.unusedSimpArgs false in
set_option maxHeartbeats 40000000 in
theorem Means10 (n : Int) (A : Option Addr) (l : List C) (cap : Nat) (B : Option Addr) (x : List C) (capx : Nat) (w : World) (hr : Reads w w.heap.size A (zcells l)) (hlt : ltCs l) (hrx : Reads w w.heap.size B (zcells x)) (hltx : ltCs x) (hx : x.length ≤ 1000000) :
    Calls Try.prog 3 #[.int .i64 n, .slice A l.length cap, .slice B x.length capx] w fun e w' => e = .returned (.bool true) ∧ Below w.heap.size w w' := by
  obtain ⟨m, hm⟩ : ∃ m : Int, m = n % 17 := ⟨_, rfl⟩
  have hP := Lib.hid (fun W => Pick_c n 17 (by omega) (by omega) W)
  rw [← hm] at hP
  have HR := Lib.hid hr
  have HLt := Lib.hid hlt
  have HRx := Lib.hid hrx
  have HLx := Lib.hid hltx
  have HSq := Lib.hid (fun (V : World) (hV : Reads V V.heap.size A (zcells l)) => Square_c m A l cap V hV)
  obtain ⟨N, hN⟩ : ∃ N, N = sqN m := ⟨_, rfl⟩
  have hN64 : N ≤ 64 := by rw [hN]; exact sqN_le m
  obtain ⟨M, hM⟩ : ∃ M, M = N * N := ⟨_, rfl⟩
  obtain ⟨L, hL⟩ : ∃ L, L = sqL l M := ⟨_, rfl⟩
  rw [← hN, ← hM, ← hL] at HSq
  have HLl := Lib.hid (show L.length = M by rw [hL]; exact sqL_len _ _)
  have HLL := Lib.hid (show ltCs L by rw [hL]; exact sqL_lt hlt _)
  have HM := Lib.hid hM
  clear hr hlt hrx hltx hm hN hM hL
  go_enter Try.func3, Try.ntmps3
  go_wp2_with fail
  refine (awake10_c w).mono ?_
  rintro e W1 ⟨rfl, hb1⟩
  have B1 := Lib.hid hb1
  have HR1 := Lib.hid ((HR.out.below hb1).more hb1.size)
  have HRx1 := Lib.hid ((HRx.out.below hb1).more hb1.size)
  clear hb1 HR HRx
  go_wp2_with fail
  refine (hP.out _).mono ?_
  rintro e W2 ⟨rfl, rfl⟩
  go_wp2_with fail
  refine (HSq.out _ HR1.out).mono ?_
  rintro e W2 hr
  obtain ⟨A1, c1, rfl, hrd, hle, -, -, hb⟩ := hr.lies
  rw [HLl.out] at hle ⊢
  have B2 := Lib.hid (B1.out.trans (hb.mono B1.out.size))
  have HRx2 := Lib.hid ((HRx1.out.below hb).more hb.size)
  have hOf := Of_c N N A1 L c1 W2 (by rw [HLl.out]; exact hle) hrd HLL.out
  rw [HLl.out, Int.toNat_natCast] at hOf
  have HOf := Lib.hid hOf
  clear hr hrd hle hb hOf HR1 HRx1
  obtain ⟨f1, f2, hf⟩ : ∃ f1 f2, ofF N N L = (f1, f2) := ⟨_, _, rfl⟩
  rw [hf] at HOf
  have HFf := Lib.hid hf
  clear hf
  by_cases h0 : f1 = 0
  · subst h0
    have hlen : L.length = N * N := by rw [HLl.out, HM.out]
    obtain ⟨HLf0, hf0, hrun⟩ := of_fin hN64 hlen (by rw [HFf.out])
    have h2 : f2 = 0 := by have h3 := HFf.out; rw [hf0] at h3; exact (Prod.mk.inj h3).2.symm
    subst h2
    obtain ⟨S, hS⟩ : ∃ S, S = ofS N L := ⟨_, rfl⟩
    have HSf := Lib.hid (show finTo S.E N by rw [hS]; unfold ofS; simp only [Int.toNat_natCast]; exact elRun_fin (matE_fin hlen HLf0) N (Nat.le_refl _))
    have HPerm := Lib.hid (show Perm N S.o by rw [hS]; unfold ofS; simp only [Int.toNat_natCast]; exact run_perm (S := S0 L N) ⟨fun _ hi => hi, fun _ _ _ _ h => h⟩ N (Nat.le_refl _))
    have HG1 := Lib.hid (HOf.out.mono fun e w' h => h.ok rfl)
    rw [← hS] at HG1
    have HN64 := Lib.hid hN64
    clear hlen HLf0 hf0 hrun hS HOf hN64
    go_wp2_with fail
    refine HG1.out.mono ?_
    rintro e W3 ⟨b, rfl, h9, hb⟩
    have N3 := Lib.hid (show NW w (W3.alloc (.cells #[.int .i64 0, .int .i64 0] 27)) N W2.heap.size b S from (NW.mk h9 (B2.out.trans (hb.mono B2.out.size))).new _)
    have HRx3 := Lib.hid ((((HRx2.out.below hb).more hb.size).below (below_new W3 (.cells #[.int .i64 0, .int .i64 0] 27))).more (below_new W3 (.cells #[.int .i64 0, .int .i64 0] 27)).size)
    clear hb h9 HRx2 HG1
    go_wp2_with fail
    refine (Numbers_c B x capx _ hx HRx3.out).mono ?_
    rintro e W4 ⟨s, rfl, hown, hb⟩
    obtain ⟨Ab, kb, rfl, hrb, -, -⟩ := own_reads hown
    have N4 := Lib.hid (N3.out.below hb)
    have HRb := Lib.hid hrb
    clear hown hb hrb
    by_cases hE : bErr N x = 0
    · have hxn : x.length = N := by
        by_cases h : x.length = N
        · exact h
        · unfold bErr at hE; rw [if_neg h] at hE; cases hE
      have hxf : ∀ z ∈ x, pFinite z = true := by
        unfold bErr at hE
        rw [if_pos hxn] at hE
        by_cases h : badAt x < x.length
        · rw [if_pos h] at hE; cases hE
        · exact badAt_all h
      have HSv0 := Solve_run Ab x kb W4 N4.out.x HSf.out HPerm.out HN64.out hxn hxf HLx.out HRb.out
      obtain ⟨er, her⟩ : ∃ er : Int, er = if solOk N S x then 0 else 6 := ⟨_, rfl⟩
      obtain ⟨rs, hrs⟩ : ∃ rs : List C, rs = if solOk N S x then solL N S x else [] := ⟨_, rfl⟩
      rw [← her, ← hrs] at HSv0
      have HSv := Lib.hid HSv0
      have HEr := Lib.hid her
      have HRs := Lib.hid hrs
      have HXn := Lib.hid hxn
      have HXf := Lib.hid hxf
      have hall : x.all finC = true := List.all_eq_true.2 fun z hz => hxf z hz
      have HAll := Lib.hid hall
      clear hE hxn hxf HSv0 her hrs hall
      go_wp2_with fail
      refine HSv.out.mono ?_
      rintro e W5 ⟨s5, rfl, hown, hb⟩
      obtain ⟨A5, k5, rfl, hr5, -, -⟩ := own_reads hown
      have N5 := Lib.hid (N4.out.below hb)
      have HRb5 := Lib.hid ((HRb.out.below hb).more hb.size)
      have HR5 := Lib.hid hr5
      clear hown hb hr5 HSv
      go_wp2_with fail
      refine (Size_c _ N5.out.x).mono ?_
      rintro e w' ⟨rfl, rfl⟩
      have HFn := Lib.hid (FiniteNumbers_c Ab x kb W5 HLx.out (by omega) HRb5.out)
      rw [HAll.out] at HFn
      have hln : ((x.length : Int)) = (N : Int) := by rw [HXn.out]
      go_wp2_with fail
      refine HFn.out.mono ?_
      rintro e W6 ⟨d, rfl, hw⟩
      have hb : Below W5.heap.size W5 W6 := by rw [hw]; exact below_drewN (Below.refl _ _) d
      have N6 := Lib.hid (N5.out.below hb)
      have HRb6 := Lib.hid ((HRb5.out.below hb).more hb.size)
      have HR6 := Lib.hid ((HR5.out.below hb).more hb.size)
      clear hw hb HFn HRb5 HR5
      go_wp2_with fail
      refine (L_c _ N6.out.x HSf.out HN64.out).mono ?_
      rintro e W7 hr
      have HEl := Lib.hid (show (entries N (lowE S) (N * N)).length = M by rw [HM.out]; simp [entries])
      have HEu := Lib.hid (show (entries N (uppE S) (N * N)).length = M by rw [HM.out]; simp [entries])
      obtain ⟨Al, kl, rfl, hrl, hb⟩ := RetMx.liesT hr HEl.out (entries_fin (low_fin HSf.out))
      have N7 := Lib.hid (N6.out.below hb)
      have HRb7 := Lib.hid ((HRb6.out.below hb).more hb.size)
      have HR7 := Lib.hid ((HR6.out.below hb).more hb.size)
      have HL7 := Lib.hid hrl
      clear hr hrl hb HRb6 HR6
      go_wp2_with fail
      refine (U_c _ N7.out.x HSf.out HN64.out).mono ?_
      rintro e W8 hr
      obtain ⟨Au, ku, rfl, hru, hb⟩ := RetMx.liesT hr HEu.out (entries_fin (upp_fin HSf.out))
      have N8 := Lib.hid (N7.out.below hb)
      have HRb8 := Lib.hid ((HRb7.out.below hb).more hb.size)
      have HR8 := Lib.hid ((HR7.out.below hb).more hb.size)
      have HL8 := Lib.hid ((HL7.out.below hb).more hb.size)
      have HU8 := Lib.hid hru
      clear hr hru hb HRb7 HR7 HL7
      go_wp2_with fail
      refine (Order_c _ N8.out.x HN64.out).mono ?_
      rintro e W9 hr
      obtain ⟨Ao, ko, rfl, hro, -, hb⟩ := hr.lies
      have N9 := Lib.hid (N8.out.below hb)
      have HRb9 := Lib.hid ((HRb8.out.below hb).more hb.size)
      have HR9 := Lib.hid ((HR8.out.below hb).more hb.size)
      have HL9 := Lib.hid ((HL8.out.below hb).more hb.size)
      have HU9 := Lib.hid ((HU8.out.below hb).more hb.size)
      have HO9 := Lib.hid hro
      clear hr hro hb HRb8 HR8 HL8 HU8
      have hmk := run_make_row' (P := Try.prog) 30 43 (.complex .f64 0 0) 16 Try.underlying30 infoNum rfl .i64 .i64 N (by have := HN64.out; omega) (by have := HN64.out; omega)
      go_wp2
      obtain ⟨W0, hW0⟩ : ∃ W0 : World, W0 = (W9.alloc (.cells #[.int .i64 (N : Nat), .int .i64 (N : Nat), .slice Al M kl] 32)).alloc (.cells #[.int .i64 (N : Nat), .int .i64 (N : Nat), .slice Au M ku] 32) := ⟨_, rfl⟩
      rw [← hW0]
      have hB0 : Below W9.heap.size W9 W0 := by rw [hW0]; exact (below_new W9 _).new (Nat.le_refl _) _
      have hsz : W0.heap.size = W9.heap.size + 1 + 1 := by rw [hW0]; simp
      have HE := Lib.hid (show MeE W0 W9.heap.size (W9.heap.size + 1) N M Al Au Ao Ab A5 kl ku S x rs from
        { b1 := by rw [hW0]; exact row_alloc (heap_alloc_new W9 _)
          b2 := by rw [hW0]; exact row_new2 _ _ _
          rl := (HL9.out.below hB0).more hB0.size
          ru := (HU9.out.below hB0).more hB0.size
          ro := (HO9.out.below hB0).more hB0.size
          rb := (HRb9.out.below hB0).more hB0.size
          rs := (HR9.out.below hB0).more hB0.size })
      have HS0 := Lib.hid (show MeS W0 (W0.alloc (.cells (madeCells #[.complex .f64 0 0] N) 43)) (W9.heap.size + 1 + 1) N (fun _ => (0, 0)) from
        { bel := below_new W0 _
          lo := by rw [hsz]; exact Nat.le_refl _
          x := by
            rw [show ((List.range N).map fun _ => ((0, 0) : C)) = List.replicate N (0, 0) by rw [List.map_const', List.length_range], ← mk_nums, ← hsz]
            exact heap_alloc_new W0 _
          lt := fun _ _ => ⟨by decide, by decide⟩ })
      have HB0 := Lib.hid hB0
      have HLtS := Lib.hid (show ∀ i, i < N → ltC (S.E i i) from fun i hi => by obtain ⟨_, _, _, _, _, _, _, hl⟩ := N9.out.x.num hi hi; exact hl)
      obtain ⟨bb, hbb⟩ : ∃ bb, bb = bOf x := ⟨_, rfl⟩
      have HBB := Lib.hid hbb
      clear hW0 hB0 hsz hbb hmk HRb9 HR9 HL9 HU9 HO9
      go_loopw [18, 19] (fun fv iv wr => ∃ (i0 : Nat) (zs : Nat → C) (f : Bool), i0 ≤ N ∧ iv = .int .i64 (i0 : Nat) ∧ fv = .bool f ∧ MeS W0 wr (W9.heap.size + 1 + 1) N zs ∧ (∀ j, j < i0 → cnC (zs j) = fwd (lowE S) S.o bb i0 j) ∧ f = fwdFine (lowE S) S.o bb i0) (fun _ iv _ => N - (intOf iv).toNat)
      case atStart => exact ⟨0, _, true, Nat.zero_le _, rfl, rfl, HS0.out, fun j h => by omega, rfl⟩
      case round =>
        obtain ⟨i0, zs, f, hi0, rfl, rfl, hs, hz, hf⟩ := hrel
        have HS := Lib.hid hs
        have HZ := Lib.hid hz
        have HFl := Lib.hid hf
        have hib : (i0 : Int) + 1 ≤ 65 := by have := HN64.out; omega
        clear hs hz hf
        by_cases hlt : i0 < N
        · have hlti : (i0 : Int) < (N : Int) := Int.ofNat_lt.2 hlt
          obtain ⟨p, hp⟩ : ∃ p, p = S.o i0 := ⟨_, rfl⟩
          have hpn : p < N := by rw [hp]; exact HPerm.out.1 _ hlt
          have hpi : (p : Int) < (N : Int) := Int.ofNat_lt.2 hpn
          have hov := ord_get S.o hlt
          rw [← hp] at hov
          obtain ⟨ado, rfl, -, hco⟩ := (HE.out.ro.below HS.out.bel).at_ hov
          have hbl : p < x.length := by rw [HXn.out]; exact hpn
          have hbli : (p : Int) < (x.length : Int) := Int.ofNat_lt.2 hbl
          obtain ⟨u, hu⟩ := some_of_lt hbl
          have hbv : (nums x)[p]? = some (.complex .f64 u.1 u.2) := by simp [nums, hu]
          obtain ⟨adb, rfl, -, hcb⟩ := (HE.out.rb.below HS.out.bel).at_ hbv
          have hub : u = bb (S.o i0) := by rw [HBB.out, ← hp]; unfold bOf; rw [List.getD_eq_getElem?_getD, hu]; rfl
          have HU := Lib.hid hub
          have HUf := Lib.hid (HXf.out u (List.mem_of_getElem? hu))
          have HUl := Lib.hid (HLx.out u (List.mem_of_getElem? hu))
          have hcx := HS.out.cellX hlt
          have hfx := HS.out.frozenX i0
          have HS1 := Lib.hid (HS.out.put hlt HUl.out)
          clear hp hov hu hbv hub hbl
          go_wp2
          clear hcx hfx hco hcb
          go_loopw [18, 20] (fun fv kv wr => ∃ (k0 : Nat) (zs : Nat → C) (f : Bool), k0 ≤ i0 ∧ kv = .int .i64 (k0 : Nat) ∧ fv = .bool f ∧ MeS W0 wr (W9.heap.size + 1 + 1) N zs ∧ (∀ j, j < i0 → cnC (zs j) = fwd (lowE S) S.o bb i0 j) ∧ cnC (zs i0) = accTo (lowE S i0) (fwd (lowE S) S.o bb i0) 0 (bb (S.o i0)) k0 ∧ f = (fwdFine (lowE S) S.o bb i0 && accFine (lowE S i0) (fwd (lowE S) S.o bb i0) 0 (bb (S.o i0)) k0)) (fun _ kv _ => i0 - (intOf kv).toNat)
          case atStart =>
            refine ⟨0, _, _, Nat.zero_le _, rfl, rfl, HS1.out, fun j hj => ?_, ?_, ?_⟩
            · rw [putX_other (by omega)]; exact HZ.out j hj
            · rw [putX_same, ← HU.out]; exact fin_cn HUf.out
            · rw [HFl.out]; simp [accFine]
          case round =>
            obtain ⟨k0, zs, f, hk0, rfl, rfl, hs, hz, hzi, hf⟩ := hrel
            have HS := Lib.hid hs
            have HZ := Lib.hid hz
            have HZi := Lib.hid hzi
            have HFl := Lib.hid hf
            have hkb : (k0 : Int) + 1 ≤ 65 := by omega
            clear hs hz hzi hf
            by_cases hk : k0 < i0
            · have hki : (k0 : Int) < (i0 : Int) := Int.ofNat_lt.2 hk
              have hkn : k0 < N := by omega
              have hkni : (k0 : Int) < (N : Int) := Int.ofNat_lt.2 hkn
              obtain ⟨lv, hlv⟩ : ∃ lv, lv = lowE S i0 k0 := ⟨_, rfl⟩
              obtain ⟨zi, hzi⟩ : ∃ zi, zi = zs i0 := ⟨_, rfl⟩
              obtain ⟨zk, hzk⟩ : ∃ zk, zk = zs k0 := ⟨_, rfl⟩
              have HKX := Lib.hid (fun (V : World) (hV : Below wr.heap.size wr V) => (show V.cell? ⟨(W9.heap.size + 1 + 1), i0, none⟩ = some (.complex .f64 zi.1 zi.2) ∧ V.cell? ⟨(W9.heap.size + 1 + 1), k0, none⟩ = some (.complex .f64 zk.1 zk.2) ∧ V.frozen? ⟨(W9.heap.size + 1 + 1), i0, none⟩ = false from by
                rw [hzi, hzk]; exact ⟨(HS.out.below hV).cellX hlt, (HS.out.below hV).cellX hkn, (HS.out.below hV).frozenX i0⟩))
              have HKB := Lib.hid (fun (V : World) (hV : Below wr.heap.size wr V) => box3 (row_keep (HS.out.bel.trans (hV.mono HS.out.bel.size)) HE.out.b1))
              have HAt := Lib.hid (fun (V : World) (hV : Below wr.heap.size wr V) => (show Calls Try.prog 21 #[mval N N (.slice Al M kl), .int .i64 (i0 : Nat), .int .i64 (k0 : Nat)] V (fun e w' => e = .returned (.complex .f64 lv.1 lv.2) ∧ Below wr.heap.size wr w') from by
                rw [hlv]
                have h2 := HS.out.bel.trans (hV.mono HS.out.bel.size)
                exact (at10_c (lowE S) Al kl i0 k0 V HM.out HN64.out hlt hkn ((HE.out.rl.below h2).more h2.size)).mono fun e w' h => ⟨h.1, hV.trans (h.2.mono hV.size)⟩))
              have HMul := Lib.hid (fun (V : World) (hV : Below wr.heap.size wr V) => (show Calls Try.prog 20 #[.complex .f64 lv.1 lv.2, .complex .f64 zk.1 zk.2] V (fun e w' => ∃ m : C, e = .returned (.complex .f64 m.1 m.2) ∧ cnC m = pMul (cnC lv) (cnC zk) ∧ Below wr.heap.size wr w') from (Mul_c lv.1 lv.2 zk.1 zk.2 V).mono fun e w' ⟨p, q, n, he, hv, _, _, hw⟩ => ⟨(p, q), he, hv, by rw [hw]; exact below_drewN hV n⟩))
              have hval : pSub (cnC zi) (pMul (cnC lv) (cnC zk)) = accTo (lowE S i0) (fwd (lowE S) S.o bb i0) 0 (bb (S.o i0)) (k0 + 1) := by
                rw [hzi, HZi.out, hlv, fin_cn (low_fin HSf.out i0 k0 hlt hkn), hzk, HZ.out k0 hk]
                show _ = pSub _ (pMul (lowE S i0 (0 + k0)) (fwd (lowE S) S.o bb i0 (0 + k0)))
                rw [Nat.zero_add]
              obtain ⟨nv, hnv⟩ : ∃ nv, nv = accTo (lowE S i0) (fwd (lowE S) S.o bb i0) 0 (bb (S.o i0)) (k0 + 1) := ⟨_, rfl⟩
              rw [← hnv] at hval
              have HSub := Lib.hid (fun (m : C) (V : World) (hm : cnC m = pMul (cnC lv) (cnC zk)) (hV : Below wr.heap.size wr V) => (show Calls Try.prog 19 #[.complex .f64 zi.1 zi.2, .complex .f64 m.1 m.2] V (fun e w' => ∃ z : C, e = .returned (.complex .f64 z.1 z.2) ∧ cnC z = nv ∧ ltC z ∧ Below wr.heap.size wr w') from (Sub_c zi.1 zi.2 m.1 m.2 V).mono fun e w' ⟨p, q, n, he, hv, hp, hq, hw⟩ =>
                ⟨(p, q), he, by have h : (cn .f64 p, cn .f64 q) = pSub (cnC zi) (cnC m) := hv; rw [hm, hval] at h; exact h, ⟨hp, hq⟩, by rw [hw]; exact below_drewN hV n⟩))
              have HNv := Lib.hid hnv
              clear hlv hzi hzk hval hnv
              go_wp2_with fail
              refine wp_region_K 17 (by kernel_rfl) (Below wr.heap.size wr) (by kernel_rfl) (fun hsel hcl => ?_)
              have hW0 := (Below.refl wr.heap.size wr).drew
              refine wpAnyK_takeFree (i := 0) (v := ?va0) rfl hsel hcl (by kernel_rfl) (by kernel_rfl) rfl (fun _ _ _ h => h) rfl hW0 ?hya0 (fun hcl => ?ha0)
              case hya0 => (intro w'; go_simp; first | done | with_reducible rfl)
              simp only [Act.put, List.setIfInBounds_toArray, List.set_cons_zero, List.set_cons_succ]
              refine wpAnyK_takeFree (i := 1) (v := ?va1) rfl hsel hcl (by kernel_rfl) (by kernel_rfl) rfl (fun _ _ _ h => h) rfl hW0 ?hya1 (fun hcl => ?ha1)
              case hya1 => (intro w'; go_simp; first | done | with_reducible rfl)
              simp only [Act.put, List.setIfInBounds_toArray, List.set_cons_zero, List.set_cons_succ]
              refine wpAnyK_takeFree (i := 2) (v := ?va2) rfl hsel hcl (by kernel_rfl) (by kernel_rfl) rfl (fun _ _ _ h => h) rfl hW0 ?hya2 (fun hcl => ?ha2)
              case hya2 => (intro w'; go_simp; first | done | with_reducible rfl)
              simp only [Act.put, List.setIfInBounds_toArray, List.set_cons_zero, List.set_cons_succ]
              refine wpAnyK_takeFree (i := 3) (v := ?va3) rfl hsel hcl (by kernel_rfl) (by kernel_rfl) rfl (fun _ _ _ h => h) rfl hW0 ?hya3 (fun hcl => ?ha3)
              case hya3 => (intro w'; go_simp; first | done | with_reducible rfl)
              simp only [Act.put, List.setIfInBounds_toArray, List.set_cons_zero, List.set_cons_succ]
              refine wpAnyK_takeFree (i := 4) (v := ?va4) rfl hsel hcl (by kernel_rfl) (by kernel_rfl) rfl (fun _ _ _ h => h) rfl hW0 ?hya4 (fun hcl => ?ha4)
              case hya4 => (intro w'; go_simp; first | done | with_reducible rfl)
              simp only [Act.put, List.setIfInBounds_toArray, List.set_cons_zero, List.set_cons_succ]
              refine wpAnyK_takeNeed [15] (i := 5) (v := ?va5) rfl hsel hcl (by kernel_rfl) (by kernel_rfl) rfl (by decide +kernel) (fun _ _ _ h => h) rfl hW0 ?hya5 (fun hcl => ?ha5)
              case hya5 => ((intro V0 hV0; obtain ⟨e1, e1b, -⟩ := HKX.out V0 hV0; obtain ⟨e2, e2b, e2c, -⟩ := HKB.out V0 hV0); go_simp; first | done | with_reducible rfl)
              simp only [Act.put, List.setIfInBounds_toArray, List.set_cons_zero, List.set_cons_succ]
              refine wpAnyK_takeNeed [15, 14, 9] (i := 6) (v := ?va6) rfl hsel hcl (by kernel_rfl) (by kernel_rfl) rfl (by decide +kernel) (fun _ _ _ h => h) rfl hW0 ?hya6 (fun hcl => ?ha6)
              case hya6 => ((intro V0 hV0; obtain ⟨e1, e1b, -⟩ := HKX.out V0 hV0; obtain ⟨e2, e2b, e2c, -⟩ := HKB.out V0 hV0); go_simp; first | done | with_reducible rfl)
              simp only [Act.put, List.setIfInBounds_toArray, List.set_cons_zero, List.set_cons_succ]
              refine wpAnyK_takeFree (i := 7) (v := ?va7) rfl hsel hcl (by kernel_rfl) (by kernel_rfl) rfl (fun _ _ _ h => h) rfl hW0 ?hya7 (fun hcl => ?ha7)
              case hya7 => (intro w'; go_simp; first | done | with_reducible rfl)
              simp only [Act.put, List.setIfInBounds_toArray, List.set_cons_zero, List.set_cons_succ]
              refine wpAnyK_takeFree (i := 8) (v := ?va8) rfl hsel hcl (by kernel_rfl) (by kernel_rfl) rfl (fun _ _ _ h => h) rfl hW0 ?hya8 (fun hcl => ?ha8)
              case hya8 => (intro w'; go_simp; first | done | with_reducible rfl)
              simp only [Act.put, List.setIfInBounds_toArray, List.set_cons_zero, List.set_cons_succ]
              refine wpAnyK_takeFree (i := 10) (v := ?va10) rfl hsel hcl (by kernel_rfl) (by kernel_rfl) rfl (fun _ _ _ h => h) rfl hW0 ?hya10 (fun hcl => ?ha10)
              case hya10 => (intro w'; go_simp; first | done | with_reducible rfl)
              simp only [Act.put, List.setIfInBounds_toArray, List.set_cons_zero, List.set_cons_succ]
              refine wpAnyK_takeFree (i := 11) (v := ?va11) rfl hsel hcl (by kernel_rfl) (by kernel_rfl) rfl (fun _ _ _ h => h) rfl hW0 ?hya11 (fun hcl => ?ha11)
              case hya11 => (intro w'; go_simp; first | done | with_reducible rfl)
              simp only [Act.put, List.setIfInBounds_toArray, List.set_cons_zero, List.set_cons_succ]
              refine wpAnyK_takeFree (i := 12) (v := ?va12) rfl hsel hcl (by kernel_rfl) (by kernel_rfl) rfl (fun _ _ _ h => h) rfl hW0 ?hya12 (fun hcl => ?ha12)
              case hya12 => (intro w'; go_simp; first | done | with_reducible rfl)
              simp only [Act.put, List.setIfInBounds_toArray, List.set_cons_zero, List.set_cons_succ]
              refine wpAnyK_takeNeed [15, 14] (i := 13) (v := ?va13) rfl hsel hcl (by kernel_rfl) (by kernel_rfl) rfl (by decide +kernel) (fun _ _ _ h => h) rfl hW0 ?hya13 (fun hcl => ?ha13)
              case hya13 => ((intro V0 hV0; obtain ⟨e1, e1b, -⟩ := HKX.out V0 hV0; obtain ⟨e2, e2b, e2c, -⟩ := HKB.out V0 hV0); go_simp; first | done | with_reducible rfl)
              simp only [Act.put, List.setIfInBounds_toArray, List.set_cons_zero, List.set_cons_succ]
              refine wpAnyK_one (i := 9) rfl (by decide +kernel) rfl rfl ?_
              go_simp
              refine (HAt.out _ hW0).mono ?_
              rintro e V1 ⟨rfl, hV1⟩
              refine ⟨hV1, ?_⟩
              clear hW0
              refine wpAnyK_one (i := 14) rfl (by decide +kernel) rfl rfl ?_
              go_simp
              refine (HMul.out _ hV1).mono ?_
              rintro e V2 ⟨mm, rfl, hmm, hV2⟩
              refine ⟨hV2, ?_⟩
              clear hV1
              refine wpAnyK_one (i := 15) rfl (by decide +kernel) rfl rfl ?_
              go_simp
              refine (HSub.out _ _ hmm hV2).mono ?_
              rintro e V' ⟨z, rfl, hz, lz, hV'⟩
              refine ⟨hV', ?_⟩
              clear hV2 hmm
              obtain ⟨e4, -, e5⟩ := HKX.out V' hV'
              refine wpAnyK_one (i := 16) rfl (by decide +kernel) rfl rfl ?_
              go_simp
              try (refine ⟨hV', ?_⟩)
              refine wpAnyK_store (st := 17) rfl (by decide +kernel) rfl ?_
              go_simp
              refine wpAny_done (by decide +kernel) ?_ _
              all_goals
                have HV' := Lib.hid ((HS.out.below hV').put hlt lz)
                have HZz := Lib.hid hz
                have HLz := Lib.hid lz
                have hcz : (V'.setCell ⟨(W9.heap.size + 1 + 1), i0, none⟩ (.complex .f64 z.1 z.2)).cell? ⟨(W9.heap.size + 1 + 1), i0, none⟩ = some (.complex .f64 z.1 z.2) := by
                  have h := HV'.out.cellX hlt
                  rw [putX_same] at h
                  exact h
                have hfi := Finite_c z.1 z.2 lz.1 lz.2
                rw [show (cn .f64 z.1, cn .f64 z.2) = nv from hz] at hfi
                have HFi := Lib.hid hfi
                obtain ⟨g, hg⟩ : ∃ g, g = pFinite nv := ⟨_, rfl⟩
                rw [← hg] at HFi
                have HG := Lib.hid hg
                clear hz lz hV' e4 e5 hcl hfi hg
                cases f
                · go_wp2
                  go_roundw
                  case rel =>
                    refine ⟨k0 + 1, putX zs i0 z, _, hk, by go_num, rfl, HV'.out, fun j hj => ?_, ?_, ?_⟩
                    · rw [putX_other (by omega)]; exact HZ.out j hj
                    · rw [putX_same, HZz.out]; exact HNv.out
                    · show _ = (_ && (_ && _)); rw [← Bool.and_assoc, ← HFl.out]; rfl
                  case measure => simp [intOf]; omega
                · go_wp2_with fail
                  refine (HFi.out _).mono ?_
                  rintro e V2 ⟨d, rfl, hV2⟩
                  have HV2 := Lib.hid (HV'.out.below (show Below _ _ V2 by rw [hV2]; exact below_drewN (Below.refl _ _) d))
                  clear hV2 hcz
                  go_wp2
                  go_roundw
                  case rel =>
                    refine ⟨k0 + 1, putX zs i0 z, _, hk, by go_num, rfl, HV2.out, fun j hj => ?_, ?_, ?_⟩
                    · rw [putX_other (by omega)]; exact HZ.out j hj
                    · rw [putX_same, HZz.out]; exact HNv.out
                    · show _ = (_ && (_ && _)); rw [← Bool.and_assoc, ← HFl.out, HG.out, HNv.out]; rfl
                  case measure => simp [intOf]; omega
            · have e : k0 = i0 := by omega
              subst e
              go_wp2
              go_roundw
              case rel =>
                refine ⟨k0 + 1, zs, f, hlt, by go_num, rfl, HS.out, fun j hj => ?_, HFl.out⟩
                by_cases ej : j = k0
                · subst ej; rw [fwd, putX_same]; exact HZi.out
                · rw [fwd, putX_other ej]; exact HZ.out j (by omega)
              case measure => simp [intOf]; omega
        · have e : N = i0 := by omega
          subst e
          obtain ⟨Y, hY⟩ : ∃ Y, Y = fwd (lowE S) S.o bb N := ⟨_, rfl⟩
          obtain ⟨g0, hg0⟩ : ∃ g0, g0 = fwdFine (lowE S) S.o bb N := ⟨_, rfl⟩
          rw [← hY] at HZ
          rw [← hg0] at HFl
          have HSol := Lib.hid (show (solOk N S x = (g0 && bwdFine (uppE S) N Y N)) ∧ solL N S x = (List.range N).map (bwd (uppE S) N Y N) by
            rw [hg0, hY, HBB.out]; exact ⟨rfl, rfl⟩)
          clear hY hg0
          go_wp2
          go_loopw [18, 21] (fun fv iv wr => ∃ (j : Nat) (zs : Nat → C) (f : Bool), j ≤ N ∧ iv = .int .i64 ((N : Int) - 1 - (j : Int)) ∧ fv = .bool f ∧ MeS W0 wr (W9.heap.size + 1 + 1) N zs ∧ (∀ q, q < N → cnC (zs q) = bwd (uppE S) N Y j q) ∧ f = (g0 && bwdFine (uppE S) N Y j)) (fun _ iv _ => (intOf iv + 1).toNat)
          case atStart => exact ⟨0, zs, f, Nat.zero_le _, by go_num, rfl, HS.out, HZ.out, by rw [HFl.out]; simp [bwdFine]⟩
          case round =>
            obtain ⟨j, zs, f, hj, rfl, rfl, hs, hz, hf⟩ := hrel
            have HS := Lib.hid hs
            have HZ := Lib.hid hz
            have HFl := Lib.hid hf
            have hn65 : (N : Int) ≤ 64 := by have := HN64.out; omega
            clear hs hz hf
            by_cases hlt : j < N
            · obtain ⟨i, hi⟩ : ∃ i : Nat, i = N - 1 - j := ⟨_, rfl⟩
              have hii : (N : Int) - 1 - (j : Int) = (i : Int) := by omega
              have hin : i < N := by omega
              have hini : (i : Int) < (N : Int) := Int.ofNat_lt.2 hin
              have hi1 : N - j = i + 1 := by omega
              have hij : i + 1 + j = N := by omega
              have HI := Lib.hid hi
              have HI1 := Lib.hid hi1
              have HIJ := Lib.hid hij
              have hib : (i : Int) + 1 ≤ 65 := by omega
              rw [hii]
              clear hi hi1 hii hij
              go_wp2
              go_loopw [18, 22] (fun fv kv wr => ∃ (m : Nat) (zs : Nat → C) (f : Bool), m ≤ j ∧ kv = .int .i64 ((i + 1 + m : Nat) : Int) ∧ fv = .bool f ∧ MeS W0 wr (W9.heap.size + 1 + 1) N zs ∧ (∀ q, q < N → q ≠ i → cnC (zs q) = bwd (uppE S) N Y j q) ∧ cnC (zs i) = accTo (uppE S i) (bwd (uppE S) N Y j) (i + 1) (bwd (uppE S) N Y j i) m ∧ f = (g0 && (bwdFine (uppE S) N Y j && accFine (uppE S i) (bwd (uppE S) N Y j) (i + 1) (bwd (uppE S) N Y j i) m))) (fun _ kv _ => N - (intOf kv).toNat)
              case atStart => exact ⟨0, zs, f, Nat.zero_le _, by go_num, rfl, HS.out, fun q hq _ => HZ.out q hq, HZ.out i hin, by rw [HFl.out]; simp [accFine]⟩
              case round =>
                obtain ⟨m, zs, f, hm, rfl, rfl, hs, hz, hzi, hf⟩ := hrel
                have HS := Lib.hid hs
                have HZ := Lib.hid hz
                have HZi := Lib.hid hzi
                have HFl := Lib.hid hf
                clear hs hz hzi hf
                have HKB := Lib.hid (fun (V : World) (hV : Below wr.heap.size wr V) => box3 (row_keep (HS.out.bel.trans (hV.mono HS.out.bel.size)) HE.out.b2))
                by_cases hk : m < j
                · obtain ⟨k, hk'⟩ : ∃ k, k = i + 1 + m := ⟨_, rfl⟩
                  rw [← hk']
                  have hkn : k < N := by have := HIJ.out; omega
                  have hkni : (k : Int) < (N : Int) := Int.ofNat_lt.2 hkn
                  have hkb : (k : Int) + 1 ≤ 65 := by omega
                  have hki : k ≠ i := by omega
                  obtain ⟨lv, hlv⟩ : ∃ lv, lv = uppE S i k := ⟨_, rfl⟩
                  obtain ⟨zi, hzi⟩ : ∃ zi, zi = zs i := ⟨_, rfl⟩
                  obtain ⟨zk, hzk⟩ : ∃ zk, zk = zs k := ⟨_, rfl⟩
                  have HKX := Lib.hid (fun (V : World) (hV : Below wr.heap.size wr V) => (show V.cell? ⟨(W9.heap.size + 1 + 1), i, none⟩ = some (.complex .f64 zi.1 zi.2) ∧ V.cell? ⟨(W9.heap.size + 1 + 1), k, none⟩ = some (.complex .f64 zk.1 zk.2) ∧ V.frozen? ⟨(W9.heap.size + 1 + 1), i, none⟩ = false from by
                    rw [hzi, hzk]; exact ⟨(HS.out.below hV).cellX hin, (HS.out.below hV).cellX hkn, (HS.out.below hV).frozenX i⟩))
                  have HAt := Lib.hid (fun (V : World) (hV : Below wr.heap.size wr V) => (show Calls Try.prog 21 #[mval N N (.slice Au M ku), .int .i64 (i : Nat), .int .i64 (k : Nat)] V (fun e w' => e = .returned (.complex .f64 lv.1 lv.2) ∧ Below wr.heap.size wr w') from by
                    rw [hlv]
                    have h2 := HS.out.bel.trans (hV.mono HS.out.bel.size)
                    exact (at10_c (uppE S) Au ku i k V HM.out HN64.out hin hkn ((HE.out.ru.below h2).more h2.size)).mono fun e w' h => ⟨h.1, hV.trans (h.2.mono hV.size)⟩))
                  have HMul := Lib.hid (fun (V : World) (hV : Below wr.heap.size wr V) => (show Calls Try.prog 20 #[.complex .f64 lv.1 lv.2, .complex .f64 zk.1 zk.2] V (fun e w' => ∃ m : C, e = .returned (.complex .f64 m.1 m.2) ∧ cnC m = pMul (cnC lv) (cnC zk) ∧ Below wr.heap.size wr w') from (Mul_c lv.1 lv.2 zk.1 zk.2 V).mono fun e w' ⟨p, q, n, he, hv, _, _, hw⟩ => ⟨(p, q), he, hv, by rw [hw]; exact below_drewN hV n⟩))
                  have hval : pSub (cnC zi) (pMul (cnC lv) (cnC zk)) = accTo (uppE S i) (bwd (uppE S) N Y j) (i + 1) (bwd (uppE S) N Y j i) (m + 1) := by
                    rw [hzi, HZi.out, hlv, fin_cn (upp_fin HSf.out i k hin hkn), hzk, HZ.out k hkn hki, hk']
                    rfl
                  obtain ⟨nv, hnv⟩ : ∃ nv, nv = accTo (uppE S i) (bwd (uppE S) N Y j) (i + 1) (bwd (uppE S) N Y j i) (m + 1) := ⟨_, rfl⟩
                  rw [← hnv] at hval
                  have HSub := Lib.hid (fun (m : C) (V : World) (hm : cnC m = pMul (cnC lv) (cnC zk)) (hV : Below wr.heap.size wr V) => (show Calls Try.prog 19 #[.complex .f64 zi.1 zi.2, .complex .f64 m.1 m.2] V (fun e w' => ∃ z : C, e = .returned (.complex .f64 z.1 z.2) ∧ cnC z = nv ∧ ltC z ∧ Below wr.heap.size wr w') from (Sub_c zi.1 zi.2 m.1 m.2 V).mono fun e w' ⟨p, q, n, he, hv, hp, hq, hw⟩ =>
                    ⟨(p, q), he, by have h : (cn .f64 p, cn .f64 q) = pSub (cnC zi) (cnC m) := hv; rw [hm, hval] at h; exact h, ⟨hp, hq⟩, by rw [hw]; exact below_drewN hV n⟩))
                  have HNv := Lib.hid hnv
                  have HK := Lib.hid hk'
                  clear hlv hzi hzk hval hnv hk'
                  go_wp2_with fail
                  refine wp_region_K 17 (by kernel_rfl) (Below wr.heap.size wr) (by kernel_rfl) (fun hsel hcl => ?_)
                  have hW0 := (Below.refl wr.heap.size wr).drew
                  refine wpAnyK_takeFree (i := 0) (v := ?vb0) rfl hsel hcl (by kernel_rfl) (by kernel_rfl) rfl (fun _ _ _ h => h) rfl hW0 ?hyb0 (fun hcl => ?hb0)
                  case hyb0 => (intro w'; go_simp; first | done | with_reducible rfl)
                  simp only [Act.put, List.setIfInBounds_toArray, List.set_cons_zero, List.set_cons_succ]
                  refine wpAnyK_takeFree (i := 1) (v := ?vb1) rfl hsel hcl (by kernel_rfl) (by kernel_rfl) rfl (fun _ _ _ h => h) rfl hW0 ?hyb1 (fun hcl => ?hb1)
                  case hyb1 => (intro w'; go_simp; first | done | with_reducible rfl)
                  simp only [Act.put, List.setIfInBounds_toArray, List.set_cons_zero, List.set_cons_succ]
                  refine wpAnyK_takeFree (i := 2) (v := ?vb2) rfl hsel hcl (by kernel_rfl) (by kernel_rfl) rfl (fun _ _ _ h => h) rfl hW0 ?hyb2 (fun hcl => ?hb2)
                  case hyb2 => (intro w'; go_simp; first | done | with_reducible rfl)
                  simp only [Act.put, List.setIfInBounds_toArray, List.set_cons_zero, List.set_cons_succ]
                  refine wpAnyK_takeFree (i := 3) (v := ?vb3) rfl hsel hcl (by kernel_rfl) (by kernel_rfl) rfl (fun _ _ _ h => h) rfl hW0 ?hyb3 (fun hcl => ?hb3)
                  case hyb3 => (intro w'; go_simp; first | done | with_reducible rfl)
                  simp only [Act.put, List.setIfInBounds_toArray, List.set_cons_zero, List.set_cons_succ]
                  refine wpAnyK_takeFree (i := 4) (v := ?vb4) rfl hsel hcl (by kernel_rfl) (by kernel_rfl) rfl (fun _ _ _ h => h) rfl hW0 ?hyb4 (fun hcl => ?hb4)
                  case hyb4 => (intro w'; go_simp; first | done | with_reducible rfl)
                  simp only [Act.put, List.setIfInBounds_toArray, List.set_cons_zero, List.set_cons_succ]
                  refine wpAnyK_takeNeed [15] (i := 5) (v := ?vb5) rfl hsel hcl (by kernel_rfl) (by kernel_rfl) rfl (by decide +kernel) (fun _ _ _ h => h) rfl hW0 ?hyb5 (fun hcl => ?hb5)
                  case hyb5 => ((intro V0 hV0; obtain ⟨e1, e1b, -⟩ := HKX.out V0 hV0; obtain ⟨e2, e2b, e2c, -⟩ := HKB.out V0 hV0); go_simp; first | done | with_reducible rfl)
                  simp only [Act.put, List.setIfInBounds_toArray, List.set_cons_zero, List.set_cons_succ]
                  refine wpAnyK_takeNeed [15, 14, 9] (i := 6) (v := ?vb6) rfl hsel hcl (by kernel_rfl) (by kernel_rfl) rfl (by decide +kernel) (fun _ _ _ h => h) rfl hW0 ?hyb6 (fun hcl => ?hb6)
                  case hyb6 => ((intro V0 hV0; obtain ⟨e1, e1b, -⟩ := HKX.out V0 hV0; obtain ⟨e2, e2b, e2c, -⟩ := HKB.out V0 hV0); go_simp; first | done | with_reducible rfl)
                  simp only [Act.put, List.setIfInBounds_toArray, List.set_cons_zero, List.set_cons_succ]
                  refine wpAnyK_takeFree (i := 7) (v := ?vb7) rfl hsel hcl (by kernel_rfl) (by kernel_rfl) rfl (fun _ _ _ h => h) rfl hW0 ?hyb7 (fun hcl => ?hb7)
                  case hyb7 => (intro w'; go_simp; first | done | with_reducible rfl)
                  simp only [Act.put, List.setIfInBounds_toArray, List.set_cons_zero, List.set_cons_succ]
                  refine wpAnyK_takeFree (i := 8) (v := ?vb8) rfl hsel hcl (by kernel_rfl) (by kernel_rfl) rfl (fun _ _ _ h => h) rfl hW0 ?hyb8 (fun hcl => ?hb8)
                  case hyb8 => (intro w'; go_simp; first | done | with_reducible rfl)
                  simp only [Act.put, List.setIfInBounds_toArray, List.set_cons_zero, List.set_cons_succ]
                  refine wpAnyK_takeFree (i := 10) (v := ?vb10) rfl hsel hcl (by kernel_rfl) (by kernel_rfl) rfl (fun _ _ _ h => h) rfl hW0 ?hyb10 (fun hcl => ?hb10)
                  case hyb10 => (intro w'; go_simp; first | done | with_reducible rfl)
                  simp only [Act.put, List.setIfInBounds_toArray, List.set_cons_zero, List.set_cons_succ]
                  refine wpAnyK_takeFree (i := 11) (v := ?vb11) rfl hsel hcl (by kernel_rfl) (by kernel_rfl) rfl (fun _ _ _ h => h) rfl hW0 ?hyb11 (fun hcl => ?hb11)
                  case hyb11 => (intro w'; go_simp; first | done | with_reducible rfl)
                  simp only [Act.put, List.setIfInBounds_toArray, List.set_cons_zero, List.set_cons_succ]
                  refine wpAnyK_takeFree (i := 12) (v := ?vb12) rfl hsel hcl (by kernel_rfl) (by kernel_rfl) rfl (fun _ _ _ h => h) rfl hW0 ?hyb12 (fun hcl => ?hb12)
                  case hyb12 => (intro w'; go_simp; first | done | with_reducible rfl)
                  simp only [Act.put, List.setIfInBounds_toArray, List.set_cons_zero, List.set_cons_succ]
                  refine wpAnyK_takeNeed [15, 14] (i := 13) (v := ?vb13) rfl hsel hcl (by kernel_rfl) (by kernel_rfl) rfl (by decide +kernel) (fun _ _ _ h => h) rfl hW0 ?hyb13 (fun hcl => ?hb13)
                  case hyb13 => ((intro V0 hV0; obtain ⟨e1, e1b, -⟩ := HKX.out V0 hV0; obtain ⟨e2, e2b, e2c, -⟩ := HKB.out V0 hV0); go_simp; first | done | with_reducible rfl)
                  simp only [Act.put, List.setIfInBounds_toArray, List.set_cons_zero, List.set_cons_succ]
                  refine wpAnyK_one (i := 9) rfl (by decide +kernel) rfl rfl ?_
                  go_simp
                  refine (HAt.out _ hW0).mono ?_
                  rintro e V1 ⟨rfl, hV1⟩
                  refine ⟨hV1, ?_⟩
                  clear hW0
                  refine wpAnyK_one (i := 14) rfl (by decide +kernel) rfl rfl ?_
                  go_simp
                  refine (HMul.out _ hV1).mono ?_
                  rintro e V2 ⟨mm, rfl, hmm, hV2⟩
                  refine ⟨hV2, ?_⟩
                  clear hV1
                  refine wpAnyK_one (i := 15) rfl (by decide +kernel) rfl rfl ?_
                  go_simp
                  refine (HSub.out _ _ hmm hV2).mono ?_
                  rintro e V' ⟨z, rfl, hz, lz, hV'⟩
                  refine ⟨hV', ?_⟩
                  clear hV2 hmm
                  obtain ⟨e4, -, e5⟩ := HKX.out V' hV'
                  refine wpAnyK_one (i := 16) rfl (by decide +kernel) rfl rfl ?_
                  go_simp
                  try (refine ⟨hV', ?_⟩)
                  refine wpAnyK_store (st := 17) rfl (by decide +kernel) rfl ?_
                  go_simp
                  refine wpAny_done (by decide +kernel) ?_ _
                  all_goals
                    have HV' := Lib.hid ((HS.out.below hV').put hin lz)
                    have HZz := Lib.hid hz
                    have HLz := Lib.hid lz
                    have hcz : (V'.setCell ⟨(W9.heap.size + 1 + 1), i, none⟩ (.complex .f64 z.1 z.2)).cell? ⟨(W9.heap.size + 1 + 1), i, none⟩ = some (.complex .f64 z.1 z.2) := by
                      have h := HV'.out.cellX hin
                      rw [putX_same] at h
                      exact h
                    have hfi := Finite_c z.1 z.2 lz.1 lz.2
                    rw [show (cn .f64 z.1, cn .f64 z.2) = nv from hz] at hfi
                    have HFi := Lib.hid hfi
                    obtain ⟨g, hg⟩ : ∃ g, g = pFinite nv := ⟨_, rfl⟩
                    rw [← hg] at HFi
                    have HG := Lib.hid hg
                    clear hz lz hV' e4 e5 hcl hfi hg
                    cases f
                    · go_wp2
                      go_roundw
                      case rel =>
                        refine ⟨m + 1, putX zs i z, _, hk, by rw [HK.out]; go_num, rfl, HV'.out, fun q hq hne => ?_, ?_, ?_⟩
                        · rw [putX_other hne]; exact HZ.out q hq hne
                        · rw [putX_same, HZz.out]; exact HNv.out
                        · show _ = (_ && (_ && (_ && _))); rw [← Bool.and_assoc (bwdFine _ _ _ _), ← Bool.and_assoc, ← HFl.out]; rfl
                      case measure => have := HK.out; simp [intOf]; omega
                    · go_wp2_with fail
                      refine (HFi.out _).mono ?_
                      rintro e V2 ⟨d, rfl, hV2⟩
                      have HV2 := Lib.hid (HV'.out.below (show Below _ _ V2 by rw [hV2]; exact below_drewN (Below.refl _ _) d))
                      clear hV2 hcz
                      go_wp2
                      go_roundw
                      case rel =>
                        refine ⟨m + 1, putX zs i z, _, hk, by rw [HK.out]; go_num, rfl, HV2.out, fun q hq hne => ?_, ?_, ?_⟩
                        · rw [putX_other hne]; exact HZ.out q hq hne
                        · rw [putX_same, HZz.out]; exact HNv.out
                        · show _ = (_ && (_ && (_ && _))); rw [← Bool.and_assoc (bwdFine _ _ _ _), ← Bool.and_assoc, ← HFl.out, HG.out, HNv.out]; rfl
                      case measure => have := HK.out; simp [intOf]; omega
                · have e : m = j := by omega
                  subst e
                  rw [HIJ.out]
                  obtain ⟨lv, hlv⟩ : ∃ lv, lv = uppE S i i := ⟨_, rfl⟩
                  obtain ⟨zi, hzi⟩ : ∃ zi, zi = zs i := ⟨_, rfl⟩
                  have HKX := Lib.hid (fun (V : World) (hV : Below wr.heap.size wr V) => (show V.cell? ⟨(W9.heap.size + 1 + 1), i, none⟩ = some (.complex .f64 zi.1 zi.2) ∧ V.frozen? ⟨(W9.heap.size + 1 + 1), i, none⟩ = false from by
                    rw [hzi]; exact ⟨(HS.out.below hV).cellX hin, (HS.out.below hV).frozenX i⟩))
                  have HAt := Lib.hid (fun (V : World) (hV : Below wr.heap.size wr V) => (show Calls Try.prog 21 #[mval N N (.slice Au M ku), .int .i64 (i : Nat), .int .i64 (i : Nat)] V (fun e w' => e = .returned (.complex .f64 lv.1 lv.2) ∧ Below wr.heap.size wr w') from by
                    rw [hlv]
                    have h2 := HS.out.bel.trans (hV.mono HS.out.bel.size)
                    exact (at10_c (uppE S) Au ku i i V HM.out HN64.out hin hin ((HE.out.ru.below h2).more h2.size)).mono fun e w' h => ⟨h.1, hV.trans (h.2.mono hV.size)⟩))
                  have hlvl : ltC lv := by rw [hlv]; exact upp_lt HLtS.out hin
                  have hval : pDiv (cnC zi) (cnC lv) = pDiv (bwdRow (uppE S) N (bwd (uppE S) N Y m) m) (uppE S (N - 1 - m) (N - 1 - m)) := by
                    unfold bwdRow
                    rw [hzi, HZi.out, hlv, fin_cn (upp_fin HSf.out i i hin hin), ← HI.out, HI1.out]
                  obtain ⟨nv, hnv⟩ : ∃ nv, nv = pDiv (bwdRow (uppE S) N (bwd (uppE S) N Y m) m) (uppE S (N - 1 - m) (N - 1 - m)) := ⟨_, rfl⟩
                  rw [← hnv] at hval
                  have HDiv := Lib.hid (fun (V : World) (hV : Below wr.heap.size wr V) => (show Calls Try.prog 23 #[.complex .f64 zi.1 zi.2, .complex .f64 lv.1 lv.2] V (fun e w' => ∃ z : C, e = .returned (.complex .f64 z.1 z.2) ∧ cnC z = nv ∧ ltC z ∧ Below wr.heap.size wr w') from (Div_c zi.1 zi.2 lv.1 lv.2 hlvl.1 hlvl.2 V).mono fun e w' ⟨p, q, n, he, hv, hp, hq, hw⟩ =>
                    ⟨(p, q), he, by have h : (cn .f64 p, cn .f64 q) = pDiv (cnC zi) (cnC lv) := hv; rw [hval] at h; exact h, ⟨hp, hq⟩, by rw [hw]; exact below_drewN hV n⟩))
                  have HNv := Lib.hid hnv
                  clear hlv hzi hval hnv hlvl
                  go_wp2_with fail
                  refine wp_region_K 12 (by kernel_rfl) (Below wr.heap.size wr) (by kernel_rfl) (fun hsel hcl => ?_)
                  have hW0 := (Below.refl wr.heap.size wr).drew
                  refine wpAnyK_takeFree (i := 0) (v := ?vc0) rfl hsel hcl (by kernel_rfl) (by kernel_rfl) rfl (fun _ _ _ h => h) rfl hW0 ?hyc0 (fun hcl => ?hc0)
                  case hyc0 => (intro w'; go_simp; first | done | with_reducible rfl)
                  simp only [Act.put, List.setIfInBounds_toArray, List.set_cons_zero, List.set_cons_succ]
                  refine wpAnyK_takeFree (i := 1) (v := ?vc1) rfl hsel hcl (by kernel_rfl) (by kernel_rfl) rfl (fun _ _ _ h => h) rfl hW0 ?hyc1 (fun hcl => ?hc1)
                  case hyc1 => (intro w'; go_simp; first | done | with_reducible rfl)
                  simp only [Act.put, List.setIfInBounds_toArray, List.set_cons_zero, List.set_cons_succ]
                  refine wpAnyK_takeFree (i := 2) (v := ?vc2) rfl hsel hcl (by kernel_rfl) (by kernel_rfl) rfl (fun _ _ _ h => h) rfl hW0 ?hyc2 (fun hcl => ?hc2)
                  case hyc2 => (intro w'; go_simp; first | done | with_reducible rfl)
                  simp only [Act.put, List.setIfInBounds_toArray, List.set_cons_zero, List.set_cons_succ]
                  refine wpAnyK_takeFree (i := 3) (v := ?vc3) rfl hsel hcl (by kernel_rfl) (by kernel_rfl) rfl (fun _ _ _ h => h) rfl hW0 ?hyc3 (fun hcl => ?hc3)
                  case hyc3 => (intro w'; go_simp; first | done | with_reducible rfl)
                  simp only [Act.put, List.setIfInBounds_toArray, List.set_cons_zero, List.set_cons_succ]
                  refine wpAnyK_takeFree (i := 4) (v := ?vc4) rfl hsel hcl (by kernel_rfl) (by kernel_rfl) rfl (fun _ _ _ h => h) rfl hW0 ?hyc4 (fun hcl => ?hc4)
                  case hyc4 => (intro w'; go_simp; first | done | with_reducible rfl)
                  simp only [Act.put, List.setIfInBounds_toArray, List.set_cons_zero, List.set_cons_succ]
                  refine wpAnyK_takeNeed [10] (i := 5) (v := ?vc5) rfl hsel hcl (by kernel_rfl) (by kernel_rfl) rfl (by decide +kernel) (fun _ _ _ h => h) rfl hW0 ?hyc5 (fun hcl => ?hc5)
                  case hyc5 => ((intro V0 hV0; obtain ⟨e1, -⟩ := HKX.out V0 hV0; obtain ⟨e2, e2b, e2c, -⟩ := HKB.out V0 hV0); go_simp; first | done | with_reducible rfl)
                  simp only [Act.put, List.setIfInBounds_toArray, List.set_cons_zero, List.set_cons_succ]
                  refine wpAnyK_takeNeed [10, 9] (i := 6) (v := ?vc6) rfl hsel hcl (by kernel_rfl) (by kernel_rfl) rfl (by decide +kernel) (fun _ _ _ h => h) rfl hW0 ?hyc6 (fun hcl => ?hc6)
                  case hyc6 => ((intro V0 hV0; obtain ⟨e1, -⟩ := HKX.out V0 hV0; obtain ⟨e2, e2b, e2c, -⟩ := HKB.out V0 hV0); go_simp; first | done | with_reducible rfl)
                  simp only [Act.put, List.setIfInBounds_toArray, List.set_cons_zero, List.set_cons_succ]
                  refine wpAnyK_takeFree (i := 7) (v := ?vc7) rfl hsel hcl (by kernel_rfl) (by kernel_rfl) rfl (fun _ _ _ h => h) rfl hW0 ?hyc7 (fun hcl => ?hc7)
                  case hyc7 => (intro w'; go_simp; first | done | with_reducible rfl)
                  simp only [Act.put, List.setIfInBounds_toArray, List.set_cons_zero, List.set_cons_succ]
                  refine wpAnyK_takeFree (i := 8) (v := ?vc8) rfl hsel hcl (by kernel_rfl) (by kernel_rfl) rfl (fun _ _ _ h => h) rfl hW0 ?hyc8 (fun hcl => ?hc8)
                  case hyc8 => (intro w'; go_simp; first | done | with_reducible rfl)
                  simp only [Act.put, List.setIfInBounds_toArray, List.set_cons_zero, List.set_cons_succ]
                  refine wpAnyK_one (i := 9) rfl (by decide +kernel) rfl rfl ?_
                  go_simp
                  refine (HAt.out _ hW0).mono ?_
                  rintro e V1 ⟨rfl, hV1⟩
                  refine ⟨hV1, ?_⟩
                  clear hW0
                  refine wpAnyK_one (i := 10) rfl (by decide +kernel) rfl rfl ?_
                  go_simp
                  refine (HDiv.out _ hV1).mono ?_
                  rintro e V' ⟨z, rfl, hz, lz, hV'⟩
                  refine ⟨hV', ?_⟩
                  clear hV1
                  obtain ⟨e4, e5⟩ := HKX.out V' hV'
                  refine wpAnyK_one (i := 11) rfl (by decide +kernel) rfl rfl ?_
                  go_simp
                  try (refine ⟨hV', ?_⟩)
                  refine wpAnyK_store (st := 12) rfl (by decide +kernel) rfl ?_
                  go_simp
                  refine wpAny_done (by decide +kernel) ?_ _
                  all_goals
                    have HV' := Lib.hid ((HS.out.below hV').put hin lz)
                    have HZz := Lib.hid hz
                    have HLz := Lib.hid lz
                    have hcz : (V'.setCell ⟨(W9.heap.size + 1 + 1), i, none⟩ (.complex .f64 z.1 z.2)).cell? ⟨(W9.heap.size + 1 + 1), i, none⟩ = some (.complex .f64 z.1 z.2) := by
                      have h := HV'.out.cellX hin
                      rw [putX_same] at h
                      exact h
                    have hfi := Finite_c z.1 z.2 lz.1 lz.2
                    rw [show (cn .f64 z.1, cn .f64 z.2) = nv from hz] at hfi
                    have HFi := Lib.hid hfi
                    obtain ⟨g, hg⟩ : ∃ g, g = pFinite nv := ⟨_, rfl⟩
                    rw [← hg] at HFi
                    have HG := Lib.hid hg
                    have HVl := Lib.hid (show ∀ q, q < N → cnC (putX zs i z q) = bwd (uppE S) N Y (m + 1) q from fun q hq => by
                      show _ = putX (bwd (uppE S) N Y m) (N - 1 - m) _ q
                      rw [← HI.out]
                      by_cases eq : q = i
                      · subst eq; rw [putX_same, putX_same, HZz.out, HNv.out, ← HI.out]
                      · rw [putX_other eq, putX_other eq]; exact HZ.out q hq eq)
                    have HFe := Lib.hid (show (f && g) = (g0 && bwdFine (uppE S) N Y (m + 1)) by
                      rw [HFl.out, HG.out, HNv.out]
                      show _ = (g0 && (bwdFine (uppE S) N Y m && accFine (uppE S (N - 1 - m)) (bwd (uppE S) N Y m) (N - m) (bwd (uppE S) N Y m (N - 1 - m)) m && pFinite _))
                      rw [← HI.out, HI1.out, Bool.and_assoc])
                    clear hz lz hV' e4 e5 hcl hfi hg
                    cases f
                    · go_wp2
                      go_roundw
                      case rel => exact ⟨m + 1, putX zs i z, _, hlt, by have := HI.out; go_num, rfl, HV'.out, HVl.out, HFe.out⟩
                      case measure => simp [intOf]
                    · go_wp2_with fail
                      refine (HFi.out _).mono ?_
                      rintro e V2 ⟨d, rfl, hV2⟩
                      have HV2 := Lib.hid (HV'.out.below (show Below _ _ V2 by rw [hV2]; exact below_drewN (Below.refl _ _) d))
                      clear hV2 hcz
                      go_wp2
                      go_roundw
                      case rel => exact ⟨m + 1, putX zs i z, _, hlt, by have := HI.out; go_num, rfl, HV2.out, HVl.out, HFe.out⟩
                      case measure => simp [intOf]
            · have e : j = N := by omega
              subst e
              have hneg : ((j : Int) - 1 - (j : Int)) = -1 := by omega
              rw [hneg]
              clear hneg
              obtain ⟨so, hso⟩ : ∃ so, so = solOk j S x := ⟨_, rfl⟩
              have hfo : f = so := HFl.out.trans (by rw [hso]; exact HSol.out.1.symm)
              subst hfo
              have HBe := Lib.hid (N9.out.bel.trans (HB0.out.trans (HS.out.bel.mono HB0.out.size) |>.mono N9.out.bel.size))
              cases f
              · have her : er = 6 := by rw [HEr.out, ← hso]; rfl
                have hrs : rs = [] := by rw [HRs.out, ← hso]; rfl
                subst her hrs
                clear hso
                go_wp2
                go_ret
                exact ⟨rfl, HBe.out⟩
              · have her : er = 0 := by rw [HEr.out, ← hso]; rfl
                have hrs : rs = solL j S x := by rw [HRs.out, ← hso]; rfl
                have hlen : rs.length = j := by rw [hrs]; simp [solL]
                have hmap : rs.map cnC = ((List.range j).map zs).map cnC := by
                  rw [hrs, HSol.out.2, List.map_map, List.map_map]
                  refine List.map_congr_left fun q hq => ?_
                  have hq := List.mem_range.1 hq
                  have hfi : pFinite (bwd (uppE S) j Y j q) = true := by
                    have h := sol_fin (show solFine (lowE S) (uppE S) S.o (bOf x) j = true from hso.symm) q hq
                    have e := congrArg (fun l : List C => l[q]?) HSol.out.2
                    simp only [solL, List.getElem?_map, List.getElem?_range hq, Option.map_some, Option.some.injEq] at e
                    rw [← e]; exact h
                  show cnC (bwd (uppE S) j Y j q) = cnC (zs q)
                  rw [fin_cn hfi, HZ.out q hq]
                have hrr : Reads wr wr.heap.size A5 (nums rs) := (HE.out.rs.below HS.out.bel).more HS.out.bel.size
                have hrv : Reads wr wr.heap.size (some ⟨(W9.heap.size + 1 + 1), 0, none⟩) (nums ((List.range j).map zs)) := reads_row HS.out.x
                have HSm := Lib.hid (SameNumbers_t A5 (some ⟨(W9.heap.size + 1 + 1), 0, none⟩) rs ((List.range j).map zs) j k5 j wr hlen (by simp) hmap (by have := HN64.out; omega) hrr hrv)
                subst her
                rw [hlen]
                clear hso hrs hlen hmap hrr hrv
                go_wp2_with fail
                refine HSm.out.mono ?_
                rintro e V ⟨d, rfl, hV⟩
                have HBv := Lib.hid (show Below w.heap.size w V by rw [hV]; exact below_drewN HBe.out d)
                clear hV
                go_wp2
                go_ret
                exact ⟨rfl, HBv.out⟩
    · have HSb := Lib.hid (Solve_bad Ab x kb W4 N4.out.x HSf.out HN64.out (by omega) HLx.out HRb.out hE)
      go_wp2_with fail
      refine HSb.out.mono ?_
      rintro e W5 ⟨rfl, hb⟩
      have N5 := Lib.hid (N4.out.below hb)
      have HRb5 := Lib.hid ((HRb.out.below hb).more hb.size)
      clear hb
      go_wp2_with fail
      refine (Size_c _ N5.out.x).mono ?_
      rintro e w' ⟨rfl, rfl⟩
      by_cases hn : x.length = N
      · have hbad : badAt x < x.length := by
          by_cases hb : badAt x < x.length
          · exact hb
          · exact absurd (by unfold bErr; rw [if_pos hn, if_neg hb]) hE
        have he : bErr N x = 5 := by unfold bErr; rw [if_pos hn, if_pos hbad]
        have hall : x.all finC = false := Bool.eq_false_iff.2 fun e => by
          have h1 : (!pFinite x[badAt x]) = true := List.findIdx_getElem (w := hbad)
          have h2 := List.all_eq_true.1 e _ (List.getElem_mem hbad)
          have h3 : pFinite x[badAt x] = true := h2
          rw [h3] at h1; cases h1
        have HFn := Lib.hid (FiniteNumbers_c Ab x kb W5 HLx.out (by omega) (HRb5.out))
        rw [hall] at HFn
        have hln : ((x.length : Int)) = (N : Int) := by rw [hn]
        rw [he]
        clear hE hn hbad he hall
        go_wp2_with fail
        refine HFn.out.mono ?_
        rintro e W6 ⟨d, rfl, hw⟩
        have N6 := Lib.hid (show NW w W6 N W2.heap.size b S by rw [hw]; exact N5.out.drewN d)
        clear hw
        go_wp2
        go_ret
        exact ⟨rfl, N6.out.bel⟩
      · have he : bErr N x = 4 := by unfold bErr; rw [if_neg hn]
        have hni : ¬ ((x.length : Int) = (N : Int)) := by omega
        have hnb : (((x.length : Int)) == (N : Int)) = false := by simpa using hni
        rw [he]
        clear hE hn hni he
        go_wp2
        go_ret
        exact ⟨rfl, N5.out.bel⟩
  · have hne : (f1 == 0) = false := by simpa using h0
    have HBd := Lib.hid (HOf.out.mono fun e w' h => h.bad h0)
    clear HOf h0
    go_wp2_with fail
    refine HBd.out.mono ?_
    rintro e W3 ⟨rfl, hb⟩
    have B3 := Lib.hid ((B2.out.trans (hb.mono B2.out.size)).new (Nat.le_refl _) (.cells #[.int .i64 f1, .int .i64 f2] 27))
    clear hb
    go_wp2
    go_ret
    exact ⟨rfl, B3.out⟩
end Go.Proofs.Ytglmmidhkpomgaa
