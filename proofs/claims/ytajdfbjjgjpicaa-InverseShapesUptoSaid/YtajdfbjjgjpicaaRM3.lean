/- Layer 7, the document's answer: sums and differences. -/
import Derived.Test.YtajdfbjjgjpicaaRM1
import Derived.Test.YtajdfbjjgjpicaaMX1
import Derived.Test.YtajdfbjjgjpicaaFlA
namespace Go.Proofs.Ytajdfbjjgjpicaa
open Go.RowKit Fl Ieee
set_option maxRecDepth 20000
attribute [local go_sem] run_store_float run_store_complex
/-- Behind the frame: two boxes, the result's row. -/
theorem frame2r {w W1 : World} {r c r' c' : Int} {s s' x y z : Value} {t t' t'' : TypeId}
    (hb : Below (((w.alloc (.cells #[.int .i64 r, .int .i64 c, s] t)).alloc (.cells #[.int .i64 r', .int .i64 c', s'] t')).alloc (.cells #[x, y, z] t'')).heap.size
      (((w.alloc (.cells #[.int .i64 r, .int .i64 c, s] t)).alloc (.cells #[.int .i64 r', .int .i64 c', s'] t')).alloc (.cells #[x, y, z] t'')) W1) :
    Box W1 w.heap.size r c s ∧ Box W1 (w.heap.size + 1) r' c' s' ∧ W1.heap[w.heap.size + 2]? = some (.cells #[x, y, z] t'') ∧ Below w.heap.size w W1 ∧ w.heap.size + 3 ≤ W1.heap.size := by
  obtain ⟨w1, hw1⟩ : ∃ w1, w1 = w.alloc (.cells #[.int .i64 r, .int .i64 c, s] t) := ⟨_, rfl⟩
  obtain ⟨w2, hw2⟩ : ∃ w2, w2 = w1.alloc (.cells #[.int .i64 r', .int .i64 c', s'] t') := ⟨_, rfl⟩
  have e1 : w1.heap.size = w.heap.size + 1 := by rw [hw1]; simp
  have e2 : w2.heap.size = w.heap.size + 2 := by rw [hw2]; simp [e1]
  rw [← hw1, ← hw2] at hb
  obtain ⟨h1, h2, h3⟩ := frameR hb
  rw [e2] at h1 h3
  rw [hw2] at h2
  obtain ⟨h7, h8, h9⟩ := frame0 h2
  rw [e1] at h7
  rw [hw1] at h8
  obtain ⟨h10, h11, h12⟩ := frame0 h8
  exact ⟨h10, h7, h1, h11, h3⟩
theorem upto_step {E : Nat → C} {k q : Nat} {v : C} (h : v = E k) : upto E (k + 1) q = if q = k then v else upto E k q := by
  unfold upto
  by_cases h1 : q = k
  · rw [if_pos (by omega), if_pos h1, h, h1]
  · rw [if_neg h1]
    by_cases h2 : q < k
    · rw [if_pos (by omega), if_pos h2]
    · rw [if_neg (by omega), if_neg h2]
theorem upto_end (E : Nat → C) (n : Nat) : (List.range n).map (upto E n) = (List.range n).map E :=
  List.map_congr_left fun q hq => by unfold upto; rw [if_pos (List.mem_range.1 hq)]
theorem ent_self (l : List C) (c q : Nat) : ent l c (q / c) (q % c) = cnC (l.getD q (0, 0)) := by
  unfold ent; rw [Nat.mul_comm, Nat.div_add_mod]
set_option maxHeartbeats 2000000 in
theorem rboth_add (rows cols N : Nat) (A B : Option Addr) (la lb : List C) (capa capb : Nat) (w : World) (hr : rows ≤ 64) (hc : cols ≤ 64) (hN : rows * cols = N) (hla : la.length = N) (hlb : lb.length = N)
    (hA : Reads w w.heap.size A (nums la)) (hB : Reads w w.heap.size B (nums lb)) :
    Calls Try.prog 74 #[mval rows cols (.slice A N capa), mval rows cols (.slice B N capb), .bool false] w (RetMxE rows cols ((List.range N).map fun q => pAdd (cnC (la.getD q (0, 0))) (cnC (lb.getD q (0, 0)))) 0 w) := by
  have hN4 : N ≤ 4096 := hN ▸ prod_small hr hc
  have HC := Lib.hid (rIs_c rows cols A N capa)
  have HD := Lib.hid (rIs_c rows cols B N capb)
  have ho : okM rows cols N = true := okM_iff.2 ⟨by omega, by omega, by omega, by omega, by rw [← hN, Int.natCast_mul]⟩
  rw [ho] at HC HD
  have HBl := Lib.hid (fun W => Blank_of rows cols N hN4 (by rw [← Int.natCast_mul, hN]; exact wrap_small _ hN4) W)
  have HLa := Lib.hid hla
  have HLb := Lib.hid hlb
  have HA := Lib.hid hA
  have HBb := Lib.hid hB
  have HN4 := Lib.hid hN4
  clear ho hla hlb hA hB hN hN4 hr hc
  go_enter Try.func74, Try.ntmps74
  go_wp2_with fail
  refine (HC.out _).mono ?_
  rintro e W1 ⟨rfl, hb⟩
  obtain ⟨⟨b0, b1, b2⟩, ⟨d0, d1, d2⟩, hrow, hbl, hs1⟩ := frame2r hb
  have HRow := Lib.hid hrow
  have HB := Lib.hid hbl
  have HS := Lib.hid hs1
  have HX := Lib.hid (And.intro b0 (And.intro b1 b2))
  have HY := Lib.hid (And.intro d0 (And.intro d1 d2))
  clear hb hbl hrow hs1
  go_wp2_with fail
  refine (HD.out _).mono ?_
  rintro e W2 ⟨rfl, hb2⟩
  have l0 : w.heap.size < W1.heap.size := by have := HS.out; omega
  have l1 : w.heap.size + 1 < W1.heap.size := by have := HS.out; omega
  have HX2 := Lib.hid (Box.below (W := W1) HX.out hb2 l0)
  have HY2 := Lib.hid (Box.below (W := W1) HY.out hb2 l1)
  have HRow2 := Lib.hid (row_keep hb2 HRow.out)
  have HB2 := Lib.hid (HB.out.trans (hb2.mono (Nat.le_of_lt l0)))
  have HS2 := Lib.hid (Nat.le_trans HS.out hb2.size)
  clear hb2 l0 l1 b0 b1 b2 d0 d1 d2 HX HY HRow HB HS
  obtain ⟨b0, b1, b2⟩ := HX2.out
  obtain ⟨d0, d1, d2⟩ := HY2.out
  go_wp2_with fail
  refine (HBl.out _).mono ?_
  rintro e W3 ⟨g, rfl, hg, hgl, hb3⟩
  have l0 : w.heap.size < W2.heap.size := by have := HS2.out; omega
  have l1 : w.heap.size + 1 < W2.heap.size := by have := HS2.out; omega
  have HG := Lib.hid (show w.heap.size + 2 < g by have := HS2.out; omega)
  have HG2 := Lib.hid (row_lt hg)
  have HX3 := Lib.hid (Box.below (W := W2) HX2.out hb3 l0)
  have HY3 := Lib.hid (Box.below (W := W2) HY2.out hb3 l1)
  have HS3 := Lib.hid (Nat.le_trans HS2.out hb3.size)
  have HB3 := Lib.hid (HB2.out.trans (hb3.mono (Nat.le_of_lt l0)))
  have HW := Lib.hid (FillW.start (F := upto (fun q => pAdd (cnC (la.getD q (0, 0))) (cnC (lb.getD q (0, 0)))) 0) (r := (rows : Nat)) (c := (cols : Nat)) hg (row_keep hb3 HRow2.out) HB3.out (fun q _ => by unfold upto; rw [if_neg (Nat.not_lt_zero _)]))
  clear hg hgl hb3 l0 l1 b0 b1 b2 d0 d1 d2 HX2 HY2 HS2 HB2 HRow2
  go_wp2
  go_loopw [9] (fun i wr => ∃ k : Nat, k ≤ N ∧ i = .int .i64 (k : Nat) ∧ Below (w.heap.size + 2) W3 wr ∧ FillW w (w.heap.size + 2) W3.heap.size g rows cols N (upto (fun q => pAdd (cnC (la.getD q (0, 0))) (cnC (lb.getD q (0, 0)))) k) wr) (fun i _ => N - (intOf i).toNat)
  case atStart => exact ⟨0, Nat.zero_le _, rfl, (below_new _ _).mono (by have := HS3.out; omega), HW.out⟩
  case round =>
    obtain ⟨k, hk, rfl, hbw, hf⟩ := hrel
    have HF := Lib.hid hf
    have HBW := Lib.hid hbw
    clear hf hbw
    by_cases hlt : k < N
    · have hlti : (k : Int) < (N : Int) := by omega
      have hkb : k < 4611686018427387904 := by have := HN4.out; omega
      obtain ⟨za, hza⟩ := some_of_lt (l := la) (k := k) (by rw [HLa.out]; exact hlt)
      obtain ⟨zb, hzb⟩ := some_of_lt (l := lb) (k := k) (by rw [HLb.out]; exact hlt)
      have hE : (fun q => pAdd (cnC (la.getD q (0, 0))) (cnC (lb.getD q (0, 0)))) k = pAdd (cnC za) (cnC zb) := by
        simp only [List.getD_eq_getElem?_getD, hza, hzb, Option.getD_some]
      have HE := Lib.hid hE
      have hva : (nums la)[k]? = some (.complex .f64 za.1 za.2) := by simp [nums, hza]
      have hvb : (nums lb)[k]? = some (.complex .f64 zb.1 zb.2) := by simp [nums, hzb]
      have hW3 : Below w.heap.size w wr := HB3.out.trans (HBW.out.mono (by omega))
      obtain ⟨ada, rfl, hba, hca⟩ := (HA.out.below hW3).at_ hva
      obtain ⟨adb, rfl, hbb, hcb⟩ := (HBb.out.below hW3).at_ hvb
      have hsz : w.heap.size + 3 ≤ wr.heap.size := Nat.le_trans HS3.out HBW.out.size
      have hkeep : ∀ V, Below wr.heap.size wr V → (V.cell? ⟨w.heap.size, 2, none⟩ = some (.slice (some ada) N capa) ∧ V.cell? ⟨w.heap.size + 1, 2, none⟩ = some (.slice (some adb) N capb) ∧ V.cell? ⟨W3.heap.size, 2, none⟩ = some (.slice (some ⟨g, 0, none⟩) N N)) ∧
          V.cell? (ada.add k) = some (.complex .f64 za.1 za.2) ∧ V.cell? (adb.add k) = some (.complex .f64 zb.1 zb.2) ∧ (∃ u, V.cell? ⟨g, k, none⟩ = some u) ∧ V.frozen? ⟨g, k, none⟩ = false := fun V hV => by
        have hV2 := HBW.out.trans (hV.mono (by omega))
        have hF2 := HF.out.below hV
        obtain ⟨-, -, x3⟩ := hF2.cells
        obtain ⟨x4, x5⟩ := hF2.place hlt
        exact ⟨⟨(Box.below (W := W3) HX3.out hV2 (by omega)).2.2, (Box.below (W := W3) HY3.out hV2 (by omega)).2.2, x3⟩,
          (hV.cell (p := ada.add k) (by rw [block_of_add]; omega)).trans hca, (hV.cell (p := adb.add k) (by rw [block_of_add]; omega)).trans hcb, x4, x5⟩
      have hkeep2 : ∀ V v, Below wr.heap.size wr V → ((V.setCell ⟨g, k, none⟩ v).cell? ⟨w.heap.size, 2, none⟩ = some (.slice (some ada) N capa) ∧ (V.setCell ⟨g, k, none⟩ v).cell? ⟨w.heap.size + 1, 2, none⟩ = some (.slice (some adb) N capb) ∧ (V.setCell ⟨g, k, none⟩ v).cell? ⟨W3.heap.size, 2, none⟩ = some (.slice (some ⟨g, 0, none⟩) N N)) ∧
          (V.setCell ⟨g, k, none⟩ v).cell? (ada.add k) = some (.complex .f64 za.1 za.2) ∧ (V.setCell ⟨g, k, none⟩ v).cell? (adb.add k) = some (.complex .f64 zb.1 zb.2) ∧ (∃ u, (V.setCell ⟨g, k, none⟩ v).cell? ⟨g, k, none⟩ = some u) ∧ (V.setCell ⟨g, k, none⟩ v).frozen? ⟨g, k, none⟩ = false := fun V v hV => by
        obtain ⟨⟨y1, y2, y3⟩, y4, y5, ⟨u, y6⟩, y7⟩ := hkeep V hV
        have hg1 := HG.out
        have hg2 := HG2.out
        have no : ∀ p : Addr, p.block ≠ g → (V.setCell ⟨g, k, none⟩ v).cell? p = V.cell? p := fun p hp => World.cell?_setCell_other _ _ _ _ (fun e => hp (by rw [← e]))
        exact ⟨⟨(no _ (by show w.heap.size ≠ g; omega)).trans y1, (no _ (by show w.heap.size + 1 ≠ g; omega)).trans y2, (no _ (by show W3.heap.size ≠ g; omega)).trans y3⟩, (no _ (by rw [block_of_add]; omega)).trans y4, (no _ (by rw [block_of_add]; omega)).trans y5, ⟨_, World.cell?_setCell_same _ _ _ y6⟩, by rw [World.frozen?_setCell]; exact y7⟩
      have HK := Lib.hid hkeep
      have HK2 := Lib.hid hkeep2
      obtain ⟨⟨x1, x2, x3⟩, x4, x5, ⟨u, x6⟩, x7⟩ := hkeep wr (Below.refl _ _)
      clear hkeep hkeep2 hza hzb hE hva hvb hW3 hba hbb hca hcb
      go_wp2_with fail
      go_region_held3 (fun V => (V.cell? ⟨w.heap.size, 2, none⟩ = some (.slice (some ada) N capa) ∧ V.cell? ⟨w.heap.size + 1, 2, none⟩ = some (.slice (some adb) N capb) ∧ V.cell? ⟨W3.heap.size, 2, none⟩ = some (.slice (some ⟨g, 0, none⟩) N N)) ∧
          V.cell? (ada.add k) = some (.complex .f64 za.1 za.2) ∧ V.cell? (adb.add k) = some (.complex .f64 zb.1 zb.2) ∧ (∃ u, V.cell? ⟨g, k, none⟩ = some u) ∧ V.frozen? ⟨g, k, none⟩ = false)
        (first
        | (with_reducible refine HK2.out _ _ ?_; (repeat (first | with_reducible assumption | with_reducible refine Below.drew ?_ | with_reducible exact Below.refl _ _)); done)
        | (with_reducible refine HK.out _ ?_; (repeat (first | with_reducible assumption | with_reducible refine Below.new ?_ (Nat.le_refl _) _ | with_reducible refine Below.drew ?_ | with_reducible exact Below.refl _ _)); done))
        (first
        | (go_at_call 71; (with_reducible refine (from_c (B := wr.heap.size) (w := wr) (rAdd_c _ _ _ _ _) ?_).mono ?_); (repeat (first | with_reducible assumption | with_reducible refine Below.new ?_ (Nat.le_refl _) _ | with_reducible refine Below.drew ?_ | with_reducible exact Below.refl _ _)); (rintro e V ⟨x, rfl, hx, lx, hV⟩); (obtain ⟨⟨y1, y2, y3⟩, y4, y5, ⟨u', y6⟩, y7⟩ := HK.out V hV)))
      all_goals
        have HVV := Lib.hid hV
        have HXX := Lib.hid hx
        have HLX := Lib.hid lx
        clear hV hx lx x1 x2 x3 x4 x5 x6 x7 y1 y2 y3 y4 y5 y6 y7 HK HK2
        go_wp2
        go_roundw
        case rel =>
          refine ⟨k + 1, hlt, by go_num, ?_, ?_⟩
          · exact (HBW.out.trans (HVV.out.mono (by omega))).setCell (Nat.le_of_lt HG.out) _
          · exact (HF.out.below HVV.out).set hlt HLX.out (fun q _ => upto_step (by rw [HE.out]; exact HXX.out)) (by have := HG.out; omega) (Nat.ne_of_lt HG.out) (Nat.ne_of_gt HG2.out)
        case measure => simp [intOf]; omega
    · have e : k = N := by omega
      subst e
      have hlti : ((k : Int) < (k : Int)) = False := by simp
      obtain ⟨x, y, z⟩ := HF.out.cells
      have HR2 : wr.heap[w.heap.size + 2]? = some zrow := by obtain ⟨zs, _, _, _, _, h5, _⟩ := HF.out; exact h5
      obtain ⟨r0, r1, r2, fr⟩ := box3 HR2
      have f0 := fr 0
      have f1 := fr 1
      have f2 := fr 2
      clear fr
      go_wp2
      obtain ⟨q0, q1, q2⟩ := set3 (u := .int .i64 (rows : Nat)) (v := .int .i64 (cols : Nat)) (t := .slice (some ⟨g, 0, none⟩) k k) r0 r1 r2
      refine bodyPost_ret (v := .tuple #[mval rows cols (.slice (some ⟨g, 0, none⟩) k k), .int .i64 0]) (by simp [results, Try.results74, go_sem, q0, q1, q2]) rfl ?_
      have h := HF.out.close (er := 0) (by omega) HG.out rfl HN4.out
      rwa [upto_end] at h
set_option maxHeartbeats 2000000 in
theorem rboth_sub (rows cols N : Nat) (A B : Option Addr) (la lb : List C) (capa capb : Nat) (w : World) (hr : rows ≤ 64) (hc : cols ≤ 64) (hN : rows * cols = N) (hla : la.length = N) (hlb : lb.length = N)
    (hA : Reads w w.heap.size A (nums la)) (hB : Reads w w.heap.size B (nums lb)) :
    Calls Try.prog 74 #[mval rows cols (.slice A N capa), mval rows cols (.slice B N capb), .bool true] w (RetMxE rows cols ((List.range N).map fun q => pSub (cnC (la.getD q (0, 0))) (cnC (lb.getD q (0, 0)))) 0 w) := by
  have hN4 : N ≤ 4096 := hN ▸ prod_small hr hc
  have HC := Lib.hid (rIs_c rows cols A N capa)
  have HD := Lib.hid (rIs_c rows cols B N capb)
  have ho : okM rows cols N = true := okM_iff.2 ⟨by omega, by omega, by omega, by omega, by rw [← hN, Int.natCast_mul]⟩
  rw [ho] at HC HD
  have HBl := Lib.hid (fun W => Blank_of rows cols N hN4 (by rw [← Int.natCast_mul, hN]; exact wrap_small _ hN4) W)
  have HLa := Lib.hid hla
  have HLb := Lib.hid hlb
  have HA := Lib.hid hA
  have HBb := Lib.hid hB
  have HN4 := Lib.hid hN4
  clear ho hla hlb hA hB hN hN4 hr hc
  go_enter Try.func74, Try.ntmps74
  go_wp2_with fail
  refine (HC.out _).mono ?_
  rintro e W1 ⟨rfl, hb⟩
  obtain ⟨⟨b0, b1, b2⟩, ⟨d0, d1, d2⟩, hrow, hbl, hs1⟩ := frame2r hb
  have HRow := Lib.hid hrow
  have HB := Lib.hid hbl
  have HS := Lib.hid hs1
  have HX := Lib.hid (And.intro b0 (And.intro b1 b2))
  have HY := Lib.hid (And.intro d0 (And.intro d1 d2))
  clear hb hbl hrow hs1
  go_wp2_with fail
  refine (HD.out _).mono ?_
  rintro e W2 ⟨rfl, hb2⟩
  have l0 : w.heap.size < W1.heap.size := by have := HS.out; omega
  have l1 : w.heap.size + 1 < W1.heap.size := by have := HS.out; omega
  have HX2 := Lib.hid (Box.below (W := W1) HX.out hb2 l0)
  have HY2 := Lib.hid (Box.below (W := W1) HY.out hb2 l1)
  have HRow2 := Lib.hid (row_keep hb2 HRow.out)
  have HB2 := Lib.hid (HB.out.trans (hb2.mono (Nat.le_of_lt l0)))
  have HS2 := Lib.hid (Nat.le_trans HS.out hb2.size)
  clear hb2 l0 l1 b0 b1 b2 d0 d1 d2 HX HY HRow HB HS
  obtain ⟨b0, b1, b2⟩ := HX2.out
  obtain ⟨d0, d1, d2⟩ := HY2.out
  go_wp2_with fail
  refine (HBl.out _).mono ?_
  rintro e W3 ⟨g, rfl, hg, hgl, hb3⟩
  have l0 : w.heap.size < W2.heap.size := by have := HS2.out; omega
  have l1 : w.heap.size + 1 < W2.heap.size := by have := HS2.out; omega
  have HG := Lib.hid (show w.heap.size + 2 < g by have := HS2.out; omega)
  have HG2 := Lib.hid (row_lt hg)
  have HX3 := Lib.hid (Box.below (W := W2) HX2.out hb3 l0)
  have HY3 := Lib.hid (Box.below (W := W2) HY2.out hb3 l1)
  have HS3 := Lib.hid (Nat.le_trans HS2.out hb3.size)
  have HB3 := Lib.hid (HB2.out.trans (hb3.mono (Nat.le_of_lt l0)))
  have HW := Lib.hid (FillW.start (F := upto (fun q => pSub (cnC (la.getD q (0, 0))) (cnC (lb.getD q (0, 0)))) 0) (r := (rows : Nat)) (c := (cols : Nat)) hg (row_keep hb3 HRow2.out) HB3.out (fun q _ => by unfold upto; rw [if_neg (Nat.not_lt_zero _)]))
  clear hg hgl hb3 l0 l1 b0 b1 b2 d0 d1 d2 HX2 HY2 HS2 HB2 HRow2
  go_wp2
  go_loopw [9] (fun i wr => ∃ k : Nat, k ≤ N ∧ i = .int .i64 (k : Nat) ∧ Below (w.heap.size + 2) W3 wr ∧ FillW w (w.heap.size + 2) W3.heap.size g rows cols N (upto (fun q => pSub (cnC (la.getD q (0, 0))) (cnC (lb.getD q (0, 0)))) k) wr) (fun i _ => N - (intOf i).toNat)
  case atStart => exact ⟨0, Nat.zero_le _, rfl, (below_new _ _).mono (by have := HS3.out; omega), HW.out⟩
  case round =>
    obtain ⟨k, hk, rfl, hbw, hf⟩ := hrel
    have HF := Lib.hid hf
    have HBW := Lib.hid hbw
    clear hf hbw
    by_cases hlt : k < N
    · have hlti : (k : Int) < (N : Int) := by omega
      have hkb : k < 4611686018427387904 := by have := HN4.out; omega
      obtain ⟨za, hza⟩ := some_of_lt (l := la) (k := k) (by rw [HLa.out]; exact hlt)
      obtain ⟨zb, hzb⟩ := some_of_lt (l := lb) (k := k) (by rw [HLb.out]; exact hlt)
      have hE : (fun q => pSub (cnC (la.getD q (0, 0))) (cnC (lb.getD q (0, 0)))) k = pSub (cnC za) (cnC zb) := by
        simp only [List.getD_eq_getElem?_getD, hza, hzb, Option.getD_some]
      have HE := Lib.hid hE
      have hva : (nums la)[k]? = some (.complex .f64 za.1 za.2) := by simp [nums, hza]
      have hvb : (nums lb)[k]? = some (.complex .f64 zb.1 zb.2) := by simp [nums, hzb]
      have hW3 : Below w.heap.size w wr := HB3.out.trans (HBW.out.mono (by omega))
      obtain ⟨ada, rfl, hba, hca⟩ := (HA.out.below hW3).at_ hva
      obtain ⟨adb, rfl, hbb, hcb⟩ := (HBb.out.below hW3).at_ hvb
      have hsz : w.heap.size + 3 ≤ wr.heap.size := Nat.le_trans HS3.out HBW.out.size
      have hkeep : ∀ V, Below wr.heap.size wr V → (V.cell? ⟨w.heap.size, 2, none⟩ = some (.slice (some ada) N capa) ∧ V.cell? ⟨w.heap.size + 1, 2, none⟩ = some (.slice (some adb) N capb) ∧ V.cell? ⟨W3.heap.size, 2, none⟩ = some (.slice (some ⟨g, 0, none⟩) N N)) ∧
          V.cell? (ada.add k) = some (.complex .f64 za.1 za.2) ∧ V.cell? (adb.add k) = some (.complex .f64 zb.1 zb.2) ∧ (∃ u, V.cell? ⟨g, k, none⟩ = some u) ∧ V.frozen? ⟨g, k, none⟩ = false := fun V hV => by
        have hV2 := HBW.out.trans (hV.mono (by omega))
        have hF2 := HF.out.below hV
        obtain ⟨-, -, x3⟩ := hF2.cells
        obtain ⟨x4, x5⟩ := hF2.place hlt
        exact ⟨⟨(Box.below (W := W3) HX3.out hV2 (by omega)).2.2, (Box.below (W := W3) HY3.out hV2 (by omega)).2.2, x3⟩,
          (hV.cell (p := ada.add k) (by rw [block_of_add]; omega)).trans hca, (hV.cell (p := adb.add k) (by rw [block_of_add]; omega)).trans hcb, x4, x5⟩
      have hkeep2 : ∀ V v, Below wr.heap.size wr V → ((V.setCell ⟨g, k, none⟩ v).cell? ⟨w.heap.size, 2, none⟩ = some (.slice (some ada) N capa) ∧ (V.setCell ⟨g, k, none⟩ v).cell? ⟨w.heap.size + 1, 2, none⟩ = some (.slice (some adb) N capb) ∧ (V.setCell ⟨g, k, none⟩ v).cell? ⟨W3.heap.size, 2, none⟩ = some (.slice (some ⟨g, 0, none⟩) N N)) ∧
          (V.setCell ⟨g, k, none⟩ v).cell? (ada.add k) = some (.complex .f64 za.1 za.2) ∧ (V.setCell ⟨g, k, none⟩ v).cell? (adb.add k) = some (.complex .f64 zb.1 zb.2) ∧ (∃ u, (V.setCell ⟨g, k, none⟩ v).cell? ⟨g, k, none⟩ = some u) ∧ (V.setCell ⟨g, k, none⟩ v).frozen? ⟨g, k, none⟩ = false := fun V v hV => by
        obtain ⟨⟨y1, y2, y3⟩, y4, y5, ⟨u, y6⟩, y7⟩ := hkeep V hV
        have hg1 := HG.out
        have hg2 := HG2.out
        have no : ∀ p : Addr, p.block ≠ g → (V.setCell ⟨g, k, none⟩ v).cell? p = V.cell? p := fun p hp => World.cell?_setCell_other _ _ _ _ (fun e => hp (by rw [← e]))
        exact ⟨⟨(no _ (by show w.heap.size ≠ g; omega)).trans y1, (no _ (by show w.heap.size + 1 ≠ g; omega)).trans y2, (no _ (by show W3.heap.size ≠ g; omega)).trans y3⟩, (no _ (by rw [block_of_add]; omega)).trans y4, (no _ (by rw [block_of_add]; omega)).trans y5, ⟨_, World.cell?_setCell_same _ _ _ y6⟩, by rw [World.frozen?_setCell]; exact y7⟩
      have HK := Lib.hid hkeep
      have HK2 := Lib.hid hkeep2
      obtain ⟨⟨x1, x2, x3⟩, x4, x5, ⟨u, x6⟩, x7⟩ := hkeep wr (Below.refl _ _)
      clear hkeep hkeep2 hza hzb hE hva hvb hW3 hba hbb hca hcb
      go_wp2_with fail
      go_region_held3 (fun V => (V.cell? ⟨w.heap.size, 2, none⟩ = some (.slice (some ada) N capa) ∧ V.cell? ⟨w.heap.size + 1, 2, none⟩ = some (.slice (some adb) N capb) ∧ V.cell? ⟨W3.heap.size, 2, none⟩ = some (.slice (some ⟨g, 0, none⟩) N N)) ∧
          V.cell? (ada.add k) = some (.complex .f64 za.1 za.2) ∧ V.cell? (adb.add k) = some (.complex .f64 zb.1 zb.2) ∧ (∃ u, V.cell? ⟨g, k, none⟩ = some u) ∧ V.frozen? ⟨g, k, none⟩ = false)
        (first
        | (with_reducible refine HK2.out _ _ ?_; (repeat (first | with_reducible assumption | with_reducible refine Below.drew ?_ | with_reducible exact Below.refl _ _)); done)
        | (with_reducible refine HK.out _ ?_; (repeat (first | with_reducible assumption | with_reducible refine Below.new ?_ (Nat.le_refl _) _ | with_reducible refine Below.drew ?_ | with_reducible exact Below.refl _ _)); done))
        (first
        | (go_at_call 96; (with_reducible refine (from_c (B := wr.heap.size) (w := wr) (rSub_c _ _ _ _ _) ?_).mono ?_); (repeat (first | with_reducible assumption | with_reducible refine Below.new ?_ (Nat.le_refl _) _ | with_reducible refine Below.drew ?_ | with_reducible exact Below.refl _ _)); (rintro e V ⟨x, rfl, hx, lx, hV⟩); (obtain ⟨⟨y1, y2, y3⟩, y4, y5, ⟨u', y6⟩, y7⟩ := HK.out V hV)))
      all_goals
        have HVV := Lib.hid hV
        have HXX := Lib.hid hx
        have HLX := Lib.hid lx
        clear hV hx lx x1 x2 x3 x4 x5 x6 x7 y1 y2 y3 y4 y5 y6 y7 HK HK2
        go_wp2
        go_roundw
        case rel =>
          refine ⟨k + 1, hlt, by go_num, ?_, ?_⟩
          · exact (HBW.out.trans (HVV.out.mono (by omega))).setCell (Nat.le_of_lt HG.out) _
          · exact (HF.out.below HVV.out).set hlt HLX.out (fun q _ => upto_step (by rw [HE.out]; exact HXX.out)) (by have := HG.out; omega) (Nat.ne_of_lt HG.out) (Nat.ne_of_gt HG2.out)
        case measure => simp [intOf]; omega
    · have e : k = N := by omega
      subst e
      have hlti : ((k : Int) < (k : Int)) = False := by simp
      obtain ⟨x, y, z⟩ := HF.out.cells
      have HR2 : wr.heap[w.heap.size + 2]? = some zrow := by obtain ⟨zs, _, _, _, _, h5, _⟩ := HF.out; exact h5
      obtain ⟨r0, r1, r2, fr⟩ := box3 HR2
      have f0 := fr 0
      have f1 := fr 1
      have f2 := fr 2
      clear fr
      go_wp2
      obtain ⟨q0, q1, q2⟩ := set3 (u := .int .i64 (rows : Nat)) (v := .int .i64 (cols : Nat)) (t := .slice (some ⟨g, 0, none⟩) k k) r0 r1 r2
      refine bodyPost_ret (v := .tuple #[mval rows cols (.slice (some ⟨g, 0, none⟩) k k), .int .i64 0]) (by simp [results, Try.results74, go_sem, q0, q1, q2]) rfl ?_
      have h := HF.out.close (er := 0) (by omega) HG.out rfl HN4.out
      rwa [upto_end] at h
theorem rboth_first (ra ca rb cb : Int) (A B : Option Addr) (na nb capa capb : Nat) (less : Bool) (w : World) (h : okM ra ca na = false) :
    Calls Try.prog 74 #[mval ra ca (.slice A na capa), mval rb cb (.slice B nb capb), .bool less] w (RetMxE 0 0 [] 4 w) := by
  have HC := Lib.hid (rIs_c ra ca A na capa)
  rw [h] at HC
  go_enter Try.func74, Try.ntmps74
  go_wp2_with fail
  refine (HC.out _).mono ?_
  rintro e W1 ⟨rfl, hb⟩
  obtain ⟨⟨b0, b1, b2⟩, ⟨d0, d1, d2⟩, hrow, hbl, hs1⟩ := frame2r hb
  obtain ⟨r0, r1, r2, fr⟩ := box3 hrow
  have f0 := fr 0
  have f1 := fr 1
  have f2 := fr 2
  have HB := Lib.hid hbl
  clear hb hbl hrow fr h hs1
  go_wp2
  obtain ⟨q0, q1, q2⟩ := set3 (u := .int .i64 0) (v := .int .i64 0) (t := .slice none 0 0) r0 r1 r2
  refine bodyPost_ret (v := .tuple #[mval 0 0 (.slice none 0 0), .int .i64 4]) (by simp [results, Try.results74, go_sem, q0, q1, q2]) rfl ?_
  exact close_mx (zs := []) rfl (by simp [ltCs]) (World.ownsRow_nil _ _ _ _) HB.out (by omega)
theorem rboth_second (ra ca rb cb : Int) (A B : Option Addr) (na nb capa capb : Nat) (less : Bool) (w : World) (h : okM ra ca na = true) (h' : okM rb cb nb = false ∨ (ra == rb) = false ∨ ((ra == rb) = true ∧ (ca == cb) = false)) :
    Calls Try.prog 74 #[mval ra ca (.slice A na capa), mval rb cb (.slice B nb capb), .bool less] w (RetMxE 0 0 [] 4 w) := by
  have HC := Lib.hid (rIs_c ra ca A na capa)
  have HD := Lib.hid (rIs_c rb cb B nb capb)
  rw [h] at HC
  go_enter Try.func74, Try.ntmps74
  go_wp2_with fail
  refine (HC.out _).mono ?_
  rintro e W1 ⟨rfl, hb⟩
  obtain ⟨⟨b0, b1, b2⟩, ⟨d0, d1, d2⟩, hrow, hbl, hs1⟩ := frame2r hb
  have HRow := Lib.hid hrow
  have HB := Lib.hid hbl
  have HS := Lib.hid hs1
  have HX := Lib.hid (And.intro b0 (And.intro b1 b2))
  have HY := Lib.hid (And.intro d0 (And.intro d1 d2))
  clear hb hbl hrow h hs1
  go_wp2_with fail
  refine (HD.out _).mono ?_
  rintro e W2 ⟨rfl, hb2⟩
  have l0 : w.heap.size < W1.heap.size := by have := HS.out; omega
  have l1 : w.heap.size + 1 < W1.heap.size := by have := HS.out; omega
  obtain ⟨e0, e1, e2⟩ := Box.below (W := W1) HX.out hb2 l0
  obtain ⟨g0, g1, g2⟩ := Box.below (W := W1) HY.out hb2 l1
  obtain ⟨r0, r1, r2, fr⟩ := box3 (row_keep hb2 HRow.out)
  have f0 := fr 0
  have f1 := fr 1
  have f2 := fr 2
  have HB2 := Lib.hid (HB.out.trans (hb2.mono (Nat.le_of_lt l0)))
  clear hb2 fr l0 l1 b0 b1 b2 d0 d1 d2
  rcases h' with h' | h' | ⟨h', h''⟩
  · rw [h']
    go_wp2
    obtain ⟨q0, q1, q2⟩ := set3 (u := .int .i64 0) (v := .int .i64 0) (t := .slice none 0 0) r0 r1 r2
    refine bodyPost_ret (v := .tuple #[mval 0 0 (.slice none 0 0), .int .i64 4]) (by simp [results, Try.results74, go_sem, q0, q1, q2]) rfl ?_
    exact close_mx (zs := []) rfl (by simp [ltCs]) (World.ownsRow_nil _ _ _ _) HB2.out (by omega)
  · go_wp2
    all_goals
      obtain ⟨q0, q1, q2⟩ := set3 (u := .int .i64 0) (v := .int .i64 0) (t := .slice none 0 0) r0 r1 r2
      refine bodyPost_ret (v := .tuple #[mval 0 0 (.slice none 0 0), .int .i64 4]) (by simp [results, Try.results74, go_sem, q0, q1, q2]) rfl ?_
      exact close_mx (zs := []) rfl (by simp [ltCs]) (World.ownsRow_nil _ _ _ _) HB2.out (by omega)
  · have e1 : ra = rb := by simpa using h'
    subst e1
    clear h'
    go_wp2
    all_goals
      obtain ⟨q0, q1, q2⟩ := set3 (u := .int .i64 0) (v := .int .i64 0) (t := .slice none 0 0) r0 r1 r2
      refine bodyPost_ret (v := .tuple #[mval 0 0 (.slice none 0 0), .int .i64 4]) (by simp [results, Try.results74, go_sem, q0, q1, q2]) rfl ?_
      exact close_mx (zs := []) rfl (by simp [ltCs]) (World.ownsRow_nil _ _ _ _) HB2.out (by omega)
set_option maxHeartbeats 1000000 in
theorem rMSub_of (ra ca rb cb R C : Int) (A B : Option Addr) (na nb capa capb : Nat) (l : List Fl.C) (er : Int) (w : World)
    (hB : ∀ V, Below w.heap.size w V → Calls Try.prog 74 #[mval ra ca (.slice A na capa), mval rb cb (.slice B nb capb), .bool true] V (RetMxE R C l er V)) :
    Calls Try.prog 38 #[mval ra ca (.slice A na capa), mval rb cb (.slice B nb capb)] w (RetMxE R C l er w) := by
  have HC := Lib.hid hB
  clear hB
  have hb0 : Below w.heap.size w (((w.alloc (.cells #[.int .i64 ra, .int .i64 ca, .slice A na capa] 28)).alloc (.cells #[.int .i64 rb, .int .i64 cb, .slice B nb capb] 28)).alloc (.cells #[.int .i64 0, .int .i64 0, .slice none 0 0] 28)) :=
    (((Below.refl _ w).new (Nat.le_refl _) _).new (Nat.le_refl _) _).new (Nat.le_refl _) _
  have HB0 := Lib.hid hb0
  clear hb0
  go_enter Try.func38, Try.ntmps38
  go_wp2_with fail
  refine (HC.out _ HB0.out).mono ?_
  rintro e W1 ⟨s, zs, rfl, hz, hlz, hown, hb⟩
  obtain ⟨-, -, hrow, hbl, hs1⟩ := frame2 hb
  obtain ⟨r0, r1, r2, fr⟩ := box3 hrow
  have f0 := fr 0
  have f1 := fr 1
  have f2 := fr 2
  obtain ⟨sA, sn, sc, rfl, -⟩ := slice_of_own hown
  have HO := Lib.hid (own_base hown (show w.heap.size + 2 + 1 ≤ _ by simp))
  have HZ := Lib.hid hz
  have HL := Lib.hid hlz
  have HB := Lib.hid hbl
  clear hb hbl hrow fr hs1 hz hlz hown
  go_wp2
  obtain ⟨q0, q1, q2⟩ := set3 (u := .int .i64 R) (v := .int .i64 C) (t := .slice sA sn sc) r0 r1 r2
  refine bodyPost_ret (v := .tuple #[mval R C (.slice sA sn sc), .int .i64 er]) (by simp [results, Try.results38, go_sem, q0, q1, q2]) rfl ?_
  exact close_mx HZ.out HL.out HO.out HB.out (by omega)
theorem rMSub_c (rows cols : Nat) (A B : Option Addr) (la lb : List C) (capa capb : Nat) (w : World) (hr : rows ≤ 64) (hc : cols ≤ 64) (hla : la.length = rows * cols) (hlb : lb.length = rows * cols)
    (hA : Reads w w.heap.size A (nums la)) (hB : Reads w w.heap.size B (nums lb)) :
    Calls Try.prog 38 #[mval rows cols (.slice A la.length capa), mval rows cols (.slice B lb.length capb)] w (RetMxE rows cols (entries cols (fun i j => pSub (ent la cols i j) (ent lb cols i j)) (rows * cols)) 0 w) :=
  rMSub_of _ _ _ _ _ _ A B _ _ capa capb _ 0 w fun V hV => by
    have h := rboth_sub rows cols (rows * cols) A B la lb capa capb V hr hc rfl hla hlb ((hA.below hV).more hV.size) ((hB.below hV).more hV.size)
    rw [hla, hlb]
    rwa [show (List.range (rows * cols)).map (fun q => pSub (cnC (la.getD q (0, 0))) (cnC (lb.getD q (0, 0)))) = entries cols (fun i j => pSub (ent la cols i j) (ent lb cols i j)) (rows * cols) from
      List.map_congr_left fun q _ => by unfold entry; show _ = pSub (ent la cols (q / cols) (q % cols)) (ent lb cols (q / cols) (q % cols)); rw [ent_self, ent_self]] at h
theorem rMSub_bad (ra ca rb cb : Int) (A B : Option Addr) (na nb capa capb : Nat) (w : World) (h : (okM ra ca na && okM rb cb nb && (ra == rb) && (ca == cb)) = false) :
    Calls Try.prog 38 #[mval ra ca (.slice A na capa), mval rb cb (.slice B nb capb)] w (RetMxE 0 0 [] 4 w) :=
  rMSub_of _ _ _ _ _ _ A B _ _ capa capb _ 4 w fun V _ => by
    rcases both_bad_of h with h | ⟨h, h'⟩
    · exact rboth_first ra ca rb cb A B na nb capa capb true V h
    · exact rboth_second ra ca rb cb A B na nb capa capb true V h h'
end Go.Proofs.Ytajdfbjjgjpicaa
namespace Go.Proofs.Ytajdfbjjgjpicaa
open Go.RowKit Fl Ieee
set_option maxRecDepth 20000
attribute [local go_sem] run_store_float run_store_complex
theorem rMul_first (ra ca rb cb : Int) (A B : Option Addr) (na nb capa capb : Nat) (w : World) (h : okM ra ca na = false) :
    Calls Try.prog 36 #[mval ra ca (.slice A na capa), mval rb cb (.slice B nb capb)] w (RetMxE 0 0 [] 4 w) := by
  have HC := Lib.hid (rIs_c ra ca A na capa)
  rw [h] at HC
  go_enter Try.func36, Try.ntmps36
  go_wp2_with fail
  refine (HC.out _).mono ?_
  rintro e W1 ⟨rfl, hb⟩
  obtain ⟨⟨b0, b1, b2⟩, ⟨d0, d1, d2⟩, hrow, hbl, hs1⟩ := frame2 hb
  obtain ⟨r0, r1, r2, fr⟩ := box3 hrow
  have f0 := fr 0
  have f1 := fr 1
  have f2 := fr 2
  have HB := Lib.hid hbl
  clear hb hbl hrow fr h hs1
  go_wp2
  obtain ⟨q0, q1, q2⟩ := set3 (u := .int .i64 0) (v := .int .i64 0) (t := .slice none 0 0) r0 r1 r2
  refine bodyPost_ret (v := .tuple #[mval 0 0 (.slice none 0 0), .int .i64 4]) (by simp [results, Try.results36, go_sem, q0, q1, q2]) rfl ?_
  exact close_mx (zs := []) rfl (by simp [ltCs]) (World.ownsRow_nil _ _ _ _) HB.out (by omega)
theorem rMul_second (ra ca rb cb : Int) (A B : Option Addr) (na nb capa capb : Nat) (w : World) (h : okM ra ca na = true) (h' : okM rb cb nb = false ∨ (ca == rb) = false) :
    Calls Try.prog 36 #[mval ra ca (.slice A na capa), mval rb cb (.slice B nb capb)] w (RetMxE 0 0 [] 4 w) := by
  have HC := Lib.hid (rIs_c ra ca A na capa)
  have HD := Lib.hid (rIs_c rb cb B nb capb)
  rw [h] at HC
  go_enter Try.func36, Try.ntmps36
  go_wp2_with fail
  refine (HC.out _).mono ?_
  rintro e W1 ⟨rfl, hb⟩
  obtain ⟨⟨b0, b1, b2⟩, ⟨d0, d1, d2⟩, hrow, hbl, hs1⟩ := frame2 hb
  have HRow := Lib.hid hrow
  have HB := Lib.hid hbl
  have HS := Lib.hid hs1
  have HX := Lib.hid (And.intro b0 (And.intro b1 b2))
  have HY := Lib.hid (And.intro d0 (And.intro d1 d2))
  clear hb hbl hrow h hs1
  go_wp2_with fail
  refine (HD.out _).mono ?_
  rintro e W2 ⟨rfl, hb2⟩
  have l0 : w.heap.size < W1.heap.size := by have := HS.out; omega
  have l1 : w.heap.size + 1 < W1.heap.size := by have := HS.out; omega
  have l2 : w.heap.size + 2 < W1.heap.size := by have := HS.out; omega
  obtain ⟨e0, e1, e2⟩ := Box.below (W := W1) HX.out hb2 l0
  obtain ⟨g0, g1, g2⟩ := Box.below (W := W1) HY.out hb2 l1
  obtain ⟨r0, r1, r2, fr⟩ := box3 ((hb2.block _ l2).trans HRow.out)
  have f0 := fr 0
  have f1 := fr 1
  have f2 := fr 2
  have HB2 := Lib.hid (HB.out.trans (hb2.mono (Nat.le_of_lt l0)))
  clear hb2 fr l0 l1 l2 b0 b1 b2 d0 d1 d2
  rcases h' with h' | h'
  · rw [h']
    go_wp2
    obtain ⟨q0, q1, q2⟩ := set3 (u := .int .i64 0) (v := .int .i64 0) (t := .slice none 0 0) r0 r1 r2
    refine bodyPost_ret (v := .tuple #[mval 0 0 (.slice none 0 0), .int .i64 4]) (by simp [results, Try.results36, go_sem, q0, q1, q2]) rfl ?_
    exact close_mx (zs := []) rfl (by simp [ltCs]) (World.ownsRow_nil _ _ _ _) HB2.out (by omega)
  · go_wp2
    all_goals
      obtain ⟨q0, q1, q2⟩ := set3 (u := .int .i64 0) (v := .int .i64 0) (t := .slice none 0 0) r0 r1 r2
      refine bodyPost_ret (v := .tuple #[mval 0 0 (.slice none 0 0), .int .i64 4]) (by simp [results, Try.results36, go_sem, q0, q1, q2]) rfl ?_
      exact close_mx (zs := []) rfl (by simp [ltCs]) (World.ownsRow_nil _ _ _ _) HB2.out (by omega)
/-- A row times a column, its first terms, in a world that has grown. -/
def DotT (la lb : List C) (ca cb i j : Nat) (W : World) (s k : Value) (wr : World) : Prop :=
  ∃ (n : Nat) (z : C), n ≤ ca ∧ k = .int .i64 (n : Nat) ∧ s = .complex .f64 z.1 z.2 ∧ cnC z = dot la lb ca cb i j n ∧ ltC z ∧ Below W.heap.size W wr
set_option maxHeartbeats 2000000 in
theorem rMul_of (ra ca cb N : Nat) (A B : Option Addr) (la lb : List C) (capa capb : Nat) (w : World) (hra : ra ≤ 64) (hca : ca ≤ 64) (hcb : cb ≤ 64) (hN : ra * cb = N) (hla : la.length = ra * ca) (hlb : lb.length = ca * cb)
    (hA : Reads w w.heap.size A (nums la)) (hB : Reads w w.heap.size B (nums lb)) (E : Nat → C) (hE : E = entry cb fun i j => dot la lb ca cb i j ca) :
    Calls Try.prog 36 #[mval ra ca (.slice A la.length capa), mval ca cb (.slice B lb.length capb)] w (RetMxE ra cb ((List.range N).map E) 0 w) := by
  have HE := Lib.hid hE
  clear hE
  have hN4 : N ≤ 4096 := hN ▸ prod_small hra hcb
  have HC := Lib.hid (rIs_c ra ca A la.length capa)
  have HD := Lib.hid (rIs_c ca cb B lb.length capb)
  rw [okN hra hca hla] at HC
  rw [okN hca hcb hlb] at HD
  have HBl := Lib.hid (fun W => Blank_of ra cb N hN4 (by rw [← Int.natCast_mul, hN]; exact wrap_small _ hN4) W)
  have hEA : ∀ (i k : Nat) (V : World), i < ra → k < ca → Below w.heap.size w V → Calls Try.prog 73 #[mval ra ca (.slice A la.length capa), .int .i64 (i : Nat), .int .i64 (k : Nat)] V (RetV (.complex .f64 (la.getD (i * ca + k) (0, 0)).1 (la.getD (i * ca + k) (0, 0)).2) V) := fun i k V hi hk hV =>
    rEnt_e ra ca A la capa i k V hla hra hca hi hk ((hA.below hV).more hV.size)
  have hEB : ∀ (k j : Nat) (V : World), k < ca → j < cb → Below w.heap.size w V → Calls Try.prog 73 #[mval ca cb (.slice B lb.length capb), .int .i64 (k : Nat), .int .i64 (j : Nat)] V (RetV (.complex .f64 (lb.getD (k * cb + j) (0, 0)).1 (lb.getD (k * cb + j) (0, 0)).2) V) := fun k j V hk hj hV =>
    rEnt_e ca cb B lb capb k j V hlb hca hcb hk hj ((hB.below hV).more hV.size)
  have HEA := Lib.hid hEA
  have HEB := Lib.hid hEB
  have HN := Lib.hid hN
  have HN4 := Lib.hid hN4
  have HRa := Lib.hid hra
  have HCa := Lib.hid hca
  have HCb := Lib.hid hcb
  clear hla hlb hA hB hN hN4 hra hca hcb hEA hEB
  go_enter Try.func36, Try.ntmps36
  go_wp2_with fail
  refine (HC.out _).mono ?_
  rintro e W1 ⟨rfl, hb⟩
  obtain ⟨⟨b0, b1, b2⟩, ⟨d0, d1, d2⟩, hrow, hbl, hs1⟩ := frame2r hb
  have HRow := Lib.hid hrow
  have HB := Lib.hid hbl
  have HS := Lib.hid hs1
  have HX := Lib.hid (And.intro b0 (And.intro b1 b2))
  have HY := Lib.hid (And.intro d0 (And.intro d1 d2))
  clear hb hbl hrow hs1
  go_wp2_with fail
  refine (HD.out _).mono ?_
  rintro e W2 ⟨rfl, hb2⟩
  have l0 : w.heap.size < W1.heap.size := by have := HS.out; omega
  have l1 : w.heap.size + 1 < W1.heap.size := by have := HS.out; omega
  have HX2 := Lib.hid (Box.below (W := W1) HX.out hb2 l0)
  have HY2 := Lib.hid (Box.below (W := W1) HY.out hb2 l1)
  have HRow2 := Lib.hid (row_keep hb2 HRow.out)
  have HB2 := Lib.hid (HB.out.trans (hb2.mono (Nat.le_of_lt l0)))
  have HS2 := Lib.hid (Nat.le_trans HS.out hb2.size)
  clear hb2 l0 l1 b0 b1 b2 d0 d1 d2 HX HY HRow HB HS
  obtain ⟨b0, b1, b2⟩ := HX2.out
  obtain ⟨d0, d1, d2⟩ := HY2.out
  go_wp2_with fail
  refine (HBl.out _).mono ?_
  rintro e W3 ⟨g, rfl, hg, hgl, hb3⟩
  have l0 : w.heap.size < W2.heap.size := by have := HS2.out; omega
  have l1 : w.heap.size + 1 < W2.heap.size := by have := HS2.out; omega
  have HG := Lib.hid (show w.heap.size + 2 < g by have := HS2.out; omega)
  have HG2 := Lib.hid (row_lt hg)
  have HX3 := Lib.hid (Box.below (W := W2) HX2.out hb3 l0)
  have HY3 := Lib.hid (Box.below (W := W2) HY2.out hb3 l1)
  have HS3 := Lib.hid (Nat.le_trans HS2.out hb3.size)
  have HB3 := Lib.hid (HB2.out.trans (hb3.mono (Nat.le_of_lt l0)))
  have HW := Lib.hid (FillW.start (F := upto E 0) (r := (ra : Nat)) (c := (cb : Nat)) hg (row_keep hb3 HRow2.out) HB3.out (fun q _ => by unfold upto; rw [if_neg (Nat.not_lt_zero _)]))
  clear hg hgl hb3 l0 l1 b0 b1 b2 d0 d1 d2 HX2 HY2 HS2 HB2 HRow2 HBl HC HD
  go_wp2
  go_loopw [7] (fun iv wr => ∃ i : Nat, i ≤ ra ∧ iv = .int .i64 (i : Nat) ∧ Below (w.heap.size + 2) W3 wr ∧ FillW w (w.heap.size + 2) W3.heap.size g ra cb N (upto E (i * cb)) wr) (fun iv _ => ra - (intOf iv).toNat)
  case atStart => exact ⟨0, Nat.zero_le _, rfl, (below_new _ _).mono (by have := HS3.out; omega), by rw [Nat.zero_mul]; exact HW.out⟩
  case round =>
    obtain ⟨i, hi, rfl, hbw, hf⟩ := hrel
    have HF := Lib.hid hf
    have HBW := Lib.hid hbw
    clear hf hbw HW
    rename World => wi
    have hlw : w.heap.size + 3 ≤ W3.heap.size := HS3.out
    obtain ⟨b0, b1, b2⟩ := Box.below (W := W3) HX3.out HBW.out (by omega)
    obtain ⟨d0, d1, d2⟩ := Box.below (W := W3) HY3.out HBW.out (by omega)
    have hkb : i < 4611686018427387904 := by have := HRa.out; omega
    clear hlw
    by_cases hlt : i < ra
    · go_wp2
      go_loopw [8] (fun jv wr => ∃ j : Nat, j ≤ cb ∧ jv = .int .i64 (j : Nat) ∧ Below (w.heap.size + 2) W3 wr ∧ FillW w (w.heap.size + 2) W3.heap.size g ra cb N (upto E (i * cb + j)) wr) (fun jv _ => cb - (intOf jv).toNat)
      case atStart => exact ⟨0, Nat.zero_le _, rfl, HBW.out, HF.out⟩
      case round =>
        obtain ⟨j, hj, rfl, hbw, hf⟩ := hrel
        clear b0 b1 b2 d0 d1 d2 HF HBW
        have HF := Lib.hid hf
        have HBW := Lib.hid hbw
        clear hf hbw
        rename World => wj
        have hlw : w.heap.size + 3 ≤ W3.heap.size := HS3.out
        have hXj := Box.below (W := W3) HX3.out HBW.out (by omega)
        have hYj := Box.below (W := W3) HY3.out HBW.out (by omega)
        have HXj := Lib.hid hXj
        have HYj := Lib.hid hYj
        obtain ⟨b0, b1, b2⟩ := hXj
        obtain ⟨d0, d1, d2⟩ := hYj
        have hkb2 : j < 4611686018427387904 := by have := HCb.out; omega
        clear hlw
        by_cases hlt2 : j < cb
        · go_wp2
          go_loopw [9, 10] (fun s k wr => DotT la lb ca cb i j wj s k wr) (fun _ k _ => ca - (intOf k).toNat)
          case atStart => exact ⟨0, (0, 0), Nat.zero_le _, rfl, rfl, (by decide : cnC (0, 0) = (0, 0)), ⟨by decide, by decide⟩, Below.refl _ _⟩
          case round =>
            obtain ⟨n, z, hn, rfl, rfl, hz, hlz, hbel⟩ := hrel
            have HZ := Lib.hid hz
            have HLz := Lib.hid hlz
            have HBel := Lib.hid hbel
            clear hz hlz hbel b0 b1 b2 d0 d1 d2
            have hsz : w.heap.size + 3 ≤ wj.heap.size := Nat.le_trans HS3.out HBW.out.size
            obtain ⟨a0, a1, a2⟩ := Box.below (W := wj) HXj.out HBel.out (by omega)
            obtain ⟨c0, c1, c2⟩ := Box.below (W := wj) HYj.out HBel.out (by omega)
            have hl0 : w.heap.size < wj.heap.size := by omega
            have hl1 : w.heap.size + 1 < wj.heap.size := by omega
            have hkb3 : n < 4611686018427387904 := by have := HCa.out; omega
            by_cases hlt3 : n < ca
            · as_aux_lemma =>
                have hwj : Below w.heap.size w wj := HB3.out.trans (HBW.out.mono (by omega))
                have hKA : ∀ V, Below wj.heap.size wj V → Calls Try.prog 73 #[mval ra ca (.slice A la.length capa), .int .i64 (i : Nat), .int .i64 (n : Nat)] V (FromV (.complex .f64 (la.getD (i * ca + n) (0, 0)).1 (la.getD (i * ca + n) (0, 0)).2) wj.heap.size wj) := fun V hV =>
                  from_v (HEA.out i n V hlt hlt3 (hwj.trans (hV.mono hwj.size))) hV (Nat.le_refl _)
                have hKB : ∀ V, Below wj.heap.size wj V → Calls Try.prog 73 #[mval ca cb (.slice B lb.length capb), .int .i64 (n : Nat), .int .i64 (j : Nat)] V (FromV (.complex .f64 (lb.getD (n * cb + j) (0, 0)).1 (lb.getD (n * cb + j) (0, 0)).2) wj.heap.size wj) := fun V hV =>
                  from_v (HEB.out n j V hlt3 hlt2 (hwj.trans (hV.mono hwj.size))) hV (Nat.le_refl _)
                have KA2 := Lib.hid hKA
                have KB2 := Lib.hid hKB
                have hbd := HBel.out.drew
                clear hKA hKB hwj hsz
                go_wp2
                go_region_law (first
                  | (go_simp; go_at_call 73; (with_reducible refine (KA2.out _ ?_).mono ?_); assumption; (rintro e V ⟨rfl, hV⟩); have u0 := Box.below HXj.out hV hl0; have u1 := Box.below HYj.out hV hl1; obtain ⟨u00, u01, u02⟩ := u0; obtain ⟨u10, u11, u12⟩ := u1)
                  | (go_simp; go_at_call 73; (with_reducible refine (KB2.out _ ?_).mono ?_); assumption; (rintro e V ⟨rfl, hV⟩); have u0 := Box.below HXj.out hV hl0; have u1 := Box.below HYj.out hV hl1; obtain ⟨u00, u01, u02⟩ := u0; obtain ⟨u10, u11, u12⟩ := u1)
                  | (go_simp; go_at_call 71; refine (from_c (B := wj.heap.size) (w := wj) (rAdd_c _ _ _ _ _) ?_).mono ?_; assumption; (rintro e V ⟨x, rfl, hx, lx, hV⟩))
                  | (go_simp; go_at_call 72; refine (from_c (B := wj.heap.size) (w := wj) (rMul_c _ _ _ _ _) ?_).mono ?_; assumption; (rintro e V ⟨y, rfl, hy, ly, hV⟩)))
                all_goals
                  have hs : cnC x = dot la lb ca cb i j (n + 1) := by
                    rw [hx]
                    show pAdd (cnC z) (cnC y) = pAdd (dot la lb ca cb i j n) (pMul (ent la ca i n) (ent lb cb n j))
                    rw [HZ.out, hy]
                    unfold ent
                    rw [List.getD_eq_getElem?_getD, List.getD_eq_getElem?_getD]
                  have HSS := Lib.hid hs
                  have HVV := Lib.hid hV
                  have HLX := Lib.hid lx
                  clear hs hV lx ly hx hy
                  go_wp2
                  go_roundw
                  case rel => exact ⟨n + 1, x, hlt3, by go_num, rfl, HSS.out, HLX.out, HVV.out⟩
                  case measure => simp [intOf]; omega
            · as_aux_lemma =>
                have e : n = ca := by omega
                subst e
                obtain ⟨q, hq⟩ : ∃ q, q = i * cb := ⟨_, rfl⟩
                obtain ⟨p, hp⟩ : ∃ p, p = q + j := ⟨_, rfl⟩
                have hpN : p < N := by
                  have h1 : (i + 1) * cb ≤ ra * cb := Nat.mul_le_mul_right _ (by omega)
                  rw [HN.out, Nat.add_mul] at h1; omega
                have hm : wrap64 ((i : Int) * (cb : Int)) = (q : Int) := by rw [hq, ← Int.natCast_mul]; exact wrap_small _ (prod_small (by have := HRa.out; omega) HCb.out)
                have hs : wrap64 ((q : Int) + (j : Int)) = (p : Int) := by rw [hp, ← Int.natCast_add]; exact wrap_small _ (by have := HN4.out; omega)
                have hpi : (p : Int) < (N : Int) := Int.ofNat_lt.2 hpN
                have HF2 := Lib.hid (HF.out.below HBel.out)
                obtain ⟨x, y, t⟩ := HF2.out.cells
                obtain ⟨⟨u, hu⟩, hfz⟩ := HF2.out.place hpN
                have hEp : cnC z = E p := by rw [HE.out, hp, hq, entry_at _ hlt2]; exact HZ.out
                have HP := Lib.hid (And.intro hq (And.intro hp (And.intro hpN hEp)))
                clear hq hp hpN hEp hsz hl0 hl1
                go_wp2
                go_roundw
                case rel =>
                  refine ⟨j + 1, hlt2, by go_num, ?_, ?_⟩
                  · exact (HBW.out.trans (HBel.out.mono (by have := HBW.out.size; have := HS3.out; omega))).setCell (Nat.le_of_lt HG.out) _
                  · have e1 : i * cb + (j + 1) = p + 1 := by rw [HP.out.2.1, HP.out.1]; omega
                    have e2 : i * cb + j = p := by rw [HP.out.2.1, HP.out.1]
                    have hF3 := HF2.out
                    rw [e2] at hF3
                    rw [e1]
                    exact hF3.set HP.out.2.2.1 HLz.out (fun q _ => upto_step HP.out.2.2.2) (by have := HG.out; omega) (Nat.ne_of_lt HG.out) (Nat.ne_of_gt HG2.out)
                case measure => simp [intOf]; omega
        · have e : j = cb := by omega
          subst e
          go_wp2
          go_roundw
          case rel => exact ⟨i + 1, hlt, by go_num, HBW.out, by rw [Nat.add_mul, Nat.one_mul]; exact HF.out⟩
          case measure => simp [intOf]; omega
    · have e : i = ra := by omega
      subst e
      obtain ⟨x, y, z⟩ := HF.out.cells
      have HR2 : wi.heap[w.heap.size + 2]? = some zrow := by obtain ⟨zs, _, _, _, _, h5, _⟩ := HF.out; exact h5
      obtain ⟨r0, r1, r2, fr⟩ := box3 HR2
      have f0 := fr 0
      have f1 := fr 1
      have f2 := fr 2
      clear fr
      go_wp2
      obtain ⟨q0, q1, q2⟩ := set3 (u := .int .i64 (i : Nat)) (v := .int .i64 (cb : Nat)) (t := .slice (some ⟨g, 0, none⟩) N N) r0 r1 r2
      refine bodyPost_ret (v := .tuple #[mval i cb (.slice (some ⟨g, 0, none⟩) N N), .int .i64 0]) (by simp [results, Try.results36, go_sem, q0, q1, q2]) rfl ?_
      have h := HF.out.close (er := 0) (by omega) HG.out rfl HN4.out
      rw [HN.out] at h
      rwa [upto_end] at h
theorem rMul_c7 (ra ca cb : Nat) (A B : Option Addr) (la lb : List C) (capa capb : Nat) (w : World) (hra : ra ≤ 64) (hca : ca ≤ 64) (hcb : cb ≤ 64) (hla : la.length = ra * ca) (hlb : lb.length = ca * cb)
    (hA : Reads w w.heap.size A (nums la)) (hB : Reads w w.heap.size B (nums lb)) :
    Calls Try.prog 36 #[mval ra ca (.slice A la.length capa), mval ca cb (.slice B lb.length capb)] w (RetMxE ra cb (entries cb (fun i j => dot la lb ca cb i j ca) (ra * cb)) 0 w) :=
  rMul_of ra ca cb (ra * cb) A B la lb capa capb w hra hca hcb rfl hla hlb hA hB _ rfl
end Go.Proofs.Ytajdfbjjgjpicaa
namespace Go.Proofs.Ytajdfbjjgjpicaa
open Go.RowKit Fl Ieee
theorem zqC_rfl (a : C) : zqC a a := ⟨zq.rfl' _, zq.rfl' _⟩
theorem zqC_add {a a' b b' : C} (h : zqC a a') (h' : zqC b b') : zqC (pAdd a b) (pAdd a' b') := ⟨h.1.add h'.1, h.2.add h'.2⟩
theorem ltC_add (a b : C) : ltC (pAdd a b) := ⟨fadd_lt _ _, fadd_lt _ _⟩
theorem ltC_mul (a b : C) : ltC (pMul a b) := ⟨fsub_lt _ _, fadd_lt _ _⟩
theorem ltC_cn {z : C} (h : ltC z) : ltC (cnC z) := ⟨cn_lt (k := .f64) h.1, cn_lt (k := .f64) h.2⟩
theorem ltC_conj {a : C} (h : ltC a) : ltC (pConj a) := ⟨h.1, fneg_lt h.2⟩
theorem add_conj {a b : C} (ha : ltC a) (hb : ltC b) : zqC (pAdd (pConj a) (pConj b)) (pConj (pAdd a b)) := ⟨zq.rfl' _, fadd_neg ha.2 hb.2⟩
theorem zqC_conj {a b : C} (h : zqC a b) (ha : ltC a) (hb : ltC b) : zqC (pConj a) (pConj b) := ⟨h.1, h.2.fneg ha.2 hb.2⟩
theorem ltC_dot {la lb : List C} {ca cb i j : Nat} (n : Nat) : ltC (dot la lb ca cb i j n) := by
  cases n with
  | zero => exact ⟨show 0 < 18446744073709551616 by omega, show 0 < 18446744073709551616 by omega⟩
  | succ n => exact ltC_add _ _
theorem ltC_ent {l : List C} (h : ltCs l) (c i j : Nat) : ltC (ent l c i j) := by
  unfold ent
  rw [List.getD_eq_getElem?_getD]
  cases hz : l[i * c + j]? with
  | none => exact ltC_cn ⟨by decide, by decide⟩
  | some z => exact ltC_cn (h z (List.mem_of_getElem? hz))
/-- The conjugate of a product's entry. -/
theorem dot_conj {l0 l1 z0 z1 : List C} {k q i j : Nat} (h0 : ltCs l0) (h1 : ltCs l1) (e0 : ∀ n, n < k → ent z0 k i n = pConj (ent l0 k i n)) (e1 : ∀ n, n < k → ent z1 q n j = pConj (ent l1 q n j)) :
    ∀ n, n ≤ k → zqC (dot z0 z1 k q i j n) (pConj (dot l0 l1 k q i j n)) := by
  intro n
  induction n with
  | zero => intro _; exact ⟨zq.rfl' _, .inr ⟨show rung double 0 = 0 by decide, show rung double (fneg 0) = 0 by decide⟩⟩
  | succ n ih =>
    intro hn
    show zqC (pAdd (dot z0 z1 k q i j n) (pMul (ent z0 k i n) (ent z1 q n j))) (pConj (pAdd (dot l0 l1 k q i j n) (pMul (ent l0 k i n) (ent l1 q n j))))
    rw [e0 n hn, e1 n hn]
    exact (zqC_add (ih (by omega)) (mul_conj (ltC_ent h0 _ _ _) (ltC_ent h1 _ _ _))).trans (add_conj (ltC_dot n) (ltC_mul _ _))
theorem conj_twice {a : C} (h : ltC a) : pConj (pConj (cnC a)) = cnC a := conj_conj (ltC_cn h) (cn_cn .f64 a.2)
def zeroC (a : C) : Prop := rung double a.1 = 0 ∧ rung double a.2 = 0
theorem fin_zero {z : Nat} (h : rung double z = 0) : fin double z := by unfold fin; rw [h]; decide +kernel
theorem fadd_zz {x y : Nat} (hx : x < 18446744073709551616) (h : rung double x = 0) (h' : rung double y = 0) : rung double (fadd x y) = 0 := by
  rcases fadd_zero hx (fin_zero h) h' with e | ⟨e, _⟩
  · rw [e]; exact h
  · exact e
theorem zeroC_add {a b : C} (ha : ltC a) (h : zeroC a) (h' : zeroC b) : zeroC (pAdd a b) := ⟨fadd_zz ha.1 h.1 h'.1, fadd_zz ha.2 h.2 h'.2⟩
theorem fmul_zero' {y : Nat} (hf : fin double y) : rung double (fmul 0 y) = 0 := by rw [fmul_comm]; exact fmul_zero hf
theorem zeroC_mul {e : C} (hf : pFinite e = true) : zeroC (pMul (0, 0) e) := by
  unfold pFinite at hf
  rw [Bool.and_eq_true] at hf
  have f1 := fin_of_isFin hf.1
  have f2 := fin_of_isFin hf.2
  refine ⟨?_, fadd_zz (fmul_lt _ _) (fmul_zero' f2) (fmul_zero' f1)⟩
  show rung double (fsub (fmul 0 e.1) (fmul 0 e.2)) = 0
  rw [fsub_eq _ (fmul_lt _ _)]
  have h2 : rung double (fneg (fmul 0 e.2)) = 0 := by rw [rung_fneg (fmul_lt _ _) (isNaN_of_rung0 (fmul_zero' f2))]; exact fmul_zero' f2
  exact fadd_zz (fmul_lt _ _) (fmul_zero' f1) h2
theorem zq_fin {x y : Nat} (h : zq x y) (hf : fin double y) : fin double x := by
  rcases h with e | ⟨e, _⟩
  · rw [e]; exact hf
  · exact fin_zero e
theorem zeroC_addl {a b e : C} (hb : ltC b) (hz : zeroC a) (h : zqC b e) (hf : pFinite e = true) : zqC (pAdd a b) e := by
  unfold pFinite at hf
  rw [Bool.and_eq_true] at hf
  have g1 := zq_fin h.1 (fin_of_isFin hf.1)
  have g2 := zq_fin h.2 (fin_of_isFin hf.2)
  rw [pAdd_comm]
  exact ⟨(fadd_zero hb.1 g1 hz.1).trans h.1, (fadd_zero hb.2 g2 hz.2).trans h.2⟩
/-- One at a single place, noughts else: the sum is what stands there. -/
theorem pick_sum {T S : Nat → C} {e : C} {p r : Nat} (hS0 : S 0 = (0, 0)) (hS : ∀ n, S (n + 1) = pAdd (S n) (T n)) (hT : ∀ n, n < r → n ≠ p → zeroC (T n)) (hp : zqC (T p) e) (hl : ∀ n, ltC (T n)) (hf : pFinite e = true) (n : Nat) (hn : n ≤ r) :
    ltC (S n) ∧ (n ≤ p → zeroC (S n)) ∧ (p < n → zqC (S n) e) := by
  induction n with
  | zero => exact ⟨by rw [hS0]; exact ⟨by decide, by decide⟩, fun _ => by rw [hS0]; exact ⟨by decide, by decide⟩, fun h => absurd h (Nat.not_lt_zero _)⟩
  | succ n ih =>
    obtain ⟨i0, i1, i2⟩ := ih (by omega)
    refine ⟨by rw [hS]; exact ltC_add _ _, fun h => ?_, fun h => ?_⟩
    · rw [hS]; exact zeroC_add i0 (i1 (by omega)) (hT n (by omega) (by omega))
    · rw [hS]
      rcases Nat.lt_or_ge p n with h1 | h1
      · rw [pAdd_comm]; exact zeroC_addl i0 (hT n (by omega) (by omega)) (i2 h1) hf
      · have e1 : n = p := by omega
        subst e1
        exact zeroC_addl (hl n) (i1 (Nat.le_refl _)) hp hf
theorem dot_idl {zi l : List C} {r c i j : Nat} (hi : i < r) (h0 : ltCs l) (ei : ∀ n, n < r → ent zi r i n = idE i n) (hf : ∀ n, n < r → pFinite (ent l c n j) = true) : zqC (dot zi l r c i j r) (ent l c i j) := by
  refine ((pick_sum (T := fun n => pMul (ent zi r i n) (ent l c n j)) (S := fun n => dot zi l r c i j n) (e := ent l c i j) (p := i) (r := r) rfl (fun n => rfl) ?_ ?_ (fun n => ltC_mul _ _) (hf i hi)) r (Nat.le_refl _)).2.2 hi
  · intro n hn hne
    show zeroC (pMul (ent zi r i n) (ent l c n j))
    rw [ei n hn]
    unfold idE
    rw [if_neg (by omega)]
    exact zeroC_mul (hf n hn)
  · show zqC (pMul (ent zi r i i) (ent l c i j)) (ent l c i j)
    rw [ei i hi]
    unfold idE
    rw [if_pos rfl, pMul_comm]
    exact mul_one (ltC_ent h0 _ _ _) (hf i hi)
theorem dot_idr {zi l : List C} {c i j : Nat} (hj : j < c) (h0 : ltCs l) (ei : ∀ n, n < c → ent zi c n j = idE n j) (hf : ∀ n, n < c → pFinite (ent l c i n) = true) : zqC (dot l zi c c i j c) (ent l c i j) := by
  refine ((pick_sum (T := fun n => pMul (ent l c i n) (ent zi c n j)) (S := fun n => dot l zi c c i j n) (e := ent l c i j) (p := j) (r := c) rfl (fun n => rfl) ?_ ?_ (fun n => ltC_mul _ _) (hf j hj)) c (Nat.le_refl _)).2.2 hj
  · intro n hn hne
    show zeroC (pMul (ent l c i n) (ent zi c n j))
    rw [ei n hn]
    unfold idE
    rw [if_neg hne, pMul_comm]
    exact zeroC_mul (hf n hn)
  · show zqC (pMul (ent l c i j) (ent zi c j j)) (ent l c i j)
    rw [ei j hj]
    unfold idE
    rw [if_pos rfl]
    exact mul_one (ltC_ent h0 _ _ _) (hf j hj)
/-- A finite number less itself. -/
theorem sub_self_zero {a : C} (ha : ltC a) (hf : pFinite a = true) : feq .f64 (pSub a a).1 0 = true ∧ feq .f64 (pSub a a).2 0 = true := by
  unfold pFinite at hf
  rw [Bool.and_eq_true] at hf
  exact ⟨(sub_self_eq a.1 ha.1).trans hf.1, (sub_self_eq a.2 ha.2).trans hf.2⟩
end Go.Proofs.Ytajdfbjjgjpicaa
namespace Go.Proofs.Ytajdfbjjgjpicaa
open Go.RowKit Fl Ieee
set_option maxRecDepth 20000
attribute [local go_sem] run_store_float run_store_complex Fl.order_self Fl.order_self' Fl.order_eq Fl.order_ne Fl.order_lt Fl.order_gt
/-- What a caller hands in: a matrix that lies in memory. -/
structure Lies (w : World) (A : Option Addr) (l : List C) (cap : Nat) : Prop where
  reads : Reads w w.heap.size A (nums l)
  none : A = none → cap = 0
  fits : l.length ≤ cap
  lt : ltCs l
theorem Lies.has {w W : World} {A : Option Addr} {l : List C} {cap b : Nat} {r c : Int} (h : Lies w A l cap) (hb : Below w.heap.size w W) (hx : Box W b r c (.slice A l.length cap)) (hl : b < W.heap.size) : Has W b r c A l cap :=
  ⟨hx, hl, (h.reads.below hb).more hb.size, h.none, h.fits⟩
theorem ent_cn (l : List C) (c i j : Nat) : ent (l.map cnC) c i j = ent l c i j := by
  unfold ent
  rw [List.getD_eq_getElem?_getD, List.getD_eq_getElem?_getD, List.getElem?_map]
  cases l[i * c + j]? with
  | none => rfl
  | some z => exact cnC_cnC z
theorem dot_cn (la lb : List C) (ca cb i j k : Nat) : dot (la.map cnC) (lb.map cnC) ca cb i j k = dot la lb ca cb i j k := by
  induction k with
  | zero => rfl
  | succ k ih => rw [dot, dot, ih, ent_cn, ent_cn]
theorem colSum_cn (l : List C) (c j i : Nat) : colSum (l.map cnC) c j i = colSum l c j i := by
  induction i with
  | zero => rfl
  | succ i ih => rw [colSum, colSum, ih, ent_cn]
theorem norm1_cn (l : List C) (r c : Nat) : norm1 (l.map cnC) r c = norm1 l r c := by
  unfold norm1 colSums
  rw [show (fun j => colSum (l.map cnC) c j r) = (fun j => colSum l c j r) from funext fun j => colSum_cn l c j r]
/-- How far it is off. -/
def offN (la lb : List C) (n : Nat) : Nat := norm1 (entries n (fun i j => pSub (dot la lb n n i j n) (idE i j)) (n * n)) n n
theorem offN_congr {la lb la' lb' : List C} (h : la.map cnC = la'.map cnC) (h' : lb.map cnC = lb'.map cnC) (n : Nat) : offN la lb n = offN la' lb' n := by
  unfold offN
  rw [show (fun i j => pSub (dot la lb n n i j n) (idE i j)) = (fun i j => pSub (dot la' lb' n n i j n) (idE i j)) from
    funext fun i => funext fun j => by rw [← dot_cn la, ← dot_cn la', h, h']]
theorem offN_of {la lb zp zq zd : List C} {n : Nat} (hp : zp.map cnC = entries n (fun i j => dot la lb n n i j n) (n * n)) (hq : zq.map cnC = entries n idE (n * n))
    (hd : zd.map cnC = entries n (fun i j => pSub (ent zp n i j) (ent zq n i j)) (n * n)) : norm1 zd n n = offN la lb n := by
  rw [← norm1_cn, hd]
  unfold offN
  refine congrArg (fun l => norm1 l n n) (entries_congr fun k hk => ?_)
  have h0 : 0 < n := by
    rcases Nat.eq_zero_or_pos n with h | h
    · subst h; simp at hk
    · exact h
  have h1 : k / n < n := Nat.div_lt_of_lt_mul hk
  have h2 : k % n < n := Nat.mod_lt _ h0
  unfold entry
  show pSub (ent zp n (k / n) (k % n)) (ent zq n (k / n) (k % n)) = _
  rw [at_made hp h1 h2, at_made hq h1 h2]
/-- Both are square and of one size. -/
def okOff (ra ca rb cb : Int) (na nb : Nat) : Bool := okM ra ca na && okM rb cb nb && (ra == ca) && (rb == cb) && (ra == rb)
def offV (ra ca rb cb : Int) (la lb : List C) : Nat := if okOff ra ca rb cb la.length lb.length then offN la lb ra.toNat else 0
def offE (ra ca rb cb : Int) (na nb : Nat) : Int := if okOff ra ca rb cb na nb then 0 else 4
theorem okOff_iff {ra ca rb cb : Int} {na nb : Nat} (h : okOff ra ca rb cb na nb = true) : ∃ n : Nat, n ≤ 64 ∧ ra = n ∧ ca = n ∧ rb = n ∧ cb = n ∧ na = n * n ∧ nb = n * n := by
  unfold okOff at h
  simp only [Bool.and_eq_true, beq_iff_eq] at h
  obtain ⟨⟨⟨⟨h1, h2⟩, h3⟩, h4⟩, h5⟩ := h
  obtain ⟨p1, p2, p3, p4, p5⟩ := okM_iff.1 h1
  obtain ⟨q1, q2, q3, q4, q5⟩ := okM_iff.1 h2
  obtain ⟨n, rfl⟩ : ∃ n : Nat, ra = n := ⟨ra.toNat, by omega⟩
  subst h3 h5 h4
  refine ⟨n, by omega, rfl, rfl, rfl, rfl, ?_, ?_⟩
  · rw [← Int.natCast_mul] at p5; exact Int.ofNat_inj.1 p5
  · rw [← Int.natCast_mul] at q5; exact Int.ofNat_inj.1 q5

theorem Off_first (ra ca rb cb : Int) (A B : Option Addr) (na nb capa capb : Nat) (w : World) (h : okM ra ca na = false) :
    Calls Try.prog 12 #[mval ra ca (.slice A na capa), mval rb cb (.slice B nb capb)] w (RetFE 0 4 w) := by
  have HC := Lib.hid (Check_c ra ca A na capa)
  rw [h] at HC
  go_enter Try.func12, Try.ntmps12
  go_wp2_with fail
  refine (HC.out _).mono ?_
  rintro e W1 ⟨rfl, hb⟩
  obtain ⟨⟨b0, b1, b2⟩, ⟨d0, d1, d2⟩, hbl, hs1⟩ := frame2b hb
  have HB := Lib.hid hbl
  clear hb hbl h hs1
  go_wp2
  go_ret2
  exact ⟨retFE rfl rfl, HB.out⟩
theorem Off_second (ra ca rb cb : Int) (A B : Option Addr) (na nb capa capb : Nat) (w : World) (h : okM ra ca na = true) (h' : okM rb cb nb = false ∨ (okM rb cb nb = true ∧ ((ra == ca) = false ∨ ((ra == ca) = true ∧ (rb == cb) = false) ∨ ((ra == ca) = true ∧ (rb == cb) = true ∧ (ra == rb) = false)))) :
    Calls Try.prog 12 #[mval ra ca (.slice A na capa), mval rb cb (.slice B nb capb)] w (RetFE 0 4 w) := by
  have HC := Lib.hid (Check_c ra ca A na capa)
  have HD := Lib.hid (Check_c rb cb B nb capb)
  rw [h] at HC
  go_enter Try.func12, Try.ntmps12
  go_wp2_with fail
  refine (HC.out _).mono ?_
  rintro e W1 ⟨rfl, hb⟩
  obtain ⟨⟨b0, b1, b2⟩, ⟨d0, d1, d2⟩, hbl, hs1⟩ := frame2b hb
  have HB := Lib.hid hbl
  have HS := Lib.hid hs1
  have HX := Lib.hid (And.intro b0 (And.intro b1 b2))
  have HY := Lib.hid (And.intro d0 (And.intro d1 d2))
  clear hb hbl h hs1
  go_wp2_with fail
  refine (HD.out _).mono ?_
  rintro e W2 ⟨rfl, hb2⟩
  have l0 : w.heap.size < W1.heap.size := by have := HS.out; omega
  have l1 : w.heap.size + 1 < W1.heap.size := by have := HS.out; omega
  obtain ⟨e0, e1, e2⟩ := Box.below (W := W1) HX.out hb2 l0
  obtain ⟨g0, g1, g2⟩ := Box.below (W := W1) HY.out hb2 l1
  have HB2 := Lib.hid (HB.out.trans (hb2.mono (Nat.le_of_lt l0)))
  clear hb2 l0 l1 b0 b1 b2 d0 d1 d2
  rcases h' with h' | ⟨h0, h' | ⟨h', h''⟩ | ⟨h', h'', h3⟩⟩
  · rw [h']
    go_wp2
    go_ret2
    exact ⟨retFE rfl rfl, HB2.out⟩
  · rw [h0]
    go_wp2
    all_goals (go_ret2; exact ⟨retFE rfl rfl, HB2.out⟩)
  · rw [h0]
    have q1 : ra = ca := by simpa using h'
    subst q1
    clear h'
    go_wp2
    all_goals (go_ret2; exact ⟨retFE rfl rfl, HB2.out⟩)
  · rw [h0]
    have q1 : ra = ca := by simpa using h'
    subst q1
    have q2 : rb = cb := by simpa using h''
    subst q2
    clear h' h''
    go_wp2
    all_goals (go_ret2; exact ⟨retFE rfl rfl, HB2.out⟩)
set_option maxHeartbeats 4000000 in
theorem Off_good (n : Nat) (A B : Option Addr) (la lb : List C) (capa capb : Nat) (w : World) (hn : n ≤ 64) (hla : la.length = n * n) (hlb : lb.length = n * n) (hX : Lies w A la capa) (hY : Lies w B lb capb) :
    Calls Try.prog 12 #[mval n n (.slice A la.length capa), mval n n (.slice B lb.length capb)] w (RetFE (offN la lb n) 0 w) := by
  have HC := Lib.hid (Check_c n n A la.length capa)
  have HD := Lib.hid (Check_c n n B lb.length capb)
  rw [okN hn hn hla] at HC
  rw [okN hn hn hlb] at HD
  have HXm := Lib.hid hX
  have HYm := Lib.hid hY
  have HLA := Lib.hid hla
  have HLB := Lib.hid hlb
  clear hX hY hla hlb
  go_enter Try.func12, Try.ntmps12
  go_wp2_with fail
  refine (HC.out _).mono ?_
  rintro e W1 ⟨rfl, hb⟩
  obtain ⟨bx, by_, hbl, hs1⟩ := frame2b hb
  have hX1 := HXm.out.has hbl bx (by omega)
  have hY1 := HYm.out.has hbl by_ (by omega)
  have BE1 := Lib.hid hbl
  clear hb hbl hs1 bx by_
  have HX1 := Lib.hid hX1
  obtain ⟨⟨xa1, xb1, xc1⟩, -⟩ := hX1
  have xA1 := fun o => (HX1.out.alloc o).1.1
  have xB1 := fun o => (HX1.out.alloc o).1.2.1
  have xC1 := fun o => (HX1.out.alloc o).1.2.2
  have HY1 := Lib.hid hY1
  obtain ⟨⟨ya1, yb1, yc1⟩, -⟩ := hY1
  have yA1 := fun o => (HY1.out.alloc o).1.1
  have yB1 := fun o => (HY1.out.alloc o).1.2.1
  have yC1 := fun o => (HY1.out.alloc o).1.2.2
  go_wp2_with fail
  refine (HD.out _).mono ?_
  rintro e W2 ⟨rfl, hb⟩
  have hX2 := HX1.out.below hb
  have hY2 := HY1.out.below hb
  clear xa1 xb1 xc1 xA1 xB1 xC1 HX1
  have HX2 := Lib.hid hX2
  obtain ⟨⟨xa2, xb2, xc2⟩, -⟩ := hX2
  have xA2 := fun o => (HX2.out.alloc o).1.1
  have xB2 := fun o => (HX2.out.alloc o).1.2.1
  have xC2 := fun o => (HX2.out.alloc o).1.2.2
  clear ya1 yb1 yc1 yA1 yB1 yC1 HY1
  have HY2 := Lib.hid hY2
  obtain ⟨⟨ya2, yb2, yc2⟩, -⟩ := hY2
  have yA2 := fun o => (HY2.out.alloc o).1.1
  have yB2 := fun o => (HY2.out.alloc o).1.2.1
  have yC2 := fun o => (HY2.out.alloc o).1.2.2
  have BE2 := Lib.hid (BE1.out.trans (hb.mono BE1.out.size))
  clear BE1
  clear hb
  go_wp2_with fail
  refine (MMul_c n n n A B la lb capa capb _ hn hn hn HLA.out HLB.out HX2.out.2.2.1 HY2.out.2.2.1).mono ?_
  rintro e W3 ⟨s, zp, rfl, hz, hlz, hown, hb⟩
  have hX3 := HX2.out.below hb
  have hY3 := HY2.out.below hb
  clear xa2 xb2 xc2 xA2 xB2 xC2 HX2
  have HX3 := Lib.hid hX3
  obtain ⟨⟨xa3, xb3, xc3⟩, -⟩ := hX3
  have xA3 := fun o => (HX3.out.alloc o).1.1
  have xB3 := fun o => (HX3.out.alloc o).1.2.1
  have xC3 := fun o => (HX3.out.alloc o).1.2.2
  clear ya2 yb2 yc2 yA2 yB2 yC2 HY2
  have HY3 := Lib.hid hY3
  obtain ⟨⟨ya3, yb3, yc3⟩, -⟩ := hY3
  have yA3 := fun o => (HY3.out.alloc o).1.1
  have yB3 := fun o => (HY3.out.alloc o).1.2.1
  have yC3 := fun o => (HY3.out.alloc o).1.2.2
  have BE3 := Lib.hid (BE2.out.trans (hb.mono BE2.out.size))
  clear BE2
  have hel := congrArg List.length hz
  rw [List.length_map] at hel
  rw [← hel] at hown
  obtain ⟨pA, pn, pc, rfl, -⟩ := slice_of_own hown
  obtain ⟨en, -, -⟩ := own_slice hown
  subst en
  have HZP := Lib.hid hz
  have HTP := Lib.hid hlz
  have PP := Lib.hid (fun o => ((Reads.of_own hown).below (below_new W3 o)).more (below_new W3 o).size)
  have OWN := Lib.hid hown
  clear hz hlz hel hown hb
  go_wp2_with fail
  refine (Identity_c n _ hn).mono ?_
  rintro e W4 ⟨s, zq, rfl, hz, hlz, hown, hb⟩
  obtain ⟨-, hP4, hq⟩ := Has.new OWN.out hb
  clear OWN PP
  have hX4 := HX3.out.below hq
  have hY4 := HY3.out.below hq
  clear xa3 xb3 xc3 xA3 xB3 xC3 HX3
  have HX4 := Lib.hid hX4
  obtain ⟨⟨xa4, xb4, xc4⟩, -⟩ := hX4
  have xA4 := fun o => (HX4.out.alloc o).1.1
  have xB4 := fun o => (HX4.out.alloc o).1.2.1
  have xC4 := fun o => (HX4.out.alloc o).1.2.2
  clear ya3 yb3 yc3 yA3 yB3 yC3 HY3
  have HY4 := Lib.hid hY4
  obtain ⟨⟨ya4, yb4, yc4⟩, -⟩ := hY4
  have yA4 := fun o => (HY4.out.alloc o).1.1
  have yB4 := fun o => (HY4.out.alloc o).1.2.1
  have yC4 := fun o => (HY4.out.alloc o).1.2.2
  have BE4 := Lib.hid (BE3.out.trans (hq.mono BE3.out.size))
  clear BE3
  have HP4 := Lib.hid hP4
  obtain ⟨⟨pa4, pb4, pc4⟩, -⟩ := hP4
  have pA4 := fun o => (HP4.out.alloc o).1.1
  have pB4 := fun o => (HP4.out.alloc o).1.2.1
  have pC4 := fun o => (HP4.out.alloc o).1.2.2
  clear hq
  have hel := congrArg List.length hz
  rw [List.length_map] at hel
  rw [← hel] at hown
  obtain ⟨qA, qn, qc, rfl, -⟩ := slice_of_own hown
  obtain ⟨en, -, -⟩ := own_slice hown
  subst en
  have HZQ := Lib.hid hz
  have HTQ := Lib.hid hlz
  have PQ := Lib.hid (fun o => ((Reads.of_own hown).below (below_new W4 o)).more (below_new W4 o).size)
  have OWN := Lib.hid hown
  clear hz hlz hel hown hb
  go_wp2_with fail
  refine (MSub_c n n pA qA zp zq pc qc _ hn hn (len_made HZP.out) (len_made HZQ.out) ((HP4.out.alloc _).2.2.1) (PQ.out _)).mono ?_
  rintro e W5 ⟨s, zd, rfl, hz, hlz, hown, hb⟩
  obtain ⟨-, hQ5, hq⟩ := Has.new OWN.out hb
  clear OWN PQ
  have hX5 := HX4.out.below hq
  have hY5 := HY4.out.below hq
  have hP5 := HP4.out.below hq
  clear xa4 xb4 xc4 xA4 xB4 xC4 HX4
  have HX5 := Lib.hid hX5
  obtain ⟨⟨xa5, xb5, xc5⟩, -⟩ := hX5
  have xA5 := fun o => (HX5.out.alloc o).1.1
  have xB5 := fun o => (HX5.out.alloc o).1.2.1
  have xC5 := fun o => (HX5.out.alloc o).1.2.2
  clear ya4 yb4 yc4 yA4 yB4 yC4 HY4
  have HY5 := Lib.hid hY5
  obtain ⟨⟨ya5, yb5, yc5⟩, -⟩ := hY5
  have yA5 := fun o => (HY5.out.alloc o).1.1
  have yB5 := fun o => (HY5.out.alloc o).1.2.1
  have yC5 := fun o => (HY5.out.alloc o).1.2.2
  clear pa4 pb4 pc4 pA4 pB4 pC4 HP4
  have HP5 := Lib.hid hP5
  obtain ⟨⟨pa5, pb5, pc5⟩, -⟩ := hP5
  have pA5 := fun o => (HP5.out.alloc o).1.1
  have pB5 := fun o => (HP5.out.alloc o).1.2.1
  have pC5 := fun o => (HP5.out.alloc o).1.2.2
  have BE5 := Lib.hid (BE4.out.trans (hq.mono BE4.out.size))
  clear BE4
  have HQ5 := Lib.hid hQ5
  obtain ⟨⟨qa5, qb5, qc5⟩, -⟩ := hQ5
  have qA5 := fun o => (HQ5.out.alloc o).1.1
  have qB5 := fun o => (HQ5.out.alloc o).1.2.1
  have qC5 := fun o => (HQ5.out.alloc o).1.2.2
  clear hq
  have hel := congrArg List.length hz
  rw [List.length_map] at hel
  rw [← hel] at hown
  obtain ⟨dA, dn, dc, rfl, -⟩ := slice_of_own hown
  obtain ⟨en, -, -⟩ := own_slice hown
  subst en
  have HZD := Lib.hid hz
  have HTD := Lib.hid hlz
  have PD := Lib.hid (fun o => ((Reads.of_own hown).below (below_new W5 o)).more (below_new W5 o).size)
  have OWN := Lib.hid hown
  clear hz hlz hel hown hb
  have HV := Lib.hid (offN_of HZP.out HZQ.out HZD.out)
  go_wp2_with fail
  refine (Norm1_c n n dA zd dc _ hn hn (len_made HZD.out) (PD.out _) HTD.out).mono ?_
  rintro e W6 ⟨rfl, hb⟩
  have BE6 := Lib.hid (BE5.out.trans (((below_new W5 _).trans (hb.mono (below_new W5 _).size)).mono BE5.out.size))
  clear hb
  go_wp2
  go_ret2
  exact ⟨retFE HV.out rfl, BE6.out⟩
theorem Off_c (ra ca rb cb : Int) (A B : Option Addr) (la lb : List C) (capa capb : Nat) (w : World) (hX : Lies w A la capa) (hY : Lies w B lb capb) :
    Calls Try.prog 12 #[mval ra ca (.slice A la.length capa), mval rb cb (.slice B lb.length capb)] w (RetFE (offV ra ca rb cb la lb) (offE ra ca rb cb la.length lb.length) w) := by
  cases h : okOff ra ca rb cb la.length lb.length
  · unfold offV offE
    rw [h]
    show Calls _ _ _ _ (RetFE 0 4 w)
    cases h1 : okM ra ca la.length
    · exact Off_first ra ca rb cb A B _ _ capa capb w h1
    cases h2 : okM rb cb lb.length
    · exact Off_second ra ca rb cb A B _ _ capa capb w h1 (.inl h2)
    · cases h3 : (ra == ca)
      · exact Off_second ra ca rb cb A B _ _ capa capb w h1 (.inr ⟨h2, .inl h3⟩)
      · cases h4 : (rb == cb)
        · exact Off_second ra ca rb cb A B _ _ capa capb w h1 (.inr ⟨h2, .inr (.inl ⟨h3, h4⟩)⟩)
        · exact Off_second ra ca rb cb A B _ _ capa capb w h1 (.inr ⟨h2, .inr (.inr ⟨h3, h4, by unfold okOff at h; rw [h1, h2, h3, h4] at h; simpa using h⟩)⟩)
  · have h' := h
    obtain ⟨n, hn, rfl, rfl, rfl, rfl, h1, h2⟩ := okOff_iff h
    unfold offV offE
    rw [h']
    show Calls _ _ _ _ (RetFE (offN la lb (n : Int).toNat) 0 w)
    rw [Int.toNat_natCast]
    exact Off_good n A B la lb capa capb w hn h1 h2 hX hY
theorem rOff_first (ra ca rb cb : Int) (A B : Option Addr) (na nb capa capb : Nat) (w : World) (h : okM ra ca na = false) :
    Calls Try.prog 13 #[mval ra ca (.slice A na capa), mval rb cb (.slice B nb capb)] w (RetFE 0 4 w) := by
  have HC := Lib.hid (rCheck_c ra ca A na capa)
  rw [h] at HC
  go_enter Try.func13, Try.ntmps13
  go_wp2_with fail
  refine (HC.out _).mono ?_
  rintro e W1 ⟨rfl, hb⟩
  obtain ⟨⟨b0, b1, b2⟩, ⟨d0, d1, d2⟩, hbl, hs1⟩ := frame2b hb
  have HB := Lib.hid hbl
  clear hb hbl h hs1
  go_wp2
  go_ret2
  exact ⟨retFE rfl rfl, HB.out⟩
theorem rOff_second (ra ca rb cb : Int) (A B : Option Addr) (na nb capa capb : Nat) (w : World) (h : okM ra ca na = true) (h' : okM rb cb nb = false ∨ (okM rb cb nb = true ∧ ((ra == ca) = false ∨ ((ra == ca) = true ∧ (rb == ra) = false) ∨ ((ra == ca) = true ∧ (rb == ra) = true ∧ (cb == ra) = false)))) :
    Calls Try.prog 13 #[mval ra ca (.slice A na capa), mval rb cb (.slice B nb capb)] w (RetFE 0 4 w) := by
  have HC := Lib.hid (rCheck_c ra ca A na capa)
  have HD := Lib.hid (rCheck_c rb cb B nb capb)
  rw [h] at HC
  go_enter Try.func13, Try.ntmps13
  go_wp2_with fail
  refine (HC.out _).mono ?_
  rintro e W1 ⟨rfl, hb⟩
  obtain ⟨⟨b0, b1, b2⟩, ⟨d0, d1, d2⟩, hbl, hs1⟩ := frame2b hb
  have HB := Lib.hid hbl
  have HS := Lib.hid hs1
  have HX := Lib.hid (And.intro b0 (And.intro b1 b2))
  have HY := Lib.hid (And.intro d0 (And.intro d1 d2))
  clear hb hbl h hs1
  go_wp2_with fail
  refine (HD.out _).mono ?_
  rintro e W2 ⟨rfl, hb2⟩
  have l0 : w.heap.size < W1.heap.size := by have := HS.out; omega
  have l1 : w.heap.size + 1 < W1.heap.size := by have := HS.out; omega
  obtain ⟨e0, e1, e2⟩ := Box.below (W := W1) HX.out hb2 l0
  obtain ⟨g0, g1, g2⟩ := Box.below (W := W1) HY.out hb2 l1
  have HB2 := Lib.hid (HB.out.trans (hb2.mono (Nat.le_of_lt l0)))
  clear hb2 l0 l1 b0 b1 b2 d0 d1 d2
  rcases h' with h' | ⟨h0, h' | ⟨h', h''⟩ | ⟨h', h'', h3⟩⟩
  · rw [h']
    go_wp2
    go_ret2
    exact ⟨retFE rfl rfl, HB2.out⟩
  · rw [h0]
    go_wp2
    all_goals (go_ret2; exact ⟨retFE rfl rfl, HB2.out⟩)
  · rw [h0]
    have q1 : ra = ca := by simpa using h'
    subst q1
    clear h'
    go_wp2
    all_goals (go_ret2; exact ⟨retFE rfl rfl, HB2.out⟩)
  · rw [h0]
    have q1 : ra = ca := by simpa using h'
    subst q1
    have q2 : rb = ra := by simpa using h''
    subst q2
    clear h' h''
    go_wp2
    all_goals (go_ret2; exact ⟨retFE rfl rfl, HB2.out⟩)
theorem rnorm_c (n : Nat) (A : Option Addr) (l : List C) (cap : Nat) (w : World) (hn : n ≤ 64) (hl : l.length = n * n) (hrd : Reads w w.heap.size A (nums l)) (hlt : ltCs l) :
    Calls Try.prog 39 #[mval n n (.slice A l.length cap)] w (RetV (.float .f64 (norm1 l n n)) w) := by
  have HC := Lib.hid (fun V (hV : Below w.heap.size w V) => rNorm1_c n n A l cap V hn hn hl ((hrd.below hV).more hV.size) hlt)
  have HB := Lib.hid (below_new w (.cells #[.int .i64 (n : Nat), .int .i64 (n : Nat), .slice A l.length cap] 28))
  clear hrd hlt hl
  go_enter Try.func39, Try.ntmps39
  go_wp2_with fail
  refine (HC.out _ HB.out).mono ?_
  rintro e W1 ⟨rfl, hb⟩
  have HB1 := Lib.hid (HB.out.trans (hb.mono HB.out.size))
  clear hb
  go_wp2
  go_ret
  exact ⟨rfl, HB1.out⟩
set_option maxHeartbeats 4000000 in
theorem rOff_good (n : Nat) (A B : Option Addr) (la lb : List C) (capa capb : Nat) (w : World) (hn : n ≤ 64) (hla : la.length = n * n) (hlb : lb.length = n * n) (hX : Lies w A la capa) (hY : Lies w B lb capb) :
    Calls Try.prog 13 #[mval n n (.slice A la.length capa), mval n n (.slice B lb.length capb)] w (RetFE (offN la lb n) 0 w) := by
  have HC := Lib.hid (rCheck_c n n A la.length capa)
  have HD := Lib.hid (rCheck_c n n B lb.length capb)
  rw [okN hn hn hla] at HC
  rw [okN hn hn hlb] at HD
  have HXm := Lib.hid hX
  have HYm := Lib.hid hY
  have HLA := Lib.hid hla
  have HLB := Lib.hid hlb
  clear hX hY hla hlb
  go_enter Try.func13, Try.ntmps13
  go_wp2_with fail
  refine (HC.out _).mono ?_
  rintro e W1 ⟨rfl, hb⟩
  obtain ⟨bx, by_, hbl, hs1⟩ := frame2b hb
  have hX1 := HXm.out.has hbl bx (by omega)
  have hY1 := HYm.out.has hbl by_ (by omega)
  have BE1 := Lib.hid hbl
  clear hb hbl hs1 bx by_
  have HX1 := Lib.hid hX1
  obtain ⟨⟨xa1, xb1, xc1⟩, -⟩ := hX1
  have xA1 := fun o => (HX1.out.alloc o).1.1
  have xB1 := fun o => (HX1.out.alloc o).1.2.1
  have xC1 := fun o => (HX1.out.alloc o).1.2.2
  have HY1 := Lib.hid hY1
  obtain ⟨⟨ya1, yb1, yc1⟩, -⟩ := hY1
  have yA1 := fun o => (HY1.out.alloc o).1.1
  have yB1 := fun o => (HY1.out.alloc o).1.2.1
  have yC1 := fun o => (HY1.out.alloc o).1.2.2
  go_wp2_with fail
  refine (HD.out _).mono ?_
  rintro e W2 ⟨rfl, hb⟩
  have hX2 := HX1.out.below hb
  have hY2 := HY1.out.below hb
  clear xa1 xb1 xc1 xA1 xB1 xC1 HX1
  have HX2 := Lib.hid hX2
  obtain ⟨⟨xa2, xb2, xc2⟩, -⟩ := hX2
  have xA2 := fun o => (HX2.out.alloc o).1.1
  have xB2 := fun o => (HX2.out.alloc o).1.2.1
  have xC2 := fun o => (HX2.out.alloc o).1.2.2
  clear ya1 yb1 yc1 yA1 yB1 yC1 HY1
  have HY2 := Lib.hid hY2
  obtain ⟨⟨ya2, yb2, yc2⟩, -⟩ := hY2
  have yA2 := fun o => (HY2.out.alloc o).1.1
  have yB2 := fun o => (HY2.out.alloc o).1.2.1
  have yC2 := fun o => (HY2.out.alloc o).1.2.2
  have BE2 := Lib.hid (BE1.out.trans (hb.mono BE1.out.size))
  clear BE1
  clear hb
  go_wp2_with fail
  refine (rMul_c7 n n n A B la lb capa capb _ hn hn hn HLA.out HLB.out HX2.out.2.2.1 HY2.out.2.2.1).mono ?_
  rintro e W3 ⟨s, zp, rfl, hz, hlz, hown, hb⟩
  have hX3 := HX2.out.below hb
  have hY3 := HY2.out.below hb
  clear xa2 xb2 xc2 xA2 xB2 xC2 HX2
  have HX3 := Lib.hid hX3
  obtain ⟨⟨xa3, xb3, xc3⟩, -⟩ := hX3
  have xA3 := fun o => (HX3.out.alloc o).1.1
  have xB3 := fun o => (HX3.out.alloc o).1.2.1
  have xC3 := fun o => (HX3.out.alloc o).1.2.2
  clear ya2 yb2 yc2 yA2 yB2 yC2 HY2
  have HY3 := Lib.hid hY3
  obtain ⟨⟨ya3, yb3, yc3⟩, -⟩ := hY3
  have yA3 := fun o => (HY3.out.alloc o).1.1
  have yB3 := fun o => (HY3.out.alloc o).1.2.1
  have yC3 := fun o => (HY3.out.alloc o).1.2.2
  have BE3 := Lib.hid (BE2.out.trans (hb.mono BE2.out.size))
  clear BE2
  have hel := congrArg List.length hz
  rw [List.length_map] at hel
  rw [← hel] at hown
  obtain ⟨pA, pn, pc, rfl, -⟩ := slice_of_own hown
  obtain ⟨en, -, -⟩ := own_slice hown
  subst en
  have HZP := Lib.hid hz
  have HTP := Lib.hid hlz
  have PP := Lib.hid (fun o => ((Reads.of_own hown).below (below_new W3 o)).more (below_new W3 o).size)
  have OWN := Lib.hid hown
  clear hz hlz hel hown hb
  go_wp2_with fail
  refine (rIdentity_c n _ hn).mono ?_
  rintro e W4 ⟨s, zq, rfl, hz, hlz, hown, hb⟩
  obtain ⟨-, hP4, hq⟩ := Has.new OWN.out hb
  clear OWN PP
  have hX4 := HX3.out.below hq
  have hY4 := HY3.out.below hq
  clear xa3 xb3 xc3 xA3 xB3 xC3 HX3
  have HX4 := Lib.hid hX4
  obtain ⟨⟨xa4, xb4, xc4⟩, -⟩ := hX4
  have xA4 := fun o => (HX4.out.alloc o).1.1
  have xB4 := fun o => (HX4.out.alloc o).1.2.1
  have xC4 := fun o => (HX4.out.alloc o).1.2.2
  clear ya3 yb3 yc3 yA3 yB3 yC3 HY3
  have HY4 := Lib.hid hY4
  obtain ⟨⟨ya4, yb4, yc4⟩, -⟩ := hY4
  have yA4 := fun o => (HY4.out.alloc o).1.1
  have yB4 := fun o => (HY4.out.alloc o).1.2.1
  have yC4 := fun o => (HY4.out.alloc o).1.2.2
  have BE4 := Lib.hid (BE3.out.trans (hq.mono BE3.out.size))
  clear BE3
  have HP4 := Lib.hid hP4
  obtain ⟨⟨pa4, pb4, pc4⟩, -⟩ := hP4
  have pA4 := fun o => (HP4.out.alloc o).1.1
  have pB4 := fun o => (HP4.out.alloc o).1.2.1
  have pC4 := fun o => (HP4.out.alloc o).1.2.2
  clear hq
  have hel := congrArg List.length hz
  rw [List.length_map] at hel
  rw [← hel] at hown
  obtain ⟨qA, qn, qc, rfl, -⟩ := slice_of_own hown
  obtain ⟨en, -, -⟩ := own_slice hown
  subst en
  have HZQ := Lib.hid hz
  have HTQ := Lib.hid hlz
  have PQ := Lib.hid (fun o => ((Reads.of_own hown).below (below_new W4 o)).more (below_new W4 o).size)
  have OWN := Lib.hid hown
  clear hz hlz hel hown hb
  go_wp2_with fail
  refine (rMSub_c n n pA qA zp zq pc qc _ hn hn (len_made HZP.out) (len_made HZQ.out) ((HP4.out.alloc _).2.2.1) (PQ.out _)).mono ?_
  rintro e W5 ⟨s, zd, rfl, hz, hlz, hown, hb⟩
  obtain ⟨-, hQ5, hq⟩ := Has.new OWN.out hb
  clear OWN PQ
  have hX5 := HX4.out.below hq
  have hY5 := HY4.out.below hq
  have hP5 := HP4.out.below hq
  clear xa4 xb4 xc4 xA4 xB4 xC4 HX4
  have HX5 := Lib.hid hX5
  obtain ⟨⟨xa5, xb5, xc5⟩, -⟩ := hX5
  have xA5 := fun o => (HX5.out.alloc o).1.1
  have xB5 := fun o => (HX5.out.alloc o).1.2.1
  have xC5 := fun o => (HX5.out.alloc o).1.2.2
  clear ya4 yb4 yc4 yA4 yB4 yC4 HY4
  have HY5 := Lib.hid hY5
  obtain ⟨⟨ya5, yb5, yc5⟩, -⟩ := hY5
  have yA5 := fun o => (HY5.out.alloc o).1.1
  have yB5 := fun o => (HY5.out.alloc o).1.2.1
  have yC5 := fun o => (HY5.out.alloc o).1.2.2
  clear pa4 pb4 pc4 pA4 pB4 pC4 HP4
  have HP5 := Lib.hid hP5
  obtain ⟨⟨pa5, pb5, pc5⟩, -⟩ := hP5
  have pA5 := fun o => (HP5.out.alloc o).1.1
  have pB5 := fun o => (HP5.out.alloc o).1.2.1
  have pC5 := fun o => (HP5.out.alloc o).1.2.2
  have BE5 := Lib.hid (BE4.out.trans (hq.mono BE4.out.size))
  clear BE4
  have HQ5 := Lib.hid hQ5
  obtain ⟨⟨qa5, qb5, qc5⟩, -⟩ := hQ5
  have qA5 := fun o => (HQ5.out.alloc o).1.1
  have qB5 := fun o => (HQ5.out.alloc o).1.2.1
  have qC5 := fun o => (HQ5.out.alloc o).1.2.2
  clear hq
  have hel := congrArg List.length hz
  rw [List.length_map] at hel
  rw [← hel] at hown
  obtain ⟨dA, dn, dc, rfl, -⟩ := slice_of_own hown
  obtain ⟨en, -, -⟩ := own_slice hown
  subst en
  have HZD := Lib.hid hz
  have HTD := Lib.hid hlz
  have PD := Lib.hid (fun o => ((Reads.of_own hown).below (below_new W5 o)).more (below_new W5 o).size)
  have OWN := Lib.hid hown
  clear hz hlz hel hown hb
  have HV := Lib.hid (offN_of HZP.out HZQ.out HZD.out)
  go_wp2_with fail
  refine (rnorm_c n dA zd dc _ hn (len_made HZD.out) (PD.out _) HTD.out).mono ?_
  rintro e W6 ⟨rfl, hb⟩
  have BE6 := Lib.hid (BE5.out.trans (((below_new W5 _).trans (hb.mono (below_new W5 _).size)).mono BE5.out.size))
  clear hb
  go_wp2
  go_ret2
  exact ⟨retFE HV.out rfl, BE6.out⟩
theorem rOff_c (ra ca rb cb : Int) (A B : Option Addr) (la lb : List C) (capa capb : Nat) (w : World) (hX : Lies w A la capa) (hY : Lies w B lb capb) :
    Calls Try.prog 13 #[mval ra ca (.slice A la.length capa), mval rb cb (.slice B lb.length capb)] w (RetFE (offV ra ca rb cb la lb) (offE ra ca rb cb la.length lb.length) w) := by
  cases h : okOff ra ca rb cb la.length lb.length
  · unfold offV offE
    rw [h]
    show Calls _ _ _ _ (RetFE 0 4 w)
    cases h1 : okM ra ca la.length
    · exact rOff_first ra ca rb cb A B _ _ capa capb w h1
    cases h2 : okM rb cb lb.length
    · exact rOff_second ra ca rb cb A B _ _ capa capb w h1 (.inl h2)
    · cases h3 : (ra == ca)
      · exact rOff_second ra ca rb cb A B _ _ capa capb w h1 (.inr ⟨h2, .inl h3⟩)
      · cases h4 : (rb == ra)
        · exact rOff_second ra ca rb cb A B _ _ capa capb w h1 (.inr ⟨h2, .inr (.inl ⟨h3, h4⟩)⟩)
        · refine rOff_second ra ca rb cb A B _ _ capa capb w h1 (.inr ⟨h2, .inr (.inr ⟨h3, h4, ?_⟩)⟩)
          unfold okOff at h; rw [h1, h2, h3] at h
          simp only [beq_iff_eq] at h3 h4
          subst h3 h4
          simp at h ⊢
          omega
  · have h' := h
    obtain ⟨n, hn, rfl, rfl, rfl, rfl, h1, h2⟩ := okOff_iff h
    unfold offV offE
    rw [h']
    show Calls _ _ _ _ (RetFE (offN la lb (n : Int).toNat) 0 w)
    rw [Int.toNat_natCast]
    exact rOff_good n A B la lb capa capb w hn h1 h2 hX hY
end Go.Proofs.Ytajdfbjjgjpicaa
