/- Layer 7: a matrix times a list. -/
import Derived.Test.YtajdfbjjgjpicaaMX14
import Derived.Test.YtajdfbjjgjpicaaS01
namespace Go.Proofs.Ytajdfbjjgjpicaa
open Go.RowKit Fl Ieee
set_option maxRecDepth 20000
attribute [local go_sem] run_store_float run_store_complex
/-- What the list becomes, its first k. -/
def applied (l lx : List C) (cols k : Nat) : List C := (List.range k).map fun i => dot l lx cols 1 i 0 cols
theorem applied_succ (l lx : List C) (cols k : Nat) : applied l lx cols (k + 1) = applied l lx cols k ++ [dot l lx cols 1 k 0 cols] := by
  unfold applied; rw [List.range_succ, List.map_append]; rfl
end Go.Proofs.Ytajdfbjjgjpicaa
namespace Go.Proofs.Ytajdfbjjgjpicaa
open Go.RowKit Fl Ieee
set_option maxRecDepth 20000
attribute [local go_sem] run_store_float run_store_complex
theorem great_cn (l : List Nat) (k : Nat) : great (l.map (cn .f64)) k = great l k := by
  induction k with
  | zero => rfl
  | succ k ih =>
    rw [great, great, ih, List.getElem?_map]
    cases hx : l[k]? with
    | none => rfl
    | some x =>
      show (if (!isNaN double (cn .f64 x) && (decide ((great l k).1 < 0) || flt .f64 (great l k).2 (cn .f64 x))) then ((k : Int), cn .f64 x) else great l k) = _
      by_cases hn : isNaN double x = true
      · have h1 : isNaN double (cn .f64 x) = true := (isNaN_cn .f64 x).trans hn
        rw [h1]
        show great l k = (if (!isNaN double x && (decide ((great l k).1 < 0) || flt .f64 (great l k).2 x)) then ((k : Int), x) else great l k)
        rw [hn]; rfl
      · have h0 := Bool.eq_false_iff.2 hn
        rw [cn_of_not (k := .f64) h0]
/-- The sum of the sizes of a column's first i numbers. -/
def colSum (l : List C) (cols j : Nat) : Nat → Nat
  | 0 => 0
  | i + 1 => fadd (colSum l cols j i) (pSize1 (ent l cols i j))
def colSums (l : List C) (rows cols k : Nat) : List Nat := (List.range k).map fun j => colSum l cols j rows
theorem colSums_succ (l : List C) (rows cols k : Nat) : colSums l rows cols (k + 1) = colSums l rows cols k ++ [colSum l cols k rows] := by
  unfold colSums; rw [List.range_succ, List.map_append]; rfl
def norm1 (l : List C) (rows cols : Nat) : Nat := (great (colSums l rows cols cols) cols).2
theorem infoReal7 : (Try.prog.info? 31).map (fun i => (i.zero, i.size, i.bytes)) = some (some (.float .f64 0), 1, 8) := by kernel_rfl
/-- A real and what is told of it. -/
def RetFE (v : Nat) (er : Int) (w : World) (e : Ending) (w' : World) : Prop := e = .returned (.tuple #[.float .f64 v, .int .i64 er]) ∧ Below w.heap.size w w'
theorem retFE {v x : Nat} {a er : Int} (h : x = v) (h' : a = er) : Ending.returned (.tuple #[.float .f64 x, .int .i64 a]) = .returned (.tuple #[.float .f64 v, .int .i64 er]) := by rw [h, h']
theorem Norm1_no (r c : Int) (A : Option Addr) (n cap : Nat) (w : World) (h : okM r c n = false) :
    Calls Try.prog 34 #[mval r c (.slice A n cap)] w (RetFE 0 4 w) := by
  have HC := Lib.hid (Check_c r c A n cap)
  rw [h] at HC
  go_enter Try.func34, Try.ntmps34
  go_wp2_with fail
  refine (HC.out _).mono ?_
  rintro e W1 ⟨rfl, hb⟩
  obtain ⟨hbx, hb0, hs1⟩ := frame0 hb
  have HB := Lib.hid hb0
  clear hb hb0 hs1 hbx h
  go_wp2
  go_ret2
  exact ⟨retFE rfl rfl, HB.out⟩
def NormR (l : List C) (rows cols B : Nat) (W1 : World) (s i : Value) (wr : World) : Prop :=
  ∃ (k : Nat) (ys : List Nat), k ≤ cols ∧ i = .int .i64 (k : Nat) ∧ ys.map (cn .f64) = colSums l rows cols k ∧ wr.ownsRow B 31 1 s k (reals ys) ∧ Below B W1 wr
def SumR (l : List C) (rows cols j : Nat) (W : World) (s k : Value) (wr : World) : Prop :=
  ∃ (n x : Nat), n ≤ rows ∧ k = .int .i64 (n : Nat) ∧ s = .float .f64 x ∧ cn .f64 x = colSum l cols j n ∧ x < 18446744073709551616 ∧ Below W.heap.size W wr
set_option maxHeartbeats 2000000 in
theorem Norm1_c (rows cols : Nat) (A : Option Addr) (l : List C) (cap : Nat) (w : World) (hr : rows ≤ 64) (hc : cols ≤ 64) (hl : l.length = rows * cols) (hrd : Reads w w.heap.size A (nums l)) (hlt : ltCs l) :
    Calls Try.prog 34 #[mval rows cols (.slice A l.length cap)] w (RetFE (norm1 l rows cols) 0 w) := by
  obtain ⟨i0, hi, hz0, hz1, hz2⟩ := info_parts infoReal7
  have HC := Lib.hid (Check_c rows cols A l.length cap)
  have ho : okM rows cols l.length = true := okM_iff.2 ⟨by omega, by omega, by omega, by omega, by rw [hl, Int.natCast_mul]⟩
  rw [ho] at HC
  have HRd := Lib.hid hrd
  have HLen := Lib.hid hl
  have HLt := Lib.hid hlt
  clear hrd hl ho hlt
  go_enter Try.func34, Try.ntmps34
  go_wp2_with fail
  refine (HC.out _).mono ?_
  rintro e W1 ⟨rfl, hb⟩
  obtain ⟨hbx, hb0, hs1⟩ := frame0 hb
  have HBX := Lib.hid hbx
  obtain ⟨b0, b1, b2⟩ := hbx
  have HB := Lib.hid hb0
  have HS := Lib.hid hs1
  clear hb hb0 hs1
  go_wp2
  go_loopw [5, 18] (fun s i wr => NormR l rows cols (w.heap.size + 1) W1 s i wr) (fun _ i _ => cols - (intOf i).toNat)
  case atStart => exact ⟨0, [], Nat.zero_le _, rfl, rfl, World.ownsRow_nil _ _ _ _, Below.refl _ _⟩
  case round =>
    rename World => w0
    obtain ⟨k, ys, hk, rfl, hz, hown, hbel⟩ := hrel
    have HZ := Lib.hid hz
    have HO := Lib.hid hown
    have HBe := Lib.hid hbel
    have hyl : ys.length = k := by have := congrArg List.length hz; simpa [colSums] using this
    obtain ⟨c0, c1, c2⟩ := Box.below (W := W1) HBX.out hbel (Nat.lt_succ_self _)
    clear hz hown hbel b0 b1 b2
    by_cases hlt : k < cols
    · go_wp2
      go_loopw [7, 23] (fun s i wv => SumR l rows cols k w0 s i wv) (fun _ i _ => rows - (intOf i).toNat)
      case atStart => exact ⟨0, 0, Nat.zero_le _, rfl, rfl, (by decide : cn .f64 0 = 0), by omega, Below.refl _ _⟩
      case round =>
        rename World => wv
        obtain ⟨n, x, hn, rfl, rfl, hz, hlx, hbv⟩ := hrel
        have HZ2 := Lib.hid hz
        have HBv := Lib.hid hbv
        clear hz hbv
        have hBb : w.heap.size + 1 ≤ W1.heap.size := HS.out
        have hWr : Below (w.heap.size + 1) W1 wv := HBe.out.trans (HBv.out.mono (Nat.le_trans hBb HBe.out.size))
        by_cases hlt2 : n < rows
        · have h0 : Below w.heap.size w wv := HB.out.trans (hWr.mono (Nat.le_succ _))
          obtain ⟨d0, d1, d2⟩ := Box.below (W := W1) HBX.out hWr (Nat.lt_succ_self _)
          have HAt := Lib.hid (at_e rows cols A l cap n k wv HLen.out hr hc hlt2 hlt ((HRd.out.below h0).more h0.size))
          have hz := ltCs_at HLt.out HLen.out hlt2 hlt
          have HM := Lib.hid (fun (V : World) => Size1_c (l.getD (n * cols + k) (0, 0)).1 (l.getD (n * cols + k) (0, 0)).2 hz.1 hz.2 V)
          have HWr := Lib.hid hWr
          clear h0 hWr hBb hz c0 c1 c2
          go_wp2_with fail
          refine HAt.out.mono ?_
          rintro e V1 ⟨rfl, hV1⟩
          go_wp2_with fail
          refine (HM.out V1).mono ?_
          rintro e V2 ⟨y, m, rfl, hy, hly, rfl⟩
          have HY := Lib.hid hy
          have HV1 := Lib.hid hV1
          clear hy hV1
          go_wp2_with fail
          refine upon_add _ _ _ _ ?_
          intro r1 n1 h1
          have hs : cn .f64 r1 = colSum l cols k (n + 1) := by
            rw [h1.1]
            show _ = fadd (colSum l cols k n) (pSize1 (ent l cols n k))
            rw [HZ2.out, HY.out]
            rfl
          have HSS := Lib.hid hs
          have hl1 := h1.2
          have HV3 := Lib.hid (HBv.out.trans ((below_drewN HV1.out (m + n1)).mono HBv.out.size))
          clear hs h1
          go_wp2
          go_roundw
          case rel => exact ⟨n + 1, r1, hlt2, by go_num, rfl, HSS.out, hl1, HV3.out⟩
          case measure => simp [intOf]; omega
        · have e : n = rows := by omega
          subst e
          have hsz : w.heap.size + 1 ≤ w0.heap.size := Nat.le_trans hBb HBe.out.size
          have hOv : wv.ownsRow (w.heap.size + 1) 31 1 u5 k (reals ys) := own_below HO.out HBv.out
          have hsz2 : w.heap.size + 1 ≤ (wv.alloc (.cells #[.float .f64 x] 31)).heap.size := Nat.le_trans hsz (Nat.le_trans HBv.out.size (below_new wv _).size)
          have HOv := Lib.hid (hOv.alloc (.cells #[.float .f64 x] 31))
          have HSz := Lib.hid hsz2
          have HWr := Lib.hid hWr
          clear hOv hsz hsz2 hWr hBb c0 c1 c2
          go_wp2_with (at_builtin; refine wpList_append_own _ rfl (.tmp 34) (.tmp 36) 90 rfl (w.heap.size + 1) 31 i0 (.float .f64 0) 1 8 Try.underlying90 hi hz0 hz1 hz2 rfl (by decide) _ _ _ rfl HOv.out ⟨wv.heap.size, 0, none⟩ 1 1 [.float .f64 x] rfl rfl (cell_one_new _ _ _) (by intro u hu; simp at hu; subst hu; rfl) (by unfold maxLen; omega) (by omega) HSz.out ?_; intro v' w1 hown1 hgrow1 hnil1)
          clear hnil1
          have hrel1 : NormR l n cols (w.heap.size + 1) W1 v' (.int .i64 ((k + 1 : Nat) : Int)) w1 := by
            refine ⟨k + 1, ys ++ [x], hlt, rfl, ?_, ?_, ?_⟩
            · rw [List.map_append, HZ.out, colSums_succ, List.map_cons, List.map_nil, HZ2.out]
            · have e : reals (ys ++ [x]) = reals ys ++ [.float .f64 x] := by simp [reals]
              rw [e]; exact hown1
            · exact (HWr.out.new HS.out _).grown hgrow1 HSz.out (fun j hj => (HOv.out.lt j hj).1)
          have HRel := Lib.hid hrel1
          clear hrel1 hown1 hgrow1
          go_wp2
          go_roundw
          case rel =>
            have h := HRel.out
            simpa using h
          case measure => simp [intOf]; omega
    · have e : k = cols := by omega
      subst e
      obtain ⟨sA, sn, sc, rfl, rfl⟩ := slice_of_own HO.out
      have hg := Greatest_c sA ys sc w0 (by rw [hyl]; omega) (Reads.of_own HO.out)
      rw [hyl] at hg
      have HG := Lib.hid hg
      have HV := Lib.hid (show (great ys sn).2 = norm1 l rows sn by unfold norm1; rw [← HZ.out, great_cn])
      clear hg c0 c1 c2
      go_wp2_with fail
      refine HG.out.mono ?_
      rintro e V ⟨rfl, rfl⟩
      go_wp2
      go_ret2
      exact ⟨retFE HV.out rfl, HB.out.trans (HBe.out.mono (Nat.le_succ _))⟩
end Go.Proofs.Ytajdfbjjgjpicaa
