/- The statements' words: square matrices out of numbers, conjugates, whole lists that are the same. -/
import Derived.Test.YtajdfbjjgjpicaaMX18
import Derived.Test.YtajdfbjjgjpicaaMX6
import Derived.Test.YtajdfbjjgjpicaaApp
import Derived.Test.YtajdfbjjgjpicaaT04
import Derived.Deep.RegionHeld3
import Derived.Deep.RegionLaw
import Derived.Deep.AppendLies
namespace Go.Proofs.Ytajdfbjjgjpicaa
open Go.RowKit Fl Ieee
set_option maxRecDepth 20000
attribute [local go_sem] run_store_float run_store_complex Fl.order_self Fl.order_self' Fl.order_eq Fl.order_ne Fl.order_lt Fl.order_gt
/-- The values of a list of whole numbers. -/
abbrev intsV (l : List Int) : List Value := l.map (Value.int .i64)
theorem below_drew {B : Nat} {a w : World} (h : Below B a w) : Below B a w.drew := h.drew
/-- A matrix whose numbers lie in memory of their own. -/
def RetMs (r c : Int) (l : List C) (w : World) (e : Ending) (w' : World) : Prop := ∃ s, e = .returned (mval r c s) ∧ w'.ownsRow w.heap.size 53 1 s l.length (nums l) ∧ Below w.heap.size w w'
/-- A list of conjugates of one's own. -/
def conjB (l : List C) : List C := l.map fun z => (z.1, flip double z.2)
theorem conjB_cn {l : List C} (h : ltCs l) : (conjB l).map cnC = (l.map fun z => pConj (cnC z)) := by
  unfold conjB
  rw [List.map_map]
  exact List.map_congr_left fun z hz => Prod.ext rfl (cn_flip (h z hz).2)
theorem conjB_lt {l : List C} (h : ltCs l) : ltCs (conjB l) := fun z hz => by
  unfold conjB at hz
  obtain ⟨y, hy, rfl⟩ := List.mem_map.1 hz
  exact ⟨(h y hy).1, flip_lt64 (h y hy).2⟩
theorem conjB_take {l : List C} {k : Nat} {x : C} (hx : l[k]? = some x) : nums (conjB (l.take (k + 1))) = nums (conjB (l.take k)) ++ [.complex .f64 x.1 (flip double x.2)] := by
  have hlt := lt_of_some hx
  have e : l[k] = x := by rw [List.getElem?_eq_getElem hlt] at hx; exact Option.some.inj hx
  rw [List.take_succ_eq_append_getElem hlt, e]
  simp [conjB, nums]
set_option maxHeartbeats 2000000 in
theorem ConjNumbers_c (A : Option Addr) (l : List C) (cap : Nat) (w : World) (hl : l.length ≤ 1000000) (hr : Reads w w.heap.size A (nums l)) :
    Calls Try.prog 51 #[.slice A l.length cap] w (RetL (conjB l) w) := by
  obtain ⟨i0, hi, hz0, hz1, hz2⟩ := info_parts infoNum
  have HR := Lib.hid hr
  have HL := Lib.hid hl
  clear hr hl
  go_enter Try.func51, Try.ntmps51
  go_wp2
  go_loopw [3, 4] (fun s i wr => ∃ k : Nat, k ≤ l.length ∧ i = .int .i64 (k : Nat) ∧ wr.ownsRow w.heap.size 53 1 s k (nums (conjB (l.take k))) ∧ Below w.heap.size w wr) (fun _ i _ => l.length - (intOf i).toNat)
  case atStart => exact ⟨0, Nat.zero_le _, rfl, World.ownsRow_nil _ _ _ _, Below.refl _ _⟩
  case round =>
    obtain ⟨k, hk, rfl, hown, hb⟩ := hrel
    have HB := Lib.hid hb
    have HO := Lib.hid hown
    have hkb : (k : Int) + 1 ≤ 1000001 := by have := HL.out; omega
    clear hb hown
    by_cases hlt : k < l.length
    · have hlti : (k : Int) < (l.length : Int) := Int.ofNat_lt.2 hlt
      obtain ⟨x, hx⟩ := some_of_lt hlt
      have hxv : (nums l)[k]? = some (.complex .f64 x.1 x.2) := by simp [nums, hx]
      obtain ⟨ad, rfl, _, hc1⟩ := (HR.out.below HB.out).at_ hxv
      have HX := Lib.hid hx
      have H63 := Lib.hid (show k + 1 ≤ maxLen by have := HL.out; unfold maxLen; omega)
      have HBy := Lib.hid (show (k + 1) * 16 ≤ 140737488355328 by have := HL.out; omega)
      have HSz := Lib.hid (show w.heap.size ≤ (wr.drew.alloc (.cells #[.complex .f64 x.1 (flip double x.2)] 53)).heap.size from Nat.le_trans HB.out.size (below_new wr.drew _).size)
      have HOd := Lib.hid ((HO.out.drew).alloc (.cells #[.complex .f64 x.1 (flip double x.2)] 53))
      clear hx hxv
      go_wp2
      go_region_law (refine step_append_lies _ rfl (.tmp 11) (.tmp 24) 25 rfl w.heap.size 53 i0 (.complex .f64 0 0) 1 16 Try.underlying25 hi hz0 hz1 hz2 rfl (by decide) _ _ _ rfl HOd.out ⟨_, 0, none⟩ 1 1 [.complex .f64 x.1 (flip double x.2)] rfl rfl (cell_one_new _ _ _) (by intro u hu; simp at hu; subst hu; rfl) (by decide) H63.out HBy.out HSz.out _ rfl ?_; intro g cap' w1 hown1 hgrow1 hat1 hlt1)
      all_goals
        have HO1 := Lib.hid hown1
        have HB1 := Lib.hid (((below_drew HB.out).new (Nat.le_refl _) _).grown hgrow1 HSz.out (fun j hj => (HO.out.lt j hj).1))
        clear hown1 hgrow1 hat1 hlt1 hc1
        go_wp2
        go_roundw
        case rel =>
          refine ⟨k + 1, hlt, by go_num, ?_, HB1.out⟩
          rw [conjB_take HX.out]; exact HO1.out
        case measure => simp [intOf]; omega
    · have e : k = l.length := by omega
      subst e
      go_wp2
      go_ret
      refine ⟨_, rfl, ?_, HB.out⟩
      have h := HO.out
      rw [List.take_of_length_le (Nat.le_refl _)] at h
      rw [show (conjB l).length = l.length by simp [conjB]]; exact h
theorem ConjMatrix_c (r c : Int) (A : Option Addr) (l : List C) (cap : Nat) (w : World) (hl : l.length ≤ 1000000) (hr : Reads w w.heap.size A (nums l)) :
    Calls Try.prog 19 #[mval r c (.slice A l.length cap)] w (RetMs r c (conjB l) w) := by
  have hb0 : Below w.heap.size w ((w.alloc (.cells #[.int .i64 r, .int .i64 c, .slice A l.length cap] 28)).alloc zrow) := ((Below.refl _ w).new (Nat.le_refl _) _).new (Nat.le_refl _) _
  have HC := Lib.hid (ConjNumbers_c A l cap _ hl ((hr.below hb0).more hb0.size))
  have HB0 := Lib.hid hb0
  clear hl hr hb0
  go_enter Try.func19, Try.ntmps19
  go_wp2_with fail
  refine HC.out.mono ?_
  rintro e W1 ⟨s, rfl, hown, hb⟩
  have hx := row_keep hb (row_alloc (heap_alloc_new w (.cells #[.int .i64 r, .int .i64 c, .slice A l.length cap] 28)))
  have hy := row_keep hb (row_new2 w (.cells #[.int .i64 r, .int .i64 c, .slice A l.length cap] 28) zrow)
  have HO := Lib.hid (own_base hown (show w.heap.size + 2 ≤ _ by simp))
  have HB := Lib.hid (HB0.out.trans (hb.mono HB0.out.size))
  obtain ⟨sA, sn, sc, rfl, -⟩ := slice_of_own hown
  obtain ⟨x0, x1, x2, fx⟩ := box3 hx
  obtain ⟨y0, y1, y2, fy⟩ := box3 hy
  have fx2 := fx 2
  have fy0 := fy 0
  have fy1 := fy 1
  have fy2 := fy 2
  clear hx hy fx fy hb hown
  go_wp2
  have no : ∀ j u, W1.cell? ⟨w.heap.size + 1, j, none⟩ = some u → (W1.setCell ⟨w.heap.size, 2, none⟩ (.slice sA sn sc)).cell? ⟨w.heap.size + 1, j, none⟩ = some u := fun j u hu =>
    (World.cell?_setCell_other _ _ _ _ (by simp)).trans hu
  obtain ⟨q0, q1, q2⟩ := set3 (u := .int .i64 r) (v := .int .i64 c) (t := .slice sA sn sc) (no 0 _ y0) (no 1 _ y1) (no 2 _ y2)
  refine bodyPost_ret (v := mval r c (.slice sA sn sc)) (by simp [results, Try.results19, go_sem, q0, q1, q2]) rfl ?_
  refine ⟨_, rfl, ?_, (((HB.out.setCell (Nat.le_refl _) _).setCell (Nat.le_succ _) _).setCell (Nat.le_succ _) _).setCell (Nat.le_succ _) _⟩
  exact own_base (ownsRow_setCell_below (ownsRow_setCell_below (ownsRow_setCell_below (ownsRow_setCell_below HO.out (by show w.heap.size < _; omega) _) (by show w.heap.size + 1 < _; omega) _) (by show w.heap.size + 1 < _; omega) _) (by show w.heap.size + 1 < _; omega) _) (by omega)
theorem EqualMatrix_t (r c : Int) (A B : Option Addr) (l m : List C) (n ca cb : Nat) (w : World) (hn : l.length = n) (hm : m.length = n) (h : ∀ (k : Nat) (x y : C), l[k]? = some x → m[k]? = some y → pEqual (cnC x) (cnC y) = true) (hmax : n ≤ 4611686018427387904)
    (hA : Reads w w.heap.size A (nums l)) (hB : Reads w w.heap.size B (nums m)) :
    Calls Try.prog 21 #[mval r c (.slice A n ca), mval r c (.slice B n cb)] w (RetBB true w) := by
  have hb0 : Below w.heap.size w ((w.alloc (.cells #[.int .i64 r, .int .i64 c, .slice A n ca] 28)).alloc (.cells #[.int .i64 r, .int .i64 c, .slice B n cb] 28)) :=
    ((Below.refl _ w).new (Nat.le_refl _) _).new (Nat.le_refl _) _
  have HS := Lib.hid (EqualNumbers_t A B l m n ca cb _ hn hm h hmax ((hA.below hb0).more hb0.size) ((hB.below hb0).more hb0.size))
  have HB := Lib.hid hb0
  clear hn hm h hmax hA hB hb0
  go_enter Try.func21, Try.ntmps21
  go_wp2_with fail
  refine HS.out.mono ?_
  rintro e W1 ⟨k, rfl, rfl⟩
  go_wp2
  go_ret
  exact ⟨rfl, below_drewN HB.out k⟩
end Go.Proofs.Ytajdfbjjgjpicaa
namespace Go.Proofs.Ytajdfbjjgjpicaa
open Go.RowKit Fl Ieee
set_option maxRecDepth 20000
attribute [local go_sem] run_store_float run_store_complex
/-- The numbers of a square matrix, noughts where there are too few. -/
def sqL (l : List C) (k : Nat) : List C := (List.range k).map fun i => l.getD i (0, 0)
theorem sqL_succ (l : List C) (k : Nat) : sqL l (k + 1) = sqL l k ++ [l.getD k (0, 0)] := by
  unfold sqL; rw [List.range_succ, List.map_append]; rfl
theorem sqL_len (l : List C) (k : Nat) : (sqL l k).length = k := by simp [sqL]
theorem sqL_lt {l : List C} (h : ltCs l) (k : Nat) : ltCs (sqL l k) := fun z hz => by
  unfold sqL at hz
  obtain ⟨i, _, rfl⟩ := List.mem_map.1 hz
  rw [List.getD_eq_getElem?_getD]
  cases hi : l[i]? with
  | none => exact ⟨by decide, by decide⟩
  | some x => exact h x (List.mem_of_getElem? hi)
/-- How many rows. -/
def sqN (n : Int) : Nat := (n % 65).toNat
theorem sqN_le (n : Int) : sqN n ≤ 64 := by unfold sqN; omega
theorem sqN_cast (n : Int) : n % 65 = (sqN n : Nat) := by unfold sqN; omega
def SqR (N : Nat) (l : List C) (w : World) (k : Nat) (wr : World) : Prop :=
  ∃ s, wr.ownsRow (w.heap.size + 2) 53 1 s k (nums (sqL l k)) ∧ wr.heap[w.heap.size + 1]? = some (.cells #[.int .i64 (N : Nat), .int .i64 (N : Nat), s] 28) ∧
    wr.heap[w.heap.size]? = some zrow ∧ w.heap.size + 2 ≤ wr.heap.size ∧ Below w.heap.size w wr
theorem SqR.below {N k : Nat} {l : List C} {w wr V : World} (h : SqR N l w k wr) (hb : Below wr.heap.size wr V) : SqR N l w k V := by
  obtain ⟨s, h1, h2, h3, h4, h5⟩ := h
  exact ⟨s, own_below h1 hb, row_keep hb h2, row_keep hb h3, Nat.le_trans h4 hb.size, h5.trans (hb.mono (by omega))⟩
theorem sq_next {N k g cap' : Nat} {l : List C} {w wr w1 : World} {o : Obj} {s : Value} {z : C} (hz : z = l.getD k (0, 0))
    (hown : wr.ownsRow (w.heap.size + 2) 53 1 s k (nums (sqL l k))) (hbx : wr.heap[w.heap.size + 1]? = some (.cells #[.int .i64 (N : Nat), .int .i64 (N : Nat), s] 28))
    (hrc : wr.heap[w.heap.size]? = some zrow) (hsz : w.heap.size + 2 ≤ wr.heap.size) (hbel : Below w.heap.size w wr)
    (hgrow : (wr.alloc o).grownBy w1 s.ownBlock)
    (hown1 : w1.ownsRow (w.heap.size + 2) 53 1 (.slice (some ⟨g, 0, none⟩) (k + 1) cap') (k + 1) (nums (sqL l k) ++ [.complex .f64 z.1 z.2])) :
    w1.cell? ⟨w.heap.size + 1, 2, none⟩ = some s ∧ w1.frozen? ⟨w.heap.size + 1, 2, none⟩ = false ∧ SqR N l w (k + 1) (w1.setCell ⟨w.heap.size + 1, 2, none⟩ (.slice (some ⟨g, 0, none⟩) (k + 1) cap')) := by
  have hs : (wr.alloc o).heap.size = wr.heap.size + 1 := by simp
  have FB : ∀ p, p < w.heap.size + 2 → w1.heap[p]? = wr.heap[p]? := fun p hp => by
    have h1 : (wr.alloc o).heap[p]? = wr.heap[p]? := Below.heap_alloc wr o p (by omega)
    have h3 := hgrow.block p (by omega) (fun e => by have := (hown.lt p e.symm).1; omega)
    exact h3.trans h1
  have hbx1 := (FB _ (by omega)).trans hbx
  obtain ⟨-, -, c2, fr⟩ := box3 hbx1
  refine ⟨c2, fr 2, .slice (some ⟨g, 0, none⟩) (k + 1) cap', ?_, ?_, ?_, ?_, ?_⟩
  · have e : nums (sqL l (k + 1)) = nums (sqL l k) ++ [.complex .f64 z.1 z.2] := by rw [sqL_succ, hz]; simp [nums]
    rw [e]
    exact ownsRow_setCell_below hown1 (by show w.heap.size + 1 < _; omega) _
  · rw [heap_setCell_same _ _ 2 _ _ _ hbx1]; rfl
  · rw [Below.heap_setCell _ _ _ _ (by show w.heap.size ≠ w.heap.size + 1; omega), FB _ (by omega)]; exact hrc
  · have : (w1.setCell ⟨w.heap.size + 1, 2, none⟩ (.slice (some ⟨g, 0, none⟩) (k + 1) cap')).heap.size = w1.heap.size := by simp [World.setCell]
    have := hgrow.size
    omega
  · exact ((hbel.new (Nat.le_refl _) o).grown hgrow (by omega) (fun j hj => by have := (hown.lt j hj).1; omega)).setCell (Nat.le_succ _) _
set_option maxHeartbeats 4000000 in
theorem Square_c (n : Int) (A : Option Addr) (l : List C) (cap : Nat) (w : World) (hr : Reads w w.heap.size A (zcells l)) :
    Calls Try.prog 17 #[.int .i64 n, .slice A l.length cap] w (RetMs (sqN n) (sqN n) (sqL l (sqN n * sqN n)) w) := by
  obtain ⟨i0, hi, hz0, hz1, hz2⟩ := info_parts infoNum
  obtain ⟨N, hN⟩ : ∃ N, N = sqN n := ⟨_, rfl⟩
  have hN64 : N ≤ 64 := by rw [hN]; exact sqN_le n
  have hP := Lib.hid (Pick_c n 65 (by omega) (by omega))
  rw [sqN_cast n, ← hN] at hP
  rw [← hN]
  obtain ⟨M, hM⟩ : ∃ M, M = N * N := ⟨_, rfl⟩
  have hM4 : M ≤ 4096 := by rw [hM]; exact prod_small hN64 hN64
  have hm : wrap64 ((N : Int) * (N : Int)) = (M : Int) := by rw [hM, ← Int.natCast_mul, ← hM]; unfold wrap64; omega
  have HR := Lib.hid hr
  have HM := Lib.hid hM
  have hw0 : SqR N l w 0 ((w.alloc zrow).alloc (.cells #[.int .i64 (N : Nat), .int .i64 (N : Nat), .slice none 0 0] 28)) :=
    ⟨.slice none 0 0, World.ownsRow_nil _ _ _ _, row_new2 _ _ _, row_alloc (heap_alloc_new _ _), by simp, (below_new _ _).new (Nat.le_refl _) _⟩
  have HW0 := Lib.hid hw0
  clear hr hN hM hw0
  go_enter Try.func17, Try.ntmps17
  go_wp2_with fail
  refine (hP.out _).mono ?_
  rintro e w' ⟨rfl, rfl⟩
  go_wp2
  go_loopw [6] (fun i wr => ∃ k : Nat, k ≤ M ∧ i = .int .i64 (k : Nat) ∧ SqR N l w k wr) (fun i _ => M - (intOf i).toNat)
  case atStart => exact ⟨0, Nat.zero_le _, rfl, HW0.out⟩
  case round =>
    obtain ⟨k, hk, rfl, hs⟩ := hrel
    have HS := Lib.hid hs
    have hkb : (k : Int) + 1 ≤ 4097 := by omega
    have H63 := Lib.hid (show k + 1 ≤ maxLen by unfold maxLen; omega)
    have HBy := Lib.hid (show (k + 1) * 16 ≤ 140737488355328 by omega)
    clear hs
    by_cases hlt : k < M
    · have hlti : (k : Int) < (M : Int) := Int.ofNat_lt.2 hlt
      by_cases hlt2 : k < l.length
      · have hlti2 : (k : Int) < (l.length : Int) := Int.ofNat_lt.2 hlt2
        obtain ⟨z, hz⟩ : ∃ z, l[k]? = some z := ⟨l[k], List.getElem?_eq_getElem hlt2⟩
        obtain ⟨h1, h2⟩ := zcells_at hz
        have hbelw : Below w.heap.size w wr := HS.out.choose_spec.2.2.2.2
        obtain ⟨ad, rfl, hab, hc1⟩ := (HR.out.below hbelw).at_ h1
        obtain ⟨ad2, e2, _, hc2⟩ := (HR.out.below hbelw).at_ h2
        have e3 : ad = ad2 := by simpa using e2
        subst e3
        have HZ := Lib.hid (show z = l.getD k (0, 0) by rw [List.getD_eq_getElem?_getD, hz]; rfl)
        have hd1 : wr.cell? (ad.add (k * 2)) = some (.int .u64 (z.1 : Nat)) := by rw [Nat.mul_comm]; exact hc1
        have hd2 : wr.cell? { block := (ad.add (k * 2)).block, off := (ad.add (k * 2)).off + 1 } = some (.int .u64 (z.2 : Nat)) := by
          have e4 : ad.add (2 * k + 1) = (ad.add (k * 2)).add 1 := by rw [add_of_add, Nat.mul_comm]
          rw [e4] at hc2; exact hc2
        clear hz h1 h2 e2 hc1 hc2 hbelw
        go_wp2_with fail
        refine (Number_c _ _ _).mono ?_
        rintro e V ⟨d, rfl, hV⟩
        have HV : Hid (Below wr.heap.size wr V) := by
          show Below _ _ _
          rw [hV]; exact below_drewN (below_new _ _) d
        obtain ⟨s, hown, hbx, hrc, hsz, hbel⟩ := HS.out.below HV.out
        obtain ⟨-, -, c2, -⟩ := box3 hbx
        have HO := Lib.hid hown
        have HBx := Lib.hid hbx
        have HRc := Lib.hid hrc
        have HSz := Lib.hid hsz
        have HBel := Lib.hid hbel
        clear hown hbx hrc hsz hbel hV hd1 hd2
        go_wp2_with (at_builtin; refine wpList_append_own _ rfl (.tmp 30) (.tmp 32) 25 rfl (w.heap.size + 2) 53 i0 (.complex .f64 0 0) 1 16 Try.underlying25 hi hz0 hz1 hz2 rfl (by decide) _ _ _ rfl (HO.out.alloc _) ⟨V.heap.size, 0, none⟩ 1 1 [.complex .f64 z.1 z.2] rfl rfl (cell_one_new _ _ _) (by intro u hu; simp at hu; subst hu; rfl) H63.out HBy.out (Nat.le_trans HSz.out (below_new V _).size) ?_; intro v' w1 hown1 hgrow1 hnil1; obtain ⟨g, cap', e1, -, -⟩ := hown1.form (Nat.succ_pos k); subst e1; obtain ⟨d2, f2, hn⟩ := sq_next HZ.out HO.out HBx.out HRc.out HSz.out HBel.out hgrow1 hown1; have HN := Lib.hid hn; clear hn hown1 hgrow1 hnil1 c2)
        go_wp2
        go_roundw
        case rel => exact ⟨k + 1, hlt, by go_num, HN.out⟩
        case measure => simp [intOf]; omega
      · have hlti2 : ¬ (k : Int) < (l.length : Int) := by omega
        obtain ⟨s, hown, hbx, hrc, hsz, hbel⟩ := HS.out
        obtain ⟨-, -, c2, -⟩ := box3 hbx
        have HO := Lib.hid hown
        have HBx := Lib.hid hbx
        have HRc := Lib.hid hrc
        have HSz := Lib.hid hsz
        have HBel := Lib.hid hbel
        have HZ := Lib.hid (show ((0, 0) : C) = l.getD k (0, 0) by rw [List.getD_eq_getElem?_getD, List.getElem?_eq_none (by omega)]; rfl)
        clear hown hbx hrc hsz hbel
        go_wp2_with (at_builtin; refine wpList_append_own _ rfl (.tmp 30) (.tmp 32) 25 rfl (w.heap.size + 2) 53 i0 (.complex .f64 0 0) 1 16 Try.underlying25 hi hz0 hz1 hz2 rfl (by decide) _ _ _ rfl (HO.out.alloc _) ⟨_, 0, none⟩ 1 1 [.complex .f64 0 0] rfl rfl (cell_one_new _ _ _) (by intro u hu; simp at hu; subst hu; rfl) H63.out HBy.out (Nat.le_trans HSz.out (below_new _ _).size) ?_; intro v' w1 hown1 hgrow1 hnil1; obtain ⟨g, cap', e1, -, -⟩ := hown1.form (Nat.succ_pos k); subst e1; obtain ⟨d2, f2, hn⟩ := sq_next (z := (0, 0)) HZ.out HO.out HBx.out HRc.out HSz.out HBel.out hgrow1 hown1; have HN := Lib.hid hn; clear hn hown1 hgrow1 hnil1 c2)
        go_wp2
        go_roundw
        case rel => exact ⟨k + 1, hlt, by go_num, HN.out⟩
        case measure => simp [intOf]; omega
    · have e : k = M := by omega
      subst e
      obtain ⟨s, hown, hbx, hrc, hsz, hbel⟩ := HS.out
      obtain ⟨x0, x1, x2, -⟩ := box3 hbx
      obtain ⟨r0, r1, r2, fr⟩ := box3 hrc
      have f0 := fr 0
      have f1 := fr 1
      have f2 := fr 2
      obtain ⟨sA, sn, sc, rfl, -⟩ := slice_of_own hown
      have HO := Lib.hid hown
      have HB := Lib.hid hbel
      clear hown hbx hrc hsz hbel fr
      go_wp2
      obtain ⟨q0, q1, q2⟩ := set3 (u := .int .i64 (N : Nat)) (v := .int .i64 (N : Nat)) (t := .slice sA sn sc) r0 r1 r2
      refine bodyPost_ret (v := mval N N (.slice sA sn sc)) (by simp [results, Try.results17, go_sem, q0, q1, q2]) rfl ?_
      refine ⟨_, rfl, ?_, ((HB.out.setCell (Nat.le_refl _) _).setCell (Nat.le_refl _) _).setCell (Nat.le_refl _) _⟩
      rw [← HM.out, sqL_len]
      exact own_base (ownsRow_setCell_below (ownsRow_setCell_below (ownsRow_setCell_below HO.out (by show w.heap.size < _; omega) _) (by show w.heap.size < _; omega) _) (by show w.heap.size < _; omega) _) (by omega)
end Go.Proofs.Ytajdfbjjgjpicaa
