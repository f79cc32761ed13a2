/- Lists lent: in memory of their own, marks behind them; kept. -/
import Derived.Test.YtandllekeimpgaaMX1
import Derived.Test.YtandllekeimpgaaFlA
import Derived.WalkLawsBesides
import Derived.Tactics
namespace Go.Proofs.Ytandllekeimpgaa
open Go.RowKit Fl Ieee
set_option maxRecDepth 20000
attribute [local go_sem] run_store_float run_store_complex
/-- A mark. -/
def mark (k i : Nat) : C := (fsub (cn .f64 (floatOfInt .f64 (-1000 * (k : Int) - (i : Int)))) (cn .f64 4620130267728707584), cn .f64 (floatOfInt .f64 (k : Int)))
theorem mark_c (k i : Nat) (hk : k ≤ 10000) (hi : i ≤ 1000000) (w : World) :
    Calls Try.prog 32 #[.int .i64 (k : Nat), .int .i64 (i : Nat)] w (RetC (mark k i) w) := by
  have hlt : floatOfInt .f64 (k : Int) < 18446744073709551616 := (ex_nearest (z := (k : Int)) (by omega)).1
  have HLt := Lib.hid hlt
  clear hlt
  go_enter Try.func32, Try.ntmps32
  go_wp2_with fail
  refine upon_sub _ _ _ _ ?_
  intro r1 n1 h1
  go_wp2
  go_ret
  exact closeC h1.1 rfl h1.2 HLt.out
theorem Copy_none (w : World) : Calls Try.prog 31 #[.slice none 0 0] w (RetL [] w) := by
  obtain ⟨i0, hi, hz0, hz1, hz2⟩ := info_parts infoNum
  go_enter Try.func31, Try.ntmps31
  go_wp2_with (at_builtin; refine wpList_append_none rfl (.tmp 4) (.tmp 5) 26 rfl w.heap.size 45 i0 1 Try.underlying26 hi _ 0 [] rfl (World.ownsRow_nil _ _ _ _) rfl ?_)
  all_goals
    go_ret
    exact ⟨_, rfl, World.ownsRow_nil _ _ _ _, Below.refl _ _⟩
theorem Copy_some (ad : Addr) (l : List C) (cap : Nat) (w : World) (hl : l.length ≤ 1000000) (hr : Reads w w.heap.size (some ad) (nums l)) :
    Calls Try.prog 31 #[.slice (some ad) l.length cap] w (RetL l w) := by
  obtain ⟨i0, hi, hz0, hz1, hz2⟩ := info_parts infoNum
  have hn : ∀ j u, (nums l)[j]? = some u → w.cell? (ad.add j) = some u := fun j u hu => by
    obtain ⟨ad', e, _, hc⟩ := hr.at_ hu
    have e' : ad = ad' := by simpa using e
    subst e'; exact hc
  have HN := Lib.hid hn
  have H63 := Lib.hid (show 0 + l.length ≤ maxLen by unfold maxLen; omega)
  have HBy := Lib.hid (show (0 + l.length) * 16 ≤ 140737488355328 by omega)
  clear hn hr hl
  go_enter Try.func31, Try.ntmps31
  go_wp2_with (at_builtin; refine wpList_append_own _ rfl (.tmp 4) (.tmp 5) 26 rfl w.heap.size 45 i0 (.complex .f64 0 0) 1 16 Try.underlying26 hi hz0 hz1 hz2 rfl (by decide) _ 0 [] rfl (World.ownsRow_nil _ _ _ _) ad l.length cap (nums l) rfl (by simp) HN.out (by intro u hu; simp only [nums, List.mem_map] at hu; obtain ⟨z, _, rfl⟩ := hu; rfl) H63.out HBy.out (Nat.le_refl _) ?_; intro v' w1 hown1 hgrow1 hnil1)
  all_goals
    go_ret
    exact ⟨v', rfl, by simpa using hown1, (Below.refl _ w).grown hgrow1 (Nat.le_refl _) (fun j hj => by cases hj)⟩
theorem Copy_c (A : Option Addr) (l : List C) (cap : Nat) (w : World) (hl : l.length ≤ 1000000) (hA : A = none → cap = 0) (hr : Reads w w.heap.size A (nums l)) :
    Calls Try.prog 31 #[.slice A l.length cap] w (RetL l w) := by
  cases A with
  | some ad => exact Copy_some ad l cap w hl hr
  | none =>
    have e : l = [] := by
      cases l with
      | nil => rfl
      | cons a t => obtain ⟨ad, e, _⟩ := hr (by simp); cases e
    subst e
    rw [hA rfl]
    exact Copy_none w
/-- The list and k marks. -/
def lent (l : List C) (k : Nat) : List C := l.map cnC ++ (List.range k).map (mark 7)
theorem lent_succ (l : List C) (k : Nat) : lent l (k + 1) = lent l k ++ [mark 7 k] := by
  unfold lent; rw [List.range_succ, List.map_append, ← List.append_assoc]; rfl
/-- A list of one's own, told up to NaN. -/
def RetLl (l : List C) (w : World) (e : Ending) (w' : World) : Prop := ∃ s zs, e = .returned s ∧ zs.map cnC = l ∧ ltCs zs ∧ w'.ownsRow w.heap.size 45 1 s zs.length (nums zs) ∧ Below w.heap.size w w'
def LentR (l : List C) (w : World) (s i : Value) (wr : World) : Prop :=
  ∃ (k : Nat) (zs : List C), k ≤ 6 ∧ i = .int .i64 (k : Nat) ∧ zs.map cnC = lent l k ∧ ltCs zs ∧ wr.ownsRow w.heap.size 45 1 s zs.length (nums zs) ∧ Below w.heap.size w wr
set_option maxHeartbeats 1000000 in
theorem Lent_c (A : Option Addr) (l : List C) (cap : Nat) (w : World) (hl : l.length ≤ 1000000) (hlt : ltCs l) (hA : A = none → cap = 0) (hr : Reads w w.heap.size A (nums l)) :
    Calls Try.prog 11 #[.slice A l.length cap] w (RetLl (lent l 6) w) := by
  obtain ⟨i0, hi, hz0, hz1, hz2⟩ := info_parts infoNum
  have HC := Lib.hid (Copy_c A l cap w hl hA hr)
  have HL := Lib.hid hl
  have HLt := Lib.hid hlt
  clear hl hlt hA hr
  go_enter Try.func11, Try.ntmps11
  go_wp2_with fail
  refine HC.out.mono ?_
  rintro e W1 ⟨s, rfl, hown, hb⟩
  have HO := Lib.hid hown
  have HB := Lib.hid hb
  clear hown hb
  go_wp2
  go_loopw [3, 4] (fun s i wr => LentR l w s i wr) (fun _ i _ => 6 - (intOf i).toNat)
  case atStart => exact ⟨0, l, Nat.zero_le _, rfl, by unfold lent; simp, HLt.out, HO.out, HB.out⟩
  case round =>
    obtain ⟨k, zs, hk, rfl, hz, hlz, hown, hbel⟩ := hrel
    have HZ := Lib.hid hz
    have HLz := Lib.hid hlz
    have HOw := Lib.hid hown
    have HBe := Lib.hid hbel
    have hzl : zs.length = l.length + k := by have := congrArg List.length hz; simpa [lent] using this
    have hbd : zs.length ≤ 1000006 := by have := HL.out; omega
    have HBd := Lib.hid hbd
    clear hz hlz hown hbel hzl hbd
    by_cases hlt : k < 6
    · go_wp2_with fail
      refine (mark_c 7 k (by omega) (by omega) _).mono ?_
      rintro e w' ⟨x, y, n, rfl, hv, hx, hy, rfl⟩
      have HV := Lib.hid hv
      rename World => wr
      have hsz := HBe.out.size
      have HOv := Lib.hid ((own_drewN HOw.out n).alloc (.cells #[.complex .f64 x y] 45))
      have HSz := Lib.hid (show w.heap.size ≤ ((wr.drewN n).alloc (.cells #[.complex .f64 x y] 45)).heap.size from Nat.le_trans hsz (below_new (wr.drewN n) _).size)
      have H63 := Lib.hid (show zs.length + 1 ≤ maxLen by have := HBd.out; unfold maxLen; omega)
      have HBy := Lib.hid (show (zs.length + 1) * 16 ≤ 140737488355328 by have := HBd.out; omega)
      clear hv hsz
      go_wp2_with (at_builtin; refine wpList_append_own _ rfl (.tmp 11) (.tmp 14) 26 rfl w.heap.size 45 i0 (.complex .f64 0 0) 1 16 Try.underlying26 hi hz0 hz1 hz2 rfl (by decide) _ _ _ rfl HOv.out ⟨wr.heap.size, 0, none⟩ 1 1 [.complex .f64 x y] rfl rfl (cell_one_new _ _ _) (by intro u hu; simp at hu; subst hu; rfl) H63.out HBy.out HSz.out ?_; intro v' w1 hown1 hgrow1 hnil1)
      clear hnil1
      have hrel1 : LentR l w v' (.int .i64 ((k + 1 : Nat) : Int)) w1 := by
        refine ⟨k + 1, zs ++ [(x, y)], hlt, rfl, ?_, ?_, ?_, ?_⟩
        · rw [List.map_append, HZ.out, lent_succ, List.map_cons, List.map_nil]
          exact congrArg (fun t => lent l k ++ [t]) HV.out
        · intro u hu
          rcases List.mem_append.1 hu with h | h
          · exact HLz.out u h
          · simp at h; rw [h]; exact ⟨hx, hy⟩
        · have e : nums (zs ++ [(x, y)]) = nums zs ++ [.complex .f64 x y] := by simp [nums]
          have e2 : (zs ++ [(x, y)]).length = zs.length + 1 := by simp
          rw [e, e2]; exact hown1
        · exact ((below_drewN HBe.out n).new (Nat.le_refl _) _).grown hgrow1 HSz.out (fun j hj => (HOv.out.lt j hj).1)
      have HRel := Lib.hid hrel1
      clear hrel1 hown1 hgrow1
      go_wp2
      go_roundw
      case rel =>
        have h := HRel.out
        simpa using h
      case measure => simp [intOf]; omega
    · have e : k = 6 := by omega
      subst e
      go_wp2
      go_ret
      exact ⟨_, zs, rfl, HZ.out, HLz.out, HOw.out, HBe.out⟩
/-- Told true; only new blocks and draws. -/
def RetBB0 (w : World) (e : Ending) (w' : World) : Prop := e = .returned (.bool true) ∧ Below w.heap.size w w'
theorem Kept_t (A F : Option Addr) (l zf : List C) (cap capf : Nat) (w : World) (hl : l.length ≤ 1000000) (hlt : ltCs l) (hA : A = none → cap = 0) (hr : Reads w w.heap.size A (nums l)) (hf : zf.map cnC = lent l 6) (hrf : Reads w w.heap.size F (nums zf)) :
    Calls Try.prog 14 #[.slice F zf.length capf, .slice A l.length cap] w (RetBB0 w) := by
  have HC := Lib.hid (Lent_c A l cap w hl hlt hA hr)
  have HF := Lib.hid hf
  have HRf := Lib.hid hrf
  have hlen : zf.length = l.length + 6 := by have := congrArg List.length hf; simpa [lent] using this
  have HLen := Lib.hid hlen
  have HL := Lib.hid hl
  clear hl hlt hA hr hf hrf hlen
  go_enter Try.func14, Try.ntmps14
  go_wp2_with fail
  refine HC.out.mono ?_
  rintro e W1 ⟨s, zs, rfl, hz, hlz, hown, hb⟩
  have hzl : zs.length = zf.length := by
    have h1 := congrArg List.length hz
    have h2 := congrArg List.length HF.out
    rw [List.length_map] at h1 h2
    omega
  rw [hzl] at hown
  obtain ⟨sA, sc, rfl, hrd, -, -⟩ := own_reads hown
  have HS := Lib.hid (SameNumbers_t F sA zf zs zf.length capf sc W1 rfl hzl (HF.out.trans hz.symm) (by have := HLen.out; have := HL.out; omega) ((HRf.out.below hb).more hb.size) hrd)
  have HB := Lib.hid hb
  clear hz hlz hown hb hzl hrd
  go_wp2_with fail
  refine HS.out.mono ?_
  rintro e w' ⟨n, rfl, rfl⟩
  go_wp2
  go_ret
  exact ⟨rfl, below_drewN HB.out n⟩
end Go.Proofs.Ytandllekeimpgaa
namespace Go.Proofs.Ytandllekeimpgaa
open Go.RowKit Fl Ieee
set_option maxRecDepth 20000
attribute [local go_sem] run_store_float run_store_complex
/-- A matrix in memory of its own, and that memory whole. -/
def RetLM (r c : Int) (l : List C) (w : World) (e : Ending) (w' : World) : Prop :=
  ∃ g zs cap, e = .returned (.tuple #[mval r c (.slice (some ⟨g, 0, none⟩) l.length cap), .slice (some ⟨g, 0, none⟩) zs.length cap]) ∧ zs.map cnC = lent l 6 ∧ ltCs zs ∧
    w'.ownsRow w.heap.size 45 1 (.slice (some ⟨g, 0, none⟩) zs.length cap) zs.length (nums zs) ∧ Below w.heap.size w w'
theorem lent_len {zs l : List C} {k : Nat} (h : zs.map cnC = lent l k) : zs.length = l.length + k := by have := congrArg List.length h; simpa [lent] using this
theorem LentMatrix_c (r c : Int) (A : Option Addr) (l : List C) (cap : Nat) (w : World) (hl : l.length ≤ 1000000) (hlt : ltCs l) (hA : A = none → cap = 0) (hr : Reads w w.heap.size A (nums l)) :
    Calls Try.prog 8 #[mval r c (.slice A l.length cap)] w (RetLM r c l w) := by
  have HC := Lib.hid (fun V (hV : Below w.heap.size w V) => Lent_c A l cap V hl hlt hA ((hr.below hV).more hV.size))
  have HL := Lib.hid hl
  have hb0 : Below w.heap.size w ((w.alloc (.cells #[.int .i64 r, .int .i64 c, .slice A l.length cap] 28)).alloc zrow) := ((Below.refl _ w).new (Nat.le_refl _) _).new (Nat.le_refl _) _
  have HB0 := Lib.hid hb0
  clear hl hlt hA hr hb0
  go_enter Try.func8, Try.ntmps8
  go_wp2_with fail
  refine (HC.out _ HB0.out).mono ?_
  rintro e W1 ⟨s, zs, rfl, hz, hlz, hown, hb⟩
  have hzl := lent_len hz
  have hx := row_keep hb (row_alloc (heap_alloc_new w (.cells #[.int .i64 r, .int .i64 c, .slice A l.length cap] 28)))
  have hy := row_keep hb (row_new2 w (.cells #[.int .i64 r, .int .i64 c, .slice A l.length cap] 28) zrow)
  have HOwn := Lib.hid hown
  have HZ := Lib.hid hz
  have HLz := Lib.hid hlz
  have HB := Lib.hid (HB0.out.trans (hb.mono HB0.out.size))
  have hsz : w.heap.size + 2 ≤ W1.heap.size := by have := hb.size; simpa using this
  have HSz := Lib.hid hsz
  obtain ⟨-, h | ⟨g, cap', cur, rfl, hbg, -, hnc, hcm, -⟩⟩ := hown
  · omega
  have hc2 : (l.length : Int) ≤ (cap' : Int) := by omega
  have HBg := Lib.hid hbg
  obtain ⟨x0, x1, x2, fx⟩ := box3 hx
  obtain ⟨y0, y1, y2, fy⟩ := box3 hy
  have fx2 := fx 2
  have fy0 := fy 0
  have fy1 := fy 1
  have fy2 := fy 2
  have HX := Lib.hid hx
  have HY := Lib.hid hy
  clear hx hy fx fy hb hz hlz hbg hsz hcm hnc
  go_wp2
  have no : ∀ j u, W1.cell? ⟨w.heap.size + 1, j, none⟩ = some u → (W1.setCell ⟨w.heap.size, 2, none⟩ (.slice (some ⟨g, 0, none⟩) l.length cap')).cell? ⟨w.heap.size + 1, j, none⟩ = some u := fun j u hu =>
    (World.cell?_setCell_other _ _ _ _ (by simp)).trans hu
  obtain ⟨q0, q1, q2⟩ := set3 (u := .int .i64 r) (v := .int .i64 c) (t := .slice (some ⟨g, 0, none⟩) l.length cap') (no 0 _ y0) (no 1 _ y1) (no 2 _ y2)
  refine bodyPost_ret (v := .tuple #[mval r c (.slice (some ⟨g, 0, none⟩) l.length cap'), .slice (some ⟨g, 0, none⟩) (l.length + 6) cap']) (by simp [results, Try.results8, go_sem, q0, q1, q2]) rfl ?_
  have hs2 : w.heap.size + 2 ≤ g := by have := HBg.out; simpa using this
  have ho := own_base HOwn.out (show w.heap.size + 2 ≤ _ by simp)
  refine ⟨g, zs, cap', by rw [hzl], HZ.out, HLz.out, ?_, ?_⟩
  · exact own_base (ownsRow_setCell_below (ownsRow_setCell_below (ownsRow_setCell_below (ownsRow_setCell_below ho (by show w.heap.size < _; omega) _) (by show w.heap.size + 1 < _; omega) _) (by show w.heap.size + 1 < _; omega) _) (by show w.heap.size + 1 < _; omega) _) (by omega)
  · exact (((HB.out.setCell (Nat.le_refl _) _).setCell (Nat.le_succ _) _).setCell (Nat.le_succ _) _).setCell (Nat.le_succ _) _
end Go.Proofs.Ytandllekeimpgaa
namespace Go.Proofs.Ytandllekeimpgaa
open Go.RowKit Fl Ieee
set_option maxRecDepth 20000
attribute [local go_sem] run_store_float run_store_complex
/-- A row that is written over: it stays a row of one's own, as long as before; all else stays. -/
def RetOv (B g cap n : Nat) (w : World) (e : Ending) (w' : World) : Prop :=
  ∃ zs : List C, e = .returned (.tuple #[]) ∧ zs.length = n ∧ w'.ownsRow B 45 1 (.slice (some ⟨g, 0, none⟩) n cap) n (nums zs) ∧ w.grownBy w' (some g)
theorem nums_set (zs : List C) (k : Nat) (z : C) : (nums zs).set k (.complex .f64 z.1 z.2) = nums (zs.set k z) := by
  simp [nums, List.map_set]
theorem grown_refl (w : World) (row : Option Nat) : w.grownBy w row := ⟨rfl, rfl, rfl, Nat.le_refl _, fun _ _ _ => rfl⟩
theorem Over_c (B g cap n : Nat) (zs : List C) (w : World) (hz : zs.length = n) (hn : n ≤ 1000000) (h : w.ownsRow B 45 1 (.slice (some ⟨g, 0, none⟩) n cap) n (nums zs)) :
    Calls Try.prog 15 #[.slice (some ⟨g, 0, none⟩) n cap] w (RetOv B g cap n w) := by
  have HO := Lib.hid h
  have HL := Lib.hid hz
  have HN := Lib.hid hn
  clear h hz hn
  go_enter Try.func15, Try.ntmps15
  go_wp2
  go_loopw [2] (fun i wr => ∃ (k : Nat) (ys : List C), k ≤ n ∧ i = .int .i64 (k : Nat) ∧ ys.length = n ∧ wr.ownsRow B 45 1 (.slice (some ⟨g, 0, none⟩) n cap) n (nums ys) ∧ w.grownBy wr (some g)) (fun i _ => n - (intOf i).toNat)
  case atStart => exact ⟨0, zs, Nat.zero_le _, rfl, HL.out, HO.out, grown_refl _ _⟩
  case round =>
    obtain ⟨k, ys, hk, rfl, hy, hown, hgr⟩ := hrel
    have HOw := Lib.hid hown
    have HGr := Lib.hid hgr
    have HY := Lib.hid hy
    have hkb : k < 4611686018427387904 := by have := HN.out; omega
    clear hown hgr hy
    by_cases hlt : k < n
    · have hlti : (k : Int) < (n : Int) := Int.ofNat_lt.2 hlt
      have hM := mark_c 9 k (by omega) (by have := HN.out; omega) wr
      have HM := Lib.hid hM
      clear hM
      go_wp2_with fail
      refine HM.out.mono ?_
      rintro e w' ⟨x, y, m, rfl, hv, hx, hy, rfl⟩
      obtain ⟨u, hu⟩ := some_of_lt (l := ys) (k := k) (by rw [HY.out]; exact hlt)
      have hc : wr.cell? ⟨g, k, none⟩ = some (.complex .f64 u.1 u.2) := by
        rw [HOw.out.cellAt k (by omega)]; simp [nums, hu]
      have hf := HOw.out.frozenAt k
      clear hu hv
      go_wp2
      go_roundw
      case rel =>
        have hs := (show (wr.drewN m).ownsRow B 45 1 (.slice (some ⟨g, 0, none⟩) n cap) n (nums ys) from HOw.out).stored k (.complex .f64 x y)
        rw [show (nums ys).set k (.complex .f64 x y) = nums (ys.set k (x, y)) from nums_set ys k (x, y)] at hs
        exact ⟨k + 1, _, hlt, by go_num, by rw [List.length_set]; exact HY.out, hs.1, HGr.out.trans ((show wr.grownBy (wr.drewN m) (some g) from ⟨rfl, rfl, rfl, Nat.le_refl _, fun _ _ _ => rfl⟩).trans hs.2)⟩
      case measure => simp [intOf]; omega
    · have e : k = n := by omega
      subst e
      have hlti : ((k : Int) < (k : Int)) = False := by simp
      go_wp2
      go_end0
      exact ⟨ys, rfl, HY.out, HOw.out, HGr.out⟩
end Go.Proofs.Ytandllekeimpgaa
