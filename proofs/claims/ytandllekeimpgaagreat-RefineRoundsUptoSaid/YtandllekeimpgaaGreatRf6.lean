/- Layer 11: a better solution: the vectors' sum and size; what fits. -/
import Derived.Test.YtandllekeimpgaaGreatRf4
import Derived.Test.YtandllekeimpgaaGreatSV0
import Derived.Test.YtandllekeimpgaaGreatLW3
import Derived.Test.YtandllekeimpgaaGreatMX1
import Derived.Test.YtandllekeimpgaaGreatExt
import Derived.Deep.DeepCutAuto
import Derived.Deep.QuietTactic
namespace Go.Proofs.YtandllekeimpgaaGreat
open Go.RowKit Fl Ieee
set_option maxRecDepth 20000
attribute [local go_sem] run_store_float run_store_complex Fl.order_self Fl.order_self' Fl.order_eq Fl.order_ne Fl.order_lt Fl.order_gt
def normStep (s : Nat) (z : C) : Nat := fadd s (pSize1 z)
def normV (l : List C) : Nat := l.foldl normStep 0
theorem normV_c (A : Option Addr) (l : List C) (c : Nat) (w : World) (hlt : ltCs l) (hmax : l.length ≤ 4611686018427387904) (hA : Reads w w.heap.size A (nums l)) :
    Calls Tryz.prog 32 #[.slice A l.length c] w (RetR (normV (l.map cnC)) w) := by
  have HA := Lib.hid hA
  have HLt := Lib.hid hlt
  clear hA hlt
  go_enter Tryz.func32, Tryz.ntmps32
  go_wp2
  go_loopw [3, 8] (fun sv i wr => ∃ k d t : Nat, k ≤ l.length ∧ i = .int .i64 (k : Nat) ∧ sv = .float .f64 t ∧ Hid (cn .f64 t = normV ((l.take k).map cnC) ∧ t < 18446744073709551616) ∧ wr = w.drewN d) (fun _ i _ => l.length - (intOf i).toNat)
  case atStart => exact ⟨0, 0, 0, Nat.zero_le _, rfl, rfl, Lib.hid ⟨by show cn .f64 0 = 0; decide, by decide⟩, rfl⟩
  case round =>
    obtain ⟨k, d, t, hk, rfl, rfl, HT, rfl⟩ := hrel
    by_cases hlt : k < l.length
    · obtain ⟨x, hx⟩ := some_of_lt (l := l) (k := k) hlt
      have hxv : (nums l)[k]? = some (.complex .f64 x.1 x.2) := by simp [nums, hx]
      obtain ⟨ad, rfl, _, hc1⟩ := HA.out.at_ hxv
      have hz := HLt.out x (List.mem_of_getElem? hx)
      have HX := Lib.hid hx
      have HSc := Lib.hid (Size1_c x.1 x.2 hz.1 hz.2)
      have hc2 : (w.drewN d).cell? (ad.add k) = some (.complex .f64 x.1 x.2) := hc1
      clear hx hxv hz hc1
      go_wp2_with fail
      refine (HSc.out _).mono ?_
      rintro e w' ⟨y, n9, rfl, hy, hyl, rfl⟩
      have HY := Lib.hid hy
      clear hy
      go_wp2_with fail
      refine upon_add _ _ _ _ ?_
      intro r1 n1 h1
      have H1 := Lib.hid (show cn .f64 r1 = normV ((l.take (k + 1)).map cnC) ∧ r1 < 18446744073709551616 from ⟨by
        have hkl := lt_of_some HX.out
        have e : l[k] = x := by have h := HX.out; rw [List.getElem?_eq_getElem hkl] at h; exact Option.some.inj h
        rw [h1.1, HY.out, HT.out.1, List.take_succ_eq_append_getElem hkl, e, List.map_append]
        unfold normV
        rw [List.foldl_append]; rfl, h1.2⟩)
      clear h1
      go_wp2
      go_roundw
      case rel => exact ⟨k + 1, d + n9 + n1, r1, hlt, by go_num, rfl, H1, by simp [Nat.add_assoc]⟩
      case measure => simp [intOf]; omega
    · have e : k = l.length := by omega
      go_wp2
      go_ret
      have h := HT.out
      rw [e, List.take_length] at h
      exact closeR h.1 h.2
theorem may_ok (A B : Option Addr) (n ca cb : Nat) (w : World) (hn : n ≤ 65536) : Calls Tryz.prog 99 #[.slice A n ca, .slice B n cb] w (RetP (.int .i64 0) w) := by
  have h1 : ¬ (n : Int) > 65536 := by omega
  go_enter Tryz.func99, Tryz.ntmps99
  go_wp2
  go_ret
  exact ⟨rfl, rfl⟩
theorem vAdd_enters (args : Array Value) (W : World) : (callFunc 61 args).run Tryz.prog W = .ok (.enter 61 args) W :=
  enters_of Tryz.func61 (by kernel_rfl) rfl args W
/-- A row that is being filled. -/
structure VaS (w0 W : World) (g n k : Nat) (la lb L : List C) : Prop where
  row : W.heap[g]? = some (.cells (nums L).toArray 60)
  len : L.length = n
  fill : ∀ j z x y, j < k → L[j]? = some z → la[j]? = some x → lb[j]? = some y → cnC z = pAdd (cnC x) (cnC y)
  lt : ltCs L
  bel : Below w0.heap.size w0 W
  gw : w0.heap.size ≤ g
theorem VaS.drewN {w0 W : World} {g n k : Nat} {la lb L : List C} (h : VaS w0 W g n k la lb L) (d : Nat) : VaS w0 (W.drewN d) g n k la lb L := ⟨h.row, h.len, h.fill, h.lt, below_drewN h.bel d, h.gw⟩
theorem VaS.set {w0 W : World} {g n k : Nat} {la lb L : List C} {z x y : C} (h : VaS w0 W g n k la lb L) (hk : k < n) (hx : la[k]? = some x) (hy : lb[k]? = some y) (hz : cnC z = pAdd (cnC x) (cnC y)) (hl : ltC z) :
    VaS w0 (W.setCell ⟨g, k, none⟩ (.complex .f64 z.1 z.2)) g n (k + 1) la lb (L.set k z) where
  row := by
    rw [heap_setCell_same W g k _ _ _ h.row]
    congr 2
    simp [nums, List.map_set]
  len := by rw [List.length_set]; exact h.len
  fill := fun j z' x' y' hj hz' hx' hy' => by
    by_cases e : j = k
    · subst e
      have h1 : z' = z := by rw [List.getElem?_set_self (by rw [h.len]; exact hk)] at hz'; exact (Option.some.inj hz').symm
      have h2 : x' = x := Option.some.inj (hx'.symm.trans hx)
      have h3 : y' = y := Option.some.inj (hy'.symm.trans hy)
      rw [h1, h2, h3]; exact hz
    · rw [List.getElem?_set_ne (Ne.symm e)] at hz'
      exact h.fill j z' x' y' (by omega) hz' hx' hy'
  lt := fun z' hz' => by
    rcases List.mem_or_eq_of_mem_set hz' with h1 | h1
    · exact h.lt z' h1
    · rw [h1]; exact hl
  bel := h.bel.setCell h.gw _
  gw := h.gw
def vaddL (la lb : List C) : List C := List.zipWith (fun x y => pAdd (cnC x) (cnC y)) la lb
def RetVa (l : List C) (w : World) (e : Ending) (w' : World) : Prop := ∃ s zs, e = .returned (.tuple #[s, .int .i64 0]) ∧ zs.map cnC = l ∧ ltCs zs ∧ w'.ownsRow w.heap.size 60 1 s l.length (nums zs) ∧ Below w.heap.size w w'
theorem vboth_c (A B : Option Addr) (la lb : List C) (ca cb n : Nat) (w : World) (hn : n ≤ 64) (hla : la.length = n) (hlb : lb.length = n) (hA : Reads w w.heap.size A (nums la)) (hB : Reads w w.heap.size B (nums lb)) :
    Calls Tryz.prog 60 #[.slice A n ca, .slice B n cb, .func (.func 61) #[] #[]] w (RetVa (vaddL la lb) w) := by
  have HA := Lib.hid hA
  have HBb := Lib.hid hB
  have HLa := Lib.hid hla
  have HLb := Lib.hid hlb
  have HM := Lib.hid (may_ok A B n ca cb w (by omega))
  have hmk := run_make_row' (P := Tryz.prog) 25 60 (.complex .f64 0 0) 16 Tryz.underlying25 infoNum rfl .i64 .i64 n (by omega) (by omega)
  have hen := vAdd_enters
  have hnew : (w.alloc (.cells (madeCells #[.complex .f64 0 0] n) 60)).heap[w.heap.size]? = some (.cells (nums (List.replicate n (0, 0))).toArray 60) := by rw [mk_nums]; exact heap_alloc_new _ _
  have HS := Lib.hid (show VaS w (w.alloc (.cells (madeCells #[.complex .f64 0 0] n) 60)) w.heap.size n 0 la lb (List.replicate n (0, 0)) from
    ⟨hnew, by simp, fun j _ _ _ hj => by omega, fun z hz => by rw [List.eq_of_mem_replicate hz]; exact ⟨by decide, by decide⟩, below_new _ _, Nat.le_refl _⟩)
  clear hA hB hla hlb hnew
  go_enter Tryz.func60, Tryz.ntmps60
  go_wp2_with fail
  refine HM.out.mono ?_
  rintro e W1 ⟨rfl, rfl⟩
  go_wp2
  go_loopw [23] (fun kv wr => ∃ (k : Nat) (L : List C), k ≤ n ∧ kv = .int .i64 (k : Nat) ∧ Hid (VaS w wr w.heap.size n k la lb L)) (fun kv _ => n - (intOf kv).toNat)
  case atStart => exact ⟨0, _, Nat.zero_le _, rfl, HS⟩
  case round =>
    obtain ⟨k, L, hk, rfl, HK⟩ := hrel
    clear HS hmk
    rename World => wr
    by_cases hkn : k < n
    · have hkn' : (k : Int) < n := by omega
      obtain ⟨x, hx⟩ := some_of_lt (l := la) (k := k) (by rw [HLa.out]; exact hkn)
      obtain ⟨y, hy⟩ := some_of_lt (l := lb) (k := k) (by rw [HLb.out]; exact hkn)
      have hxv : (nums la)[k]? = some (.complex .f64 x.1 x.2) := by simp [nums, hx]
      have hyv : (nums lb)[k]? = some (.complex .f64 y.1 y.2) := by simp [nums, hy]
      obtain ⟨aa, rfl, _, hc1⟩ := (HA.out.below HK.out.bel).at_ hxv
      obtain ⟨ab, rfl, _, hc2⟩ := (HBb.out.below HK.out.bel).at_ hyv
      have HX := Lib.hid (And.intro hx hy)
      have HAd := Lib.hid (Add_c x.1 x.2 y.1 y.2 wr)
      obtain ⟨u, hu⟩ := some_of_lt (l := L) (k := k) (by rw [HK.out.len]; exact hkn)
      have huv : (nums L).toArray[k]? = some (.complex .f64 u.1 u.2) := by simp [nums, hu]
      clear hx hy hxv hyv hk hu
      go_wp2_with fail
      refine HAd.out.mono ?_
      rintro e W2' ⟨z1, z2, n9, rfl, hz, hz1, hz2, W2e⟩
      obtain ⟨z, rfl, rfl⟩ : ∃ z : C, z1 = z.1 ∧ z2 = z.2 := ⟨(z1, z2), rfl, rfl⟩
      have hzl : ltC z := ⟨hz1, hz2⟩
      obtain ⟨W2, hW2⟩ : ∃ V, V = W2' := ⟨_, rfl⟩
      have HK2 := Lib.hid (show VaS w W2 w.heap.size n k la lb L by rw [hW2, W2e]; exact HK.out.drewN n9)
      rw [← hW2]
      have HZ := Lib.hid (And.intro hz hzl)
      have c3 : W2.cell? ⟨w.heap.size, k, none⟩ = some (.complex .f64 u.1 u.2) := by rw [cell_of_row W2 _ k _ _ _ HK2.out.row]; exact huv
      have c4 : W2.frozen? ⟨w.heap.size, k, none⟩ = false := frozen_of_row W2 _ k _ _ HK2.out.row
      clear hz hzl hz1 hz2 W2e hW2 HK HAd huv hc1 hc2
      go_wp2
      go_roundw
      case rel => exact ⟨k + 1, L.set k z, hkn, by go_num, Lib.hid (HK2.out.set hkn HX.out.1 HX.out.2 HZ.out.1 HZ.out.2)⟩
      case measure => simp [intOf]; omega
    · have hkn' : ¬ (k : Int) < n := by omega
      have e : k = n := by omega
      subst e
      clear hk
      go_wp2
      go_ret2
      have hL := HK.out
      refine ⟨_, L, rfl, ?_, hL.lt, ?_, hL.bel⟩
      · apply List.ext_getElem?
        intro j
        rw [List.getElem?_map]
        unfold vaddL
        rw [List.getElem?_zipWith]
        by_cases hj : j < k
        · obtain ⟨z, hz⟩ := some_of_lt (l := L) (k := j) (by rw [hL.len]; exact hj)
          obtain ⟨x, hx⟩ := some_of_lt (l := la) (k := j) (by rw [HLa.out]; exact hj)
          obtain ⟨y, hy⟩ := some_of_lt (l := lb) (k := j) (by rw [HLb.out]; exact hj)
          rw [hz, hx, hy]
          show some (cnC z) = some (pAdd (cnC x) (cnC y))
          rw [hL.fill j z x y hj hz hx hy]
        · rw [List.getElem?_eq_none (by rw [hL.len]; omega), List.getElem?_eq_none (show la.length ≤ j by rw [HLa.out]; omega)]
          rfl
      · have hl : (vaddL la lb).length = k := by unfold vaddL; rw [List.length_zipWith, HLa.out, HLb.out]; omega
        rw [hl]
        have h1 := hL.len
        exact ⟨by simp [nums]; exact h1, .inr ⟨_, k, (nums L).toArray, rfl, Nat.le_refl _, hL.row, Nat.le_refl _, by unfold maxLen; omega, by simp [nums]; exact h1, by simp [nums]; exact List.take_of_length_le (by simp [h1])⟩⟩
theorem vAdd_c (A B : Option Addr) (la lb : List C) (ca cb n : Nat) (w : World) (hn : n ≤ 64) (hla : la.length = n) (hlb : lb.length = n) (hA : Reads w w.heap.size A (nums la)) (hB : Reads w w.heap.size B (nums lb)) :
    Calls Tryz.prog 30 #[.slice A n ca, .slice B n cb] w (RetVa (vaddL la lb) w) := by
  have HB := Lib.hid (vboth_c A B la lb ca cb n w hn hla hlb hA hB)
  clear hA hB hla hlb
  go_enter Tryz.func30, Tryz.ntmps30
  go_wp2_with fail
  refine HB.out.mono ?_
  rintro e W1 ⟨s, zs, rfl, hz, hl, hown, hb⟩
  have H := Lib.hid (And.intro hz (And.intro hl (And.intro hown hb)))
  clear hz hl hown hb
  go_wp2
  go_ret2
  exact ⟨_, zs, rfl, H.out.1, H.out.2.1, H.out.2.2.1, H.out.2.2.2⟩
end Go.Proofs.YtandllekeimpgaaGreat
