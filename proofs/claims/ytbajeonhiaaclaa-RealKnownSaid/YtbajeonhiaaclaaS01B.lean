/- Layer 1: sums, the greatest, lists that are the same. -/
import Derived.Test.YtbajeonhiaaclaaS01
namespace Go.Proofs.Ytbajeonhiaaclaa
open Go.RowKit Fl Ieee
set_option maxRecDepth 20000
attribute [local go_sem] Fl.order_self Fl.order_self' Fl.order_eq Fl.order_ne Fl.order_lt Fl.order_gt Fl.fle_fold Fl.fge_fold
theorem quiet_add_left {P : Program} {f : FuncId} {args : Array Value} {w : World} {a n : Nat} {v : Value}
    (h : Calls P f args (w.drewN (a + n)) fun e w' => e = .returned v ∧ w.drewN (a + n) = w') :
    Calls P f args (w.drewN (a + n)) fun e w'' => e = .returned v ∧ ∃ m, w'' = w.drewN (a + m) :=
  h.mono fun _ _ ⟨he, hm⟩ => ⟨he, n, hm.symm⟩
theorem lt_of_some {α : Type} {l : List α} {k : Nat} {x : α} (h : l[k]? = some x) : k < l.length := by
  rcases Nat.lt_or_ge k l.length with h1 | h1
  · exact h1
  · rw [List.getElem?_eq_none h1] at h; cases h
theorem some_of_lt {α : Type} {l : List α} {k : Nat} (h : k < l.length) : ∃ x, l[k]? = some x := ⟨l[k], List.getElem?_eq_getElem h⟩
def SameR (l : List Nat) (w : World) (i : Value) (wr : World) : Prop := ∃ k m : Nat, k ≤ l.length ∧ i = .int .i64 (k : Nat) ∧ wr = w.drewN m
set_option maxHeartbeats 1000000 in
theorem SameReals_t (A B : Option Addr) (l m : List Nat) (n c c' : Nat) (w : World) (hn : l.length = n) (hm : m.length = n) (h : l.map (cn .f64) = m.map (cn .f64)) (hmax : n ≤ 4611686018427387904)
    (hA : Reads w w.heap.size A (reals l)) (hB : Reads w w.heap.size B (reals m)) :
    Calls Try.prog 17 #[.slice A n c, .slice B n c'] w (RetB true w) := by
  have HA := Lib.hid hA
  have HB := Lib.hid hB
  have HH := Lib.hid h
  have HN := Lib.hid hn
  have HM := Lib.hid hm
  clear hA hB h hn hm
  go_enter Try.func17, Try.ntmps17
  go_wp2
  go_loopw [5] (fun i wr => SameR l w i wr) (fun i _ => n - (intOf i).toNat)
  case atStart => exact ⟨0, 0, Nat.zero_le _, rfl, rfl⟩
  case round =>
    obtain ⟨k, d, hk, rfl, rfl⟩ := hrel
    have hkn : k ≤ n := by rw [← HN.out]; exact hk
    clear hk
    by_cases hlt : k < n
    · obtain ⟨x, hx⟩ := some_of_lt (l := l) (k := k) (by rw [HN.out]; exact hlt)
      obtain ⟨y, hy⟩ := some_of_lt (l := m) (k := k) (by rw [HM.out]; exact hlt)
      have e : cn .f64 x = cn .f64 y := by
        have h1 := congrArg (fun t : List Nat => t[k]?) HH.out
        simp [hx, hy] at h1; exact h1
      have hxv : (reals l)[k]? = some (.float .f64 x) := by simp [reals, hx]
      have hyv : (reals m)[k]? = some (.float .f64 y) := by simp [reals, hy]
      obtain ⟨ad, rfl, _, hc1⟩ := HA.out.at_ hxv
      obtain ⟨bd, rfl, _, hc2⟩ := HB.out.at_ hyv
      have E : Hid (decide (cn .f64 x = cn .f64 y) = true) := decide_eq_true e
      have S : ∀ W : World, Calls Try.prog 52 #[.float .f64 x, .float .f64 y] W fun e w' => e = .returned (.bool true) ∧ W = w' := by
        intro W; have := kSameReal_c x y W; rw [E.out] at this; exact this
      have HS := Lib.hid S
      clear S e hx hy hxv hyv
      go_wp2
      go_quiet ((go_at_call 52; exact quiet_add_left (HS.out _)))
      go_wp2
      go_roundw
      case rel => exact ⟨k + 1, _, by rw [HN.out]; omega, by go_num, rfl⟩
      case measure => simp [intOf]; omega
    · go_wp2
      go_ret
      exact closeB rfl
set_option maxHeartbeats 1000000 in
theorem RSumErr_c (A : Option Addr) (l : List Nat) (c : Nat) (w : World) (hw : words l) (hl : l.length * 8 ≤ 140737488355328) (hr : Reads w w.heap.size A (reals l)) :
    Calls Try.prog 14 #[.slice A l.length c] w (SumErrP l w) := by
  obtain ⟨i0, hi, hz0, hz1, hz2⟩ := info_parts infoReal
  have HR := Lib.hid hr
  have HW := Lib.hid hw
  clear hr hw
  go_enter Try.func14, Try.ntmps14
  go_wp2
  go_loopw [4, 5, 6] (fun s v i wr => SumErrR l w s v i wr) (fun _ _ i _ => l.length - (intOf i).toNat)
  case atStart => exact ⟨0, 0, [], Nat.zero_le _, rfl, rfl, rfl, by decide, fun x hx => by simp at hx, rfl, World.ownsRow_nil _ _ _ _, Below.refl _ _⟩
  case round =>
    obtain ⟨k, t, errs, hk, rfl, rfl, hv, ht, hwe, he, hown, hb⟩ := hrel
    have HV := Lib.hid hv
    have HWE := Lib.hid hwe
    have HE := Lib.hid he
    have HB := Lib.hid hb
    clear hv hwe he hb
    by_cases hlt : k < l.length
    · obtain ⟨x, hx⟩ : ∃ x, l[k]? = some x := ⟨l[k], List.getElem?_eq_getElem hlt⟩
      have hv1 : (reals l)[k]? = some (.float .f64 x) := by simp [reals, hx]
      obtain ⟨ad, rfl, hab, hcell⟩ := (HR.out.below HB.out).at_ hv1
      have HX := Lib.hid hx
      clear hx hv1
      go_wp2_with (fail)
      refine (RTwoSum_c _ _ _).mono ?_
      rintro e w' ⟨p, q, n, rfl, g, bp, bq, rfl⟩
      have G := Lib.hid g
      clear g
      have hsz := HB.out.size
      go_wp2_with (at_builtin; refine wpList_append_own _ rfl (.tmp 25) (.tmp 27) 23 rfl w.heap.size 29 i0 (.float .f64 0) 1 8 Try.underlying23 hi hz0 hz1 hz2 rfl (by decide) _ _ _ rfl ((own_drewN hown n).alloc _) ⟨wr.heap.size, 0, none⟩ 1 1 [.float .f64 q] rfl rfl (cell_one_new _ _ _) (by intro u hu; simp at hu; subst hu; rfl) (by unfold maxLen; omega) (by omega) (by simp; omega) ?_; intro v' w1 hown1 hgrow1 hnil1)
      clear hnil1
      have H2 : Hid ((cn .f64 p, (errs ++ [q]).map (cn .f64)) = sumErr ((l.take (k + 1)).map (cn .f64))) := by
        show _ = _
        rw [sumErr_take HX.out, ← HV.out]
        have g := G.out
        unfold sumStep
        rw [← g]; simp
      have H3 : words (errs ++ [q]) := by
        intro y hy
        rcases List.mem_append.1 hy with h | h
        · exact HWE.out y h
        · simp at h; subst h; exact bq
      have H4 : Below w.heap.size w w1 := ((below_drewN HB.out n).alloc (by simpa using hsz) _).grown hgrow1 (by simp; omega) (fun j hj => (hown.lt j hj).1)
      have H5 : w1.ownsRow w.heap.size 29 1 v' (k + 1) (reals (errs ++ [q])) := by
        have e : reals (errs ++ [q]) = reals errs ++ [.float .f64 q] := by simp [reals]
        rw [e]; exact hown1
      clear hown1 hgrow1
      go_wp2
      go_roundw
      case rel => exact ⟨k + 1, p, errs ++ [q], by omega, by go_num, rfl, H2.out, bp, H3, by simp [HE.out], H5, H4⟩
      case measure => simp [intOf]; omega
    · have e : k = l.length := by omega
      go_wp2
      go_ret2
      have h1 := HV.out
      rw [e, List.take_length] at h1
      exact ⟨t, _, errs, rfl, h1, ht, HWE.out, HE.out.trans e, by rw [HE.out]; exact hown, HB.out⟩
/-- A list's sum from the left, up to NaN. -/
def sumL (l : List Nat) : Nat := l.foldl fadd 0
theorem sumL_take {l : List Nat} {k x : Nat} (h : l[k]? = some x) : sumL ((l.take (k + 1)).map (cn .f64)) = fadd (sumL ((l.take k).map (cn .f64))) (cn .f64 x) := by
  have hk := lt_of_some h
  have e : l[k] = x := by rw [List.getElem?_eq_getElem hk] at h; exact Option.some.inj h
  rw [List.take_succ_eq_append_getElem hk, e, List.map_append]
  unfold sumL
  rw [List.foldl_append]; rfl
def SumR (l : List Nat) (w : World) (s i : Value) (wr : World) : Prop :=
  ∃ k t m, k ≤ l.length ∧ i = .int .i64 (k : Nat) ∧ s = .float .f64 t ∧ cn .f64 t = sumL ((l.take k).map (cn .f64)) ∧ t < 18446744073709551616 ∧ wr = w.drewN m
set_option maxHeartbeats 1000000 in
theorem Sum_c (A : Option Addr) (l : List Nat) (c : Nat) (w : World) (hl : l.length * 8 ≤ 140737488355328) (hr : Reads w w.heap.size A (reals l)) :
    Calls Try.prog 41 #[.slice A l.length c] w (RetR (sumL (l.map (cn .f64))) w) := by
  have HR := Lib.hid hr
  clear hr
  go_enter Try.func41, Try.ntmps41
  go_wp2
  go_loopw [3, 8] (fun s i wr => SumR l w s i wr) (fun _ i _ => l.length - (intOf i).toNat)
  case atStart => exact ⟨0, 0, 0, Nat.zero_le _, rfl, rfl, rfl, by decide, rfl⟩
  case round =>
    obtain ⟨k, t, m, hk, rfl, rfl, hv, ht, rfl⟩ := hrel
    have HV := Lib.hid hv
    clear hv
    by_cases hlt : k < l.length
    · obtain ⟨x, hx⟩ := some_of_lt hlt
      have hv1 : (reals l)[k]? = some (.float .f64 x) := by simp [reals, hx]
      obtain ⟨ad, rfl, hab, hcell⟩ := HR.out.at_ hv1
      have HX := Lib.hid hx
      clear hx hv1
      go_wp2_with fail
      refine upon_add _ _ _ _ ?_
      intro r1 n1 h1
      have H1 := Lib.hid h1.1
      have b1 := h1.2
      clear h1
      have H2 : Hid (cn .f64 r1 = sumL ((l.take (k + 1)).map (cn .f64))) := by
        show _ = _
        rw [sumL_take HX.out, H1.out, HV.out]
      go_wp2
      go_roundw
      case rel => exact ⟨k + 1, r1, _, by omega, by go_num, rfl, H2.out, b1, rfl⟩
      case measure => simp [intOf]; omega
    · have e : k = l.length := by omega
      go_wp2
      go_ret
      have h1 := HV.out
      rw [e, List.take_length] at h1
      exact closeR h1 ht
set_option maxHeartbeats 1000000 in
theorem RSum_c (A : Option Addr) (l : List Nat) (c : Nat) (w : World) (hl : l.length * 8 ≤ 140737488355328) (hr : Reads w w.heap.size A (reals l)) :
    Calls Try.prog 51 #[.slice A l.length c] w (RetR (sumL (l.map (cn .f64))) w) := by
  have HR := Lib.hid hr
  clear hr
  go_enter Try.func51, Try.ntmps51
  go_wp2
  go_loopw [3, 4] (fun s i wr => SumR l w s i wr) (fun _ i _ => l.length - (intOf i).toNat)
  case atStart => exact ⟨0, 0, 0, Nat.zero_le _, rfl, rfl, rfl, by decide, rfl⟩
  case round =>
    obtain ⟨k, t, m, hk, rfl, rfl, hv, ht, rfl⟩ := hrel
    have HV := Lib.hid hv
    clear hv
    by_cases hlt : k < l.length
    · obtain ⟨x, hx⟩ := some_of_lt hlt
      have hv1 : (reals l)[k]? = some (.float .f64 x) := by simp [reals, hx]
      obtain ⟨ad, rfl, hab, hcell⟩ := HR.out.at_ hv1
      have HX := Lib.hid hx
      clear hx hv1
      go_wp2_with fail
      refine upon_add _ _ _ _ ?_
      intro r1 n1 h1
      have H1 := Lib.hid h1.1
      have b1 := h1.2
      clear h1
      have H2 : Hid (cn .f64 r1 = sumL ((l.take (k + 1)).map (cn .f64))) := by
        show _ = _
        rw [sumL_take HX.out, H1.out, HV.out]
      go_wp2
      go_roundw
      case rel => exact ⟨k + 1, r1, _, by omega, by go_num, rfl, H2.out, b1, rfl⟩
      case measure => simp [intOf]; omega
    · have e : k = l.length := by omega
      go_wp2
      go_ret
      have h1 := HV.out
      rw [e, List.take_length] at h1
      exact closeR h1 ht
end Go.Proofs.Ytbajeonhiaaclaa
