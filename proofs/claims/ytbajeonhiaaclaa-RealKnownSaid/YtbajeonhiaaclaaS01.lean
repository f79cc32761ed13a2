/- Layer 1: sums and their errors. -/
import Derived.Test.YtbajeonhiaaclaaMem
import Derived.Test.YtbajeonhiaaclaaR01N
namespace Go.Proofs.Ytbajeonhiaaclaa
open Go.RowKit Fl Ieee
set_option maxRecDepth 20000
/-- A sum and its error, up to NaN. -/
def twoSum (a b : Nat) : Nat × Nat :=
  let s := fadd a b
  let t := fsub s a
  let u := fsub s t
  let v := fsub a u
  let w := fsub b t
  (s, fadd v w)
def sumStep (st : Nat × List Nat) (x : Nat) : Nat × List Nat := ((twoSum st.1 x).1, st.2 ++ [(twoSum st.1 x).2])
def sumErr (l : List Nat) : Nat × List Nat := l.foldl sumStep (0, [])
theorem sumErr_take {l : List Nat} {k x : Nat} (h : l[k]? = some x) :
    sumErr ((l.take (k + 1)).map (cn .f64)) = sumStep (sumErr ((l.take k).map (cn .f64))) (cn .f64 x) := by
  have hk : k < l.length := by
    rcases Nat.lt_or_ge k l.length with h1 | h1
    · exact h1
    · rw [List.getElem?_eq_none h1] at h; cases h
  have e : l[k] = x := by rw [List.getElem?_eq_getElem hk] at h; exact Option.some.inj h
  rw [List.take_succ_eq_append_getElem hk, e, List.map_append]
  unfold sumErr
  rw [List.foldl_append]; rfl
/-- Two reals that are v up to NaN are handed back. -/
def RetRR (v : Nat × Nat) (w : World) (e : Ending) (w' : World) : Prop :=
  ∃ x y n, e = .returned (.tuple #[.float .f64 x, .float .f64 y]) ∧ (cn .f64 x, cn .f64 y) = v ∧ x < 18446744073709551616 ∧ y < 18446744073709551616 ∧ w' = w.drewN n
theorem closeRR {v : Nat × Nat} {x y n : Nat} {w : World} (h1 : cn .f64 x = v.1) (h2 : cn .f64 y = v.2) (hx : x < 18446744073709551616) (hy : y < 18446744073709551616) :
    RetRR v w (.returned (.tuple #[.float .f64 x, .float .f64 y])) (w.drewN n) := ⟨x, y, n, rfl, by rw [h1, h2], hx, hy, rfl⟩
theorem TwoSum_c (a b : Nat) (w : World) :
    Calls Try.prog 33 #[.float .f64 a, .float .f64 b] w (RetRR (twoSum (cn .f64 a) (cn .f64 b)) w) := by
  go_enter Try.func33, Try.ntmps33
  go_wp2_with fail
  refine upon_add _ _ _ _ ?_
  intro r1 n1 h1
  go_wp2_with fail
  refine upon_sub _ _ _ _ ?_
  intro r2 n2 h2
  go_wp2_with fail
  refine upon_sub _ _ _ _ ?_
  intro r3 n3 h3
  go_wp2_with fail
  refine upon_sub _ _ _ _ ?_
  intro r4 n4 h4
  go_wp2_with fail
  refine upon_sub _ _ _ _ ?_
  intro r5 n5 h5
  go_wp2_with fail
  refine upon_add _ _ _ _ ?_
  intro r6 n6 h6
  go_wp2
  go_ret2; exact closeRR h1.1 (by rw [h6.1, h5.1, h4.1, h3.1, h2.1, h1.1]; rfl) h1.2 h6.2
theorem RTwoSum_c (a b : Nat) (w : World) :
    Calls Try.prog 42 #[.float .f64 a, .float .f64 b] w (RetRR (twoSum (cn .f64 a) (cn .f64 b)) w) := by
  go_enter Try.func42, Try.ntmps42
  go_wp2_with fail
  refine upon_add _ _ _ _ ?_
  intro r1 n1 h1
  go_wp2_with fail
  refine upon_sub _ _ _ _ ?_
  intro r2 n2 h2
  go_wp2_with fail
  refine upon_sub _ _ _ _ ?_
  intro r3 n3 h3
  go_wp2_with fail
  refine upon_sub _ _ _ _ ?_
  intro r4 n4 h4
  go_wp2_with fail
  refine upon_sub _ _ _ _ ?_
  intro r5 n5 h5
  go_wp2_with fail
  refine upon_add _ _ _ _ ?_
  intro r6 n6 h6
  go_wp2
  go_ret2; exact closeRR h1.1 (by rw [h6.1, h5.1, h4.1, h3.1, h2.1, h1.1]; rfl) h1.2 h6.2
theorem infoReal : (Try.prog.info? 29).map (fun i => (i.zero, i.size, i.bytes)) = some (some (.float .f64 0), 1, 8) := by kernel_rfl
def SumErrP (l : List Nat) (w : World) (e : Ending) (w' : World) : Prop :=
  ∃ s v errs, e = .returned (.tuple #[.float .f64 s, v]) ∧ (cn .f64 s, errs.map (cn .f64)) = sumErr (l.map (cn .f64)) ∧ s < 18446744073709551616 ∧ words errs ∧ errs.length = l.length ∧
    w'.ownsRow w.heap.size 29 1 v errs.length (reals errs) ∧ Below w.heap.size w w'
/-- What stands at the head of the loop, k numbers having been taken. -/
def SumErrR (l : List Nat) (w : World) (s v i : Value) (wr : World) : Prop :=
  ∃ k t errs, k ≤ l.length ∧ i = .int .i64 (k : Nat) ∧ s = .float .f64 t ∧ (cn .f64 t, errs.map (cn .f64)) = sumErr ((l.take k).map (cn .f64)) ∧ t < 18446744073709551616 ∧ words errs ∧ errs.length = k ∧
    wr.ownsRow w.heap.size 29 1 v k (reals errs) ∧ Below w.heap.size w wr
set_option maxHeartbeats 1000000 in
theorem SumErr_c (A : Option Addr) (l : List Nat) (c : Nat) (w : World) (hw : words l) (hl : l.length * 8 ≤ 140737488355328) (hr : Reads w w.heap.size A (reals l)) :
    Calls Try.prog 39 #[.slice A l.length c] w (SumErrP l w) := by
  obtain ⟨i0, hi, hz0, hz1, hz2⟩ := info_parts infoReal
  have HR := Lib.hid hr
  have HW := Lib.hid hw
  clear hr hw
  go_enter Try.func39, Try.ntmps39
  go_wp2
  go_loopw [4, 5, 11] (fun s v i wr => SumErrR l w s v i wr) (fun _ _ i _ => l.length - (intOf i).toNat)
  case atStart => exact ⟨0, 0, [], Nat.zero_le _, rfl, rfl, rfl, by decide, fun x hx => by simp at hx, rfl, World.ownsRow_nil _ _ _ _, Below.refl _ _⟩
  case round =>
    obtain ⟨k, t, errs, hk, rfl, rfl, hv, ht, hwe, he, hown, hb⟩ := hrel
    have HV := Lib.hid hv
    have HWE := Lib.hid hwe
    have HE := Lib.hid he
    have HB := Lib.hid hb
    clear hv hwe he hb
    by_cases hlt : k < l.length
    · obtain ⟨x, hx⟩ : ∃ x, l[k]? = some x := ⟨l[k], List.getElem?_eq_getElem hlt⟩
      have hx64 : x < 18446744073709551616 := HW.out x (List.mem_of_getElem? hx)
      have hv1 : (reals l)[k]? = some (.float .f64 x) := by simp [reals, hx]
      obtain ⟨ad, rfl, hab, hcell⟩ := (HR.out.below HB.out).at_ hv1
      have HX := Lib.hid hx
      clear hx hv1
      go_wp2_with (fail)
      refine (TwoSum_c _ _ _).mono ?_
      rintro e w' ⟨p, q, n, rfl, g, bp, bq, rfl⟩
      have G := Lib.hid g
      clear g
      have hsz := HB.out.size
      go_wp2_with (at_builtin; refine wpList_append_own _ rfl (.tmp 21) (.tmp 23) 23 rfl w.heap.size 29 i0 (.float .f64 0) 1 8 Try.underlying23 hi hz0 hz1 hz2 rfl (by decide) _ _ _ rfl ((own_drewN hown n).alloc _) ⟨wr.heap.size, 0, none⟩ 1 1 [.float .f64 q] rfl rfl (cell_one_new _ _ _) (by intro u hu; simp at hu; subst hu; rfl) (by unfold maxLen; omega) (by omega) (by simp; omega) ?_; intro v' w1 hown1 hgrow1 hnil1)
      clear hnil1
      have H2 : Hid ((cn .f64 p, (errs ++ [q]).map (cn .f64)) = sumErr ((l.take (k + 1)).map (cn .f64))) := by
        show _ = _
        rw [sumErr_take HX.out, ← HV.out]
        have g := G.out
        unfold sumStep
        rw [← g]; simp
      have H3 : words (errs ++ [q]) := by
        intro y hy
        rcases List.mem_append.1 hy with h | h
        · exact HWE.out y h
        · simp at h; subst h; exact bq
      have H4 : Below w.heap.size w w1 := ((below_drewN HB.out n).alloc (by simpa using hsz) _).grown hgrow1 (by simp; omega) (fun j hj => (hown.lt j hj).1)
      have H5 : w1.ownsRow w.heap.size 29 1 v' (k + 1) (reals (errs ++ [q])) := by
        have e : reals (errs ++ [q]) = reals errs ++ [.float .f64 q] := by simp [reals]
        rw [e]; exact hown1
      clear hown1 hgrow1
      go_wp2
      go_roundw
      case rel => exact ⟨k + 1, p, errs ++ [q], by omega, by go_num, rfl, H2.out, bp, H3, by simp [HE.out], H5, H4⟩
      case measure => simp [intOf]; omega
    · have e : k = l.length := by omega
      go_wp2
      go_ret2
      have h1 := HV.out
      rw [e, List.take_length] at h1
      exact ⟨t, _, errs, rfl, h1, ht, HWE.out, HE.out.trans e, by rw [HE.out]; exact hown, HB.out⟩
end Go.Proofs.Ytbajeonhiaaclaa
