/- Layer 11: what a solution leaves over: contract. -/
import Derived.Test.YtandllekeimpgaaRf1
import Derived.Test.YtandllekeimpgaaMX1
import Derived.Test.YtandllekeimpgaaS02
import Derived.Test.YtandllekeimpgaaExt
import Derived.Deep.DeepCutAuto
import Derived.Deep.AppendLies
import Derived.Deep.OwnRows
import Derived.Great.Walk
namespace Go.Proofs.Ytandllekeimpgaa
open Go.RowKit Fl Ieee
set_option maxRecDepth 20000
attribute [local go_sem] run_store_float run_store_complex Fl.order_self Fl.order_self' Fl.order_eq Fl.order_ne Fl.order_lt Fl.order_gt
theorem pFinR_cn (z : C) : pFinite (cn .f64 z.1, cn .f64 z.2) = pFinite z := by
  unfold pFinite
  exact congr (congrArg and (isFin_cn .f64 z.1)) (isFin_cn .f64 z.2)
theorem finite11_c (A : Option Addr) (l : List C) (c : Nat) (w : World) (hlt : ltCs l) (hmax : l.length ≤ 4611686018427387904) (hA : Reads w w.heap.size A (nums l)) :
    Calls Try.prog 34 #[.slice A l.length c] w (RetB (l.all pFinite) w) := by
  have HA := Lib.hid hA
  have HLt := Lib.hid hlt
  clear hA hlt
  go_enter Try.func34, Try.ntmps34
  go_wp2
  go_loopw [7] (fun i wr => ∃ k d : Nat, k ≤ l.length ∧ i = .int .i64 (k : Nat) ∧ (∀ j z, j < k → l[j]? = some z → pFinite z = true) ∧ wr = w.drewN d) (fun i _ => l.length - (intOf i).toNat)
  case atStart => exact ⟨0, 0, Nat.zero_le _, rfl, fun j z hj => absurd hj (Nat.not_lt_zero _), rfl⟩
  case round =>
    obtain ⟨k, d, hk, rfl, hall, rfl⟩ := hrel
    have HAll := Lib.hid hall
    clear hall
    by_cases hlt : k < l.length
    · obtain ⟨x, hx⟩ := some_of_lt (l := l) (k := k) hlt
      have hxv : (nums l)[k]? = some (.complex .f64 x.1 x.2) := by simp [nums, hx]
      obtain ⟨ad, rfl, _, hc1⟩ := HA.out.at_ hxv
      have hz := HLt.out x (List.mem_of_getElem? hx)
      have HX := Lib.hid hx
      have HFc := Lib.hid (Finite_c x.1 x.2 hz.1 hz.2)
      rw [pFinR_cn] at HFc
      obtain ⟨fx, hfx⟩ : ∃ fx, fx = pFinite x := ⟨_, rfl⟩
      rw [← hfx] at HFc
      have HFx := Lib.hid hfx
      have hc2 : (w.drewN d).cell? (ad.add k) = some (.complex .f64 x.1 x.2) := hc1
      clear hx hxv hz hfx hc1
      go_wp2_with fail
      refine (HFc.out _).mono ?_
      rintro e w' ⟨n1, rfl, rfl⟩
      cases fx
      · go_wp2
        go_ret
        refine ⟨d + n1, ?_, by simp⟩
        have : l.all pFinite = false := by
          rw [Bool.eq_false_iff]; intro h1
          have h2 := List.all_eq_true.1 h1 x (List.mem_of_getElem? HX.out)
          rw [← HFx.out] at h2; cases h2
        rw [this]; rfl
      · go_wp2
        go_roundw
        case rel => exact ⟨k + 1, d + n1, hlt, by go_num, fun j z hj hz => by
          rcases Nat.lt_or_ge j k with h | h
          · exact HAll.out j z h hz
          · have e : j = k := by omega
            subst e
            have h3 := HX.out.symm.trans hz
            injection h3 with h3
            rw [← h3, ← HFx.out], by simp⟩
        case measure => simp [intOf]; omega
    · have e : k = l.length := by omega
      go_wp2
      go_ret
      refine ⟨d, ?_, rfl⟩
      have : l.all pFinite = true := List.all_eq_true.2 fun z hz => by
        obtain ⟨j, hj⟩ := List.getElem?_of_mem hz
        exact HAll.out j z (by rw [e]; exact lt_of_some hj) hj
      rw [this]; rfl
theorem both11_c (z : C) (w : World) : Calls Try.prog 35 #[.complex .f64 z.1 z.2] w fun e w' => e = .returned (.tuple #[.float .f64 z.1, .float .f64 z.2]) ∧ w = w' := by
  have h1 : ∀ V, Calls Try.prog 57 #[.complex .f64 z.1 z.2] V fun e w' => e = .returned (.float .f64 z.1) ∧ V = w' := fun V => by
    go_enter Try.func57, Try.ntmps57
    go_wp2
    go_ret
    exact ⟨rfl, rfl⟩
  have h2 : ∀ V, Calls Try.prog 58 #[.complex .f64 z.1 z.2] V fun e w' => e = .returned (.float .f64 z.2) ∧ V = w' := fun V => by
    go_enter Try.func58, Try.ntmps58
    go_wp2
    go_ret
    exact ⟨rfl, rfl⟩
  have H1 := Lib.hid h1
  have H2 := Lib.hid h2
  clear h1 h2
  go_enter Try.func35, Try.ntmps35
  go_wp2_with fail
  refine (H1.out _).mono ?_
  rintro e w' ⟨rfl, rfl⟩
  go_wp2_with fail
  refine (H2.out _).mono ?_
  rintro e w' ⟨rfl, rfl⟩
  go_wp2
  go_ret2
  exact ⟨rfl, rfl⟩
/-- The tallies of a row, k columns having been taken: their terms and errors. -/
def pr (a b : Nat) : Nat := fmul a b
def er (a b : Nat) : Nat := ffma a b (fneg (fmul a b))
def colT (R X : Nat → C) (r : C) : Nat → Nat → List Nat
  | 0 => fun j => if j = 0 then [r.1] else if j = 2 then [r.2] else []
  | k + 1 => fun j => colT R X r k j ++
      (if j = 0 then [fneg (pr (R k).1 (X k).1), pr (R k).2 (X k).2]
      else if j = 1 then [fneg (er (R k).1 (X k).1), er (R k).2 (X k).2]
      else if j = 2 then [fneg (pr (R k).1 (X k).2), fneg (pr (R k).2 (X k).1)]
      else if j = 3 then [fneg (er (R k).1 (X k).2), fneg (er (R k).2 (X k).1)] else [])
def leftAt (R X : Nat → C) (r : C) (n : Nat) : C := (tsum (colT R X r n 0) (colT R X r n 1), tsum (colT R X r n 2) (colT R X r n 3))
def atL (l : List C) (i : Nat) : C := l.getD i (0, 0)
def leftL (rows cols : Nat) (m x b : List C) : List C := (List.range rows).map fun i => leftAt (fun k => atL m (i * cols + k)) (atL x) (atL b i) cols
theorem colT_len (R X : Nat → C) (r : C) (k : Nat) : ∀ j, (colT R X r k j).length ≤ 2 * k + 1 := by
  induction k with
  | zero => intro j; unfold colT; split <;> (try split) <;> simp
  | succ k ih =>
    intro j
    have := ih j
    show (colT R X r k j ++ _).length ≤ _
    rw [List.length_append]
    split <;> (try split) <;> (try split) <;> (try split) <;> simp <;> omega
def RetLf (l : List C) (er : Int) (w : World) (e : Ending) (w' : World) : Prop := ∃ s, e = .returned (.tuple #[s, .int .i64 er]) ∧ w'.ownsRow w.heap.size 45 1 s l.length (nums l) ∧ Below w.heap.size w w'
theorem own_one {W : World} {B g x : Nat} (hB : B ≤ g) (hrow : W.heap[g]? = some (.cells #[.float .f64 x] 47)) : W.ownsRow B 47 1 (.slice (some ⟨g, 0, none⟩) 1 1) 1 (reals [x]) :=
  ⟨by simp [reals], .inr ⟨_, 1, #[.float .f64 x], rfl, hB, hrow, Nat.le_refl _, by unfold maxLen; omega, by simp, by simp [reals]⟩⟩
/-- The tallies as a row begins. -/
theorem tal_start (wr : World) (x y : Nat) (hx : x < 18446744073709551616) (hy : y < 18446744073709551616) {Wa Wb Wc Wd : World} (hWa : Wa = wr.alloc (.cells #[.float .f64 x] 47)) (hWb : Wb = Wa.alloc (.cells #[.float .f64 y] 47))
    (hWc : Wc = Wb.alloc (.cells #[.slice none 0 0, .slice none 0 0, .slice none 0 0, .slice none 0 0] 83))
    (hWd : Wd = Wc.setRow Wb.heap.size #[.slice (some ⟨wr.heap.size, 0, none⟩) 1 1, .slice none 0 0, .slice (some ⟨Wa.heap.size, 0, none⟩) 1 1, .slice none 0 0]) :
    Tal Wd wr.heap.size Wb.heap.size (fun j => if j = 0 then .slice (some ⟨wr.heap.size, 0, none⟩) 1 1 else if j = 2 then .slice (some ⟨Wa.heap.size, 0, none⟩) 1 1 else .slice none 0 0) (fun j => if j = 0 then [x] else if j = 2 then [y] else []) ∧ Below wr.heap.size wr Wd := by
  have sa : Wa.heap.size = wr.heap.size + 1 := by rw [hWa]; simp
  have sb : Wb.heap.size = wr.heap.size + 2 := by rw [hWb]; simp [sa]
  have ba : Below wr.heap.size wr Wa := by rw [hWa]; exact below_new _ _
  have bb : Below Wa.heap.size Wa Wb := by rw [hWb]; exact below_new _ _
  have bc : Below Wb.heap.size Wb Wc := by rw [hWc]; exact below_new _ _
  have sc : Wc.heap.size = wr.heap.size + 3 := by rw [hWc]; simp [sb]
  have ra : Wa.heap[wr.heap.size]? = some (.cells #[.float .f64 x] 47) := by rw [hWa]; exact heap_alloc_new _ _
  have rb : Wb.heap[Wa.heap.size]? = some (.cells #[.float .f64 y] 47) := by rw [hWb]; exact heap_alloc_new _ _
  have rc : Wc.heap[Wb.heap.size]? = some (.cells #[.slice none 0 0, .slice none 0 0, .slice none 0 0, .slice none 0 0] 83) := by rw [hWc]; exact heap_alloc_new _ _
  have gd : Wc.grownBy Wd (some Wb.heap.size) := by
    rw [hWd]
    exact { os := rfl, tape := rfl, output := rfl, size := by simp [World.setRow], block := fun k _ hk => by
              show (Wc.heap.modify _ _)[k]? = _
              rw [Array.getElem?_modify, if_neg (fun e => hk (by rw [e]))] }
  have rad : Wd.heap[wr.heap.size]? = some (.cells #[.float .f64 x] 47) := by
    rw [gd.block _ (by omega) (fun e => by injection e; omega), bc.block _ (by omega), bb.block _ (by omega)]; exact ra
  have rbd : Wd.heap[Wa.heap.size]? = some (.cells #[.float .f64 y] 47) := by
    rw [gd.block _ (by omega) (fun e => by injection e; omega), bc.block _ (by omega)]; exact rb
  have rd : Wd.heap[Wb.heap.size]? = some (.cells #[.slice (some ⟨wr.heap.size, 0, none⟩) 1 1, .slice none 0 0, .slice (some ⟨Wa.heap.size, 0, none⟩) 1 1, .slice none 0 0] 83) := by
    rw [hWd]; exact setRow_heap _ _ _ _ _ _ rc
  refine ⟨⟨rd, ?_, ?_, ?_, ?_, by omega⟩, ?_⟩
  · intro i hi
    match i, hi with
    | 0, _ => exact own_one (Nat.le_refl _) rad
    | 1, _ => exact World.ownsRow_nil _ _ _ _
    | 2, _ => exact own_one (by omega) rbd
    | 3, _ => exact World.ownsRow_nil _ _ _ _
  · intro i j hi hj hij g
    match i, hi, j, hj with
    | 0, _, 0, _ => exact absurd rfl hij
    | 0, _, 2, _ => intro e1 e2; injection e1 with e1; injection e2 with e2; dsimp only at e1 e2; omega
    | 0, _, 1, _ => intro _ e2; cases e2
    | 0, _, 3, _ => intro _ e2; cases e2
    | 2, _, 0, _ => intro e1 e2; injection e1 with e1; injection e2 with e2; dsimp only at e1 e2; omega
    | 2, _, 2, _ => exact absurd rfl hij
    | 2, _, 1, _ => intro _ e2; cases e2
    | 2, _, 3, _ => intro _ e2; cases e2
    | 1, _, _, _ => intro e1; cases e1
    | 3, _, _, _ => intro e1; cases e1
  · intro i hi
    match i, hi with
    | 0, _ => intro e; injection e with e; dsimp only at e; omega
    | 1, _ => intro e; cases e
    | 2, _ => intro e; injection e with e; dsimp only at e; omega
    | 3, _ => intro e; cases e
  · intro i hi
    match i, hi with
    | 0, _ => intro z hz; rw [List.mem_singleton.1 hz]; exact hx
    | 1, _ => intro z hz; cases hz
    | 2, _ => intro z hz; rw [List.mem_singleton.1 hz]; exact hy
    | 3, _ => intro z hz; cases hz
  · have h1 : Below wr.heap.size wr Wc := (ba.trans (bb.mono (by omega))).trans (bc.mono (by omega))
    exact h1.grown gd (by omega) (fun g hg => by injection hg with hg; omega)
theorem idx11 {i c r k M cap : Nat} (hir : i < r) (hkc : k < c) (hr : r ≤ 64) (hc : c ≤ 64) (hM : M = r * c) (hcap : M ≤ cap) :
    ∃ pq pk : Nat, pk = i * c + k ∧ wrap64 ((i : Int) * (c : Int)) = (pq : Int) ∧ (pq : Int) + (k : Int) = (pk : Int) ∧ pk < M ∧ pk < cap ∧ pq ≤ 4096 ∧ pk ≤ 4096 := by
  have hmul : (i + 1) * c ≤ r * c := Nat.mul_le_mul_right _ hir
  have h64 : r * c ≤ 64 * 64 := Nat.mul_le_mul hr hc
  rw [Nat.add_mul, Nat.one_mul] at hmul
  have e : (i : Int) * (c : Int) = ((i * c : Nat) : Int) := by rw [Int.natCast_mul]
  rw [e]
  generalize i * c = pq at *
  generalize r * c = rc at *
  exact ⟨pq, pq + k, rfl, by unfold wrap64; omega, by omega, by omega, by omega, by omega, by omega⟩
theorem setL_len {L : Nat → List Nat} {n i x : Nat} (h : ∀ j, j < 4 → (L j).length ≤ n) (hi : i < 4) : ∀ j, j < 4 → (setL L i (L i ++ [x]) j).length ≤ n + 1 := fun j hj => by
  unfold setL
  split
  · have := h i hi; simp; omega
  · have := h j hj; omega
/-- What is put behind the lists for one column. -/
def pushL (L : Nat → List Nat) (i x y : Nat) : Nat → List Nat := setL (setL L i (L i ++ [x])) (i + 1) (L (i + 1) ++ [y])
theorem pushL_len {L : Nat → List Nat} {n i x y : Nat} (h : ∀ j, j < 4 → (L j).length ≤ n) (hi : i + 1 < 4) : ∀ j, j < 4 → (pushL L i x y j).length ≤ n + 2 := fun j hj => by
  unfold pushL setL
  have h1 := h i (by omega)
  have h2 := h (i + 1) hi
  have h3 := h j hj
  split
  · simp; omega
  · split
    · simp; omega
    · omega
theorem colT_step {R X : Nat → C} {r z u : C} {k : Nat} {L : Nat → List Nat} {x1 y1 p0 e0 x2 y2 x3 y3 : Nat} (h : ∀ j, j < 4 → (L j).map (cn .f64) = colT R X r k j) (hz : R k = z) (hu : X k = u)
    (a1 : cn .f64 x1 = fneg (pr z.1 u.1)) (a2 : cn .f64 y1 = fneg (er z.1 u.1)) (a3 : cn .f64 p0 = pr z.2 u.2) (a4 : cn .f64 e0 = er z.2 u.2)
    (a5 : cn .f64 x2 = fneg (pr z.1 u.2)) (a6 : cn .f64 y2 = fneg (er z.1 u.2)) (a7 : cn .f64 x3 = fneg (pr z.2 u.1)) (a8 : cn .f64 y3 = fneg (er z.2 u.1)) {L6 L7 L8 L9 : Nat → List Nat}
    (e6 : L6 = pushL L 0 x1 y1) (e7 : L7 = setL L6 0 (L6 0 ++ [p0])) (e8 : L8 = setL L7 1 (L7 1 ++ [e0])) (e9 : L9 = pushL L8 2 x2 y2) :
    ∀ j, j < 4 → (pushL L9 2 x3 y3 j).map (cn .f64) = colT R X r (k + 1) j := fun j hj => by
  subst e6 e7 e8 e9
  match j, hj with
  | 0, _ =>
    show ((L 0 ++ [x1]) ++ [p0]).map (cn .f64) = colT R X r k 0 ++ [fneg (pr (R k).1 (X k).1), pr (R k).2 (X k).2]
    rw [List.map_append, List.map_append, h 0 (by omega), hz, hu]
    simp [a1, a3]
  | 1, _ =>
    show ((L 1 ++ [y1]) ++ [e0]).map (cn .f64) = colT R X r k 1 ++ [fneg (er (R k).1 (X k).1), er (R k).2 (X k).2]
    rw [List.map_append, List.map_append, h 1 (by omega), hz, hu]
    simp [a2, a4]
  | 2, _ =>
    show ((L 2 ++ [x2]) ++ [x3]).map (cn .f64) = colT R X r k 2 ++ [fneg (pr (R k).1 (X k).2), fneg (pr (R k).2 (X k).1)]
    rw [List.map_append, List.map_append, h 2 (by omega), hz, hu]
    simp [a5, a7]
  | 3, _ =>
    show ((L 3 ++ [y2]) ++ [y3]).map (cn .f64) = colT R X r k 3 ++ [fneg (er (R k).1 (X k).2), fneg (er (R k).2 (X k).1)]
    rw [List.map_append, List.map_append, h 3 (by omega), hz, hu]
    simp [a6, a8]
theorem len_ok {n m : Nat} (h : n ≤ m) (hm : m ≤ 10000 := by decide) : n + 1 ≤ maxLen ∧ (n + 1) * 8 ≤ 140737488355328 := by unfold maxLen; omega
theorem colT_l1 (R X : Nat → C) (r : C) : ∀ k, (colT R X r k 1).length = 2 * k ∧ (colT R X r k 3).length = 2 * k
  | 0 => ⟨rfl, rfl⟩
  | k + 1 => by
    obtain ⟨h1, h2⟩ := colT_l1 R X r k
    refine ⟨?_, ?_⟩
    · show (colT R X r k 1 ++ [_, _]).length = _
      rw [List.length_append, h1]; simp; omega
    · show (colT R X r k 3 ++ [_, _]).length = _
      rw [List.length_append, h2]; simp; omega
theorem all_fin_cn {zs l : List C} (h : zs.map cnC = l) : zs.all pFinite = l.all pFinite := by
  rw [← h, List.all_map]
  congr 1
  funext z
  exact (pFinR_cn z).symm
theorem fin_exact {zs l : List C} (h : zs.map cnC = l) (hf : zs.all pFinite = true) : zs = l := by
  rw [← h]
  refine (List.map_id zs).symm.trans (List.map_congr_left fun z hz => ?_)
  have h1 := List.all_eq_true.1 hf z hz
  unfold pFinite at h1
  rw [Bool.and_eq_true] at h1
  have h2 := of_decide_eq_true h1.1
  have h3 := of_decide_eq_true h1.2
  show z = (cn .f64 z.1, cn .f64 z.2)
  rw [cn_of_not (k := .f64) (decide_eq_false (show ¬ double.infRung < rung double z.1 by omega)), cn_of_not (k := .f64) (decide_eq_false (show ¬ double.infRung < rung double z.2 by omega))]
end Go.Proofs.Ytandllekeimpgaa
