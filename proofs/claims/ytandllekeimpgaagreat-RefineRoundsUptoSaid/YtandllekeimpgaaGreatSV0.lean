/- Layer 10 as plain functions: what is unknown, by rows downward, then upward; in a mirror. -/
import Derived.Test.YtandllekeimpgaaGreatReg
import Derived.Test.YtandllekeimpgaaGreatMX1
import Derived.Test.YtandllekeimpgaaGreatExt
import Derived.Test.YtandllekeimpgaaGreatLW3
import Derived.Deep.RegionHeld3
import Derived.Deep.DeepCutAuto
import Derived.BigRegion
namespace Fl
open Ieee Go
/-- s less m products. -/
def accTo (M X : Nat → C) (k0 : Nat) (s : C) : Nat → C
  | 0 => s
  | m + 1 => pSub (accTo M X k0 s m) (pMul (M (k0 + m)) (X (k0 + m)))
def accFine (M X : Nat → C) (k0 : Nat) (s : C) : Nat → Bool
  | 0 => true
  | m + 1 => accFine M X k0 s m && pFinite (accTo M X k0 s (m + 1))
def putX (X : Nat → C) (i : Nat) (z : C) : Nat → C := fun j => if j = i then z else X j
theorem putX_same (X : Nat → C) (i : Nat) (z : C) : putX X i z i = z := if_pos rfl
theorem putX_other {X : Nat → C} {i j : Nat} {z : C} (h : j ≠ i) : putX X i z j = X j := if_neg h
/-- Downward, i rows. -/
def fwd (Lo : Nat → Nat → C) (o : Nat → Nat) (b : Nat → C) : Nat → Nat → C
  | 0 => fun _ => (0, 0)
  | i + 1 => putX (fwd Lo o b i) i (accTo (Lo i) (fwd Lo o b i) 0 (b (o i)) i)
def fwdFine (Lo : Nat → Nat → C) (o : Nat → Nat) (b : Nat → C) : Nat → Bool
  | 0 => true
  | i + 1 => fwdFine Lo o b i && accFine (Lo i) (fwd Lo o b i) 0 (b (o i)) i
/-- Upward, j rows from the last one. -/
def bwdRow (Up : Nat → Nat → C) (n : Nat) (X : Nat → C) (j : Nat) : C := accTo (Up (n - 1 - j)) X (n - j) (X (n - 1 - j)) j
def bwd (Up : Nat → Nat → C) (n : Nat) (Y : Nat → C) : Nat → Nat → C
  | 0 => Y
  | j + 1 => putX (bwd Up n Y j) (n - 1 - j) (pDiv (bwdRow Up n (bwd Up n Y j) j) (Up (n - 1 - j) (n - 1 - j)))
def bwdFine (Up : Nat → Nat → C) (n : Nat) (Y : Nat → C) : Nat → Bool
  | 0 => true
  | j + 1 => bwdFine Up n Y j && accFine (Up (n - 1 - j)) (bwd Up n Y j) (n - j) (bwd Up n Y j (n - 1 - j)) j && pFinite (pDiv (bwdRow Up n (bwd Up n Y j) j) (Up (n - 1 - j) (n - 1 - j)))
/-- The unknowns; is all that is stored finite? -/
def solX (Lo Up : Nat → Nat → C) (o : Nat → Nat) (b : Nat → C) (n : Nat) : Nat → C := bwd Up n (fwd Lo o b n) n
def solFine (Lo Up : Nat → Nat → C) (o : Nat → Nat) (b : Nat → C) (n : Nat) : Bool := fwdFine Lo o b n && bwdFine Up n (fwd Lo o b n) n
theorem acc_mir {M M' X X' : Nat → C} {k0 : Nat} {s s' : C} (hs : Mr s s') : ∀ m, (∀ k, k0 ≤ k → k < k0 + m → Mr (M k) (M' k) ∧ Mr (X k) (X' k)) →
    Mr (accTo M X k0 s m) (accTo M' X' k0 s' m) ∧ accFine M' X' k0 s' m = accFine M X k0 s m
  | 0, _ => ⟨hs, rfl⟩
  | m + 1, h => by
    obtain ⟨h1, h2⟩ := acc_mir hs m (fun k a b => h k a (by omega))
    have hk := h (k0 + m) (by omega) (by omega)
    have h3 : Mr (accTo M X k0 s (m + 1)) (accTo M' X' k0 s' (m + 1)) := h1.sub (hk.1.mul hk.2)
    refine ⟨h3, ?_⟩
    unfold accFine
    rw [h2, h3.finite]
theorem Mr.nought : Mr (0, 0) (0, 0) := ⟨⟨.inl rfl, .inr ⟨by decide, by decide +kernel⟩⟩, ⟨by decide, by decide⟩, ⟨by decide, by decide⟩⟩
theorem putX_mir {n : Nat} {X X' : Nat → C} {i : Nat} {z z' : C} (h : ∀ j, j < n → Mr (X j) (X' j)) (hz : Mr z z') : ∀ j, j < n → Mr (putX X i z j) (putX X' i z' j) := fun j hj => by
  by_cases e : j = i
  · subst e; rw [putX_same, putX_same]; exact hz
  · rw [putX_other e, putX_other e]; exact h j hj
theorem fwd_mir {n : Nat} {Lo Lo' : Nat → Nat → C} {o : Nat → Nat} {b b' : Nat → C} (hL : ∀ i j, i < n → j < n → Mr (Lo i j) (Lo' i j)) (hb : ∀ i, i < n → Mr (b (o i)) (b' (o i))) :
    ∀ i, i ≤ n → (∀ j, j < n → Mr (fwd Lo o b i j) (fwd Lo' o b' i j)) ∧ fwdFine Lo' o b' i = fwdFine Lo o b i
  | 0, _ => ⟨fun _ _ => Mr.nought, rfl⟩
  | i + 1, hi => by
    obtain ⟨h1, h2⟩ := fwd_mir hL hb i (by omega)
    obtain ⟨h3, h4⟩ := acc_mir (M := Lo i) (M' := Lo' i) (X := fwd Lo o b i) (X' := fwd Lo' o b' i) (k0 := 0) (hb i (by omega)) i (fun k _ hk => ⟨hL i k (by omega) (by omega), h1 k (by omega)⟩)
    refine ⟨putX_mir h1 h3, ?_⟩
    unfold fwdFine
    rw [h2, h4]
theorem bwd_mir {n : Nat} {Up Up' : Nat → Nat → C} {Y Y' : Nat → C} (hU : ∀ i j, i < n → j < n → Mr (Up i j) (Up' i j)) (hd : ∀ i, i < n → pFinite (Up i i) = true ∧ pZero (Up i i) = false) (hY : ∀ j, j < n → Mr (Y j) (Y' j)) :
    ∀ j, j ≤ n → (∀ i, i < n → Mr (bwd Up n Y j i) (bwd Up' n Y' j i)) ∧ bwdFine Up' n Y' j = bwdFine Up n Y j
  | 0, _ => ⟨hY, rfl⟩
  | j + 1, hj => by
    obtain ⟨h1, h2⟩ := bwd_mir hU hd hY j (by omega)
    have hr : n - 1 - j < n := by omega
    obtain ⟨h3, h4⟩ := acc_mir (M := Up (n - 1 - j)) (M' := Up' (n - 1 - j)) (X := bwd Up n Y j) (X' := bwd Up' n Y' j) (k0 := n - j) (h1 (n - 1 - j) hr) j (fun k a b => ⟨hU _ k hr (by omega), h1 k (by omega)⟩)
    have h5 : Mr (pDiv (bwdRow Up n (bwd Up n Y j) j) (Up (n - 1 - j) (n - 1 - j))) (pDiv (bwdRow Up' n (bwd Up' n Y' j) j) (Up' (n - 1 - j) (n - 1 - j))) :=
      Mr.div h3 (hU _ _ hr hr) (hd _ hr).1 (hd _ hr).2
    refine ⟨putX_mir h1 h5, ?_⟩
    unfold bwdFine
    rw [h2, h4, h5.finite]
theorem sol_mir {n : Nat} {Lo Lo' Up Up' : Nat → Nat → C} {o : Nat → Nat} {b b' : Nat → C} (hL : ∀ i j, i < n → j < n → Mr (Lo i j) (Lo' i j)) (hU : ∀ i j, i < n → j < n → Mr (Up i j) (Up' i j))
    (hd : ∀ i, i < n → pFinite (Up i i) = true ∧ pZero (Up i i) = false) (hb : ∀ i, i < n → Mr (b (o i)) (b' (o i))) :
    (∀ i, i < n → Mr (solX Lo Up o b n i) (solX Lo' Up' o b' n i)) ∧ solFine Lo' Up' o b' n = solFine Lo Up o b n := by
  obtain ⟨h1, h2⟩ := fwd_mir hL hb n (Nat.le_refl _)
  obtain ⟨h3, h4⟩ := bwd_mir hU hd h1 n (Nat.le_refl _)
  exact ⟨h3, by unfold solFine; rw [h2, h4]⟩
theorem acc_lt {M X : Nat → C} {k0 : Nat} {s : C} (hs : ltC s) : ∀ m, ltC (accTo M X k0 s m)
  | 0 => hs
  | _ + 1 => ltC_sub _ _
/-- What is finite in the end: the last that is stored. -/
theorem bwd_fin {Up : Nat → Nat → C} {n : Nat} {Y : Nat → C} : ∀ j, j ≤ n → bwdFine Up n Y j = true → ∀ i, n - j ≤ i → i < n → pFinite (bwd Up n Y j i) = true
  | 0, _, _, i, a, b => by omega
  | j + 1, hj, h, i, a, b => by
    unfold bwdFine at h
    rw [Bool.and_eq_true, Bool.and_eq_true] at h
    unfold bwd
    by_cases e : i = n - 1 - j
    · subst e; rw [putX_same]; exact h.2
    · rw [putX_other e]; exact bwd_fin j (by omega) h.1.1 i (by omega) b
theorem sol_fin {Lo Up : Nat → Nat → C} {o : Nat → Nat} {b : Nat → C} {n : Nat} (h : solFine Lo Up o b n = true) : ∀ i, i < n → pFinite (solX Lo Up o b n i) = true := fun i hi => by
  unfold solFine at h
  rw [Bool.and_eq_true] at h
  exact bwd_fin n (Nat.le_refl _) h.2 i (by omega) hi
/-- No pivot is nought. -/
theorem run_diag {n : Nat} {S : El} (hf : finTo S.E n) : ∀ k, k ≤ n → (elRun n S k).1.1 = 0 → ∀ i, i < k → pZero ((elRun n S k).2.E i i) = false
  | 0, _, _, i, hi => by omega
  | k + 1, hk, h0, i, hi => by
    have h1 : (elRun n S k).1.1 = 0 := by
      by_cases e : (elRun n S k).1.1 = 0
      · exact e
      · rw [elRun, if_neg e] at h0; exact absurd h0 e
    have he : elErr n k (elRun n S k).2 = 0 := by
      by_cases e : elErr n k (elRun n S k).2 = 0
      · exact e
      · rw [elRun_bad h1 e] at h0; exact absurd h0 e
    have hn : elNil n k (elRun n S k).2 = false := by
      refine Bool.eq_false_iff.2 fun e => ?_
      unfold elErr at he
      rw [if_pos e] at he
      cases he
    rw [elRun_ok h1 he]
    show pZero (elE _ k i i) = false
    rw [elE_old (by omega)]
    by_cases e : i = k
    · subst e
      exact (piv_at (by omega) (elRun_fin hf i (by omega)) hn).2
    · have hp := (elPiv_lt (elRun n S k).2 (k := k) (n := n) (by omega)).2
      show pZero ((elRun n S k).2.E (Fl.xch k _ i) i) = false
      rw [xch_ne (by omega) (by omega)]
      exact run_diag hf k (by omega) h1 i (by omega)
end Fl
namespace Go.Proofs.YtandllekeimpgaaGreat
open Go.RowKit Fl Ieee
set_option maxRecDepth 20000
attribute [local go_sem] run_store_float run_store_complex
/-- A number is handed back, and whether it is finite is kept. -/
def RetLk (b : Nat) (f : Bool) (v : C) (w : World) (e : Ending) (w' : World) : Prop :=
  ∃ (z : C) (d : Nat), e = .returned (.complex .f64 z.1 z.2) ∧ cnC z = v ∧ ltC z ∧ w' = (w.drewN d).setCell ⟨b, 0, none⟩ (.bool (f || !pFinite v))
theorem less_c (b : Nat) (f : Bool) (s a t : C) (w : World) (hb : w.heap[b]? = some (.cells #[.bool f] 105)) :
    Calls Tryz.prog 58 #[.pointer (some ⟨b, 0, none⟩), .complex .f64 s.1 s.2, .complex .f64 a.1 a.2, .complex .f64 t.1 t.2] w (RetLk b f (pSub (cnC s) (pMul (cnC a) (cnC t))) w) := by
  obtain ⟨c0, fr⟩ : w.cell? ⟨b, 0, none⟩ = some (.bool f) ∧ w.frozen? ⟨b, 0, none⟩ = false := ⟨by rw [cell_of_row w b 0 _ _ _ hb]; rfl, frozen_of_row w b 0 _ _ hb⟩
  have HM := Lib.hid (fun V => Mul_c a.1 a.2 t.1 t.2 V)
  have HS := Lib.hid (fun (m : C) V => Sub_c s.1 s.2 m.1 m.2 V)
  clear hb
  go_enter Tryz.func58, Tryz.ntmps58
  go_wp2_with fail
  refine (HM.out _).mono ?_
  rintro e w' ⟨x, y, n, rfl, hv, hx, hy, rfl⟩
  have HV := Lib.hid hv
  have HSm := Lib.hid (HS.out (x, y))
  clear hv
  go_wp2_with fail
  refine (HSm.out _).mono ?_
  rintro e w' ⟨p, q, m, rfl, hv2, hp, hq, rfl⟩
  have hz : cnC (p, q) = pSub (cnC s) (pMul (cnC a) (cnC t)) := by
    have h := hv2
    rw [show (cn .f64 (x, y).1, cn .f64 (x, y).2) = pMul (cnC a) (cnC t) from HV.out] at h
    exact h
  have HZ := Lib.hid hz
  have hfi := Finite_c p q hp hq
  rw [show (cn .f64 p, cn .f64 q) = pSub (cnC s) (pMul (cnC a) (cnC t)) from hz] at hfi
  have HFi := Lib.hid hfi
  obtain ⟨g, hg⟩ : ∃ g, g = pFinite (pSub (cnC s) (pMul (cnC a) (cnC t))) := ⟨_, rfl⟩
  rw [← hg] at HFi
  have HG := Lib.hid hg
  clear hv2 hz hfi hg
  cases f
  · go_wp2_with fail
    refine (HFi.out _).mono ?_
    rintro e w' ⟨d, rfl, rfl⟩
    go_wp2
    go_ret
    exact ⟨(p, q), _, rfl, HZ.out, ⟨hp, hq⟩, by rw [← HG.out]; rfl⟩
  · go_wp2
    go_ret
    exact ⟨(p, q), _, rfl, HZ.out, ⟨hp, hq⟩, by rw [← HG.out]; rfl⟩
theorem by_c (b : Nat) (f : Bool) (s a : C) (w : World) (hb : w.heap[b]? = some (.cells #[.bool f] 105)) (ha : ltC a) :
    Calls Tryz.prog 59 #[.pointer (some ⟨b, 0, none⟩), .complex .f64 s.1 s.2, .complex .f64 a.1 a.2] w (RetLk b f (pDiv (cnC s) (cnC a)) w) := by
  obtain ⟨c0, fr⟩ : w.cell? ⟨b, 0, none⟩ = some (.bool f) ∧ w.frozen? ⟨b, 0, none⟩ = false := ⟨by rw [cell_of_row w b 0 _ _ _ hb]; rfl, frozen_of_row w b 0 _ _ hb⟩
  have HD := Lib.hid (fun V => Div_c s.1 s.2 a.1 a.2 ha.1 ha.2 V)
  clear hb ha
  go_enter Tryz.func59, Tryz.ntmps59
  go_wp2_with fail
  refine (HD.out _).mono ?_
  rintro e w' ⟨p, q, m, rfl, hv2, hp, hq, rfl⟩
  have HZ := Lib.hid (show cnC (p, q) = pDiv (cnC s) (cnC a) from hv2)
  have hfi := Finite_c p q hp hq
  rw [show (cn .f64 p, cn .f64 q) = pDiv (cnC s) (cnC a) from hv2] at hfi
  have HFi := Lib.hid hfi
  obtain ⟨g, hg⟩ : ∃ g, g = pFinite (pDiv (cnC s) (cnC a)) := ⟨_, rfl⟩
  rw [← hg] at HFi
  have HG := Lib.hid hg
  clear hv2 hfi hg
  cases f
  · go_wp2_with fail
    refine (HFi.out _).mono ?_
    rintro e w' ⟨d, rfl, rfl⟩
    go_wp2
    go_ret
    exact ⟨(p, q), _, rfl, HZ.out, ⟨hp, hq⟩, by rw [← HG.out]; rfl⟩
  · go_wp2
    go_ret
    exact ⟨(p, q), _, rfl, HZ.out, ⟨hp, hq⟩, by rw [← HG.out]; rfl⟩
end Go.Proofs.YtandllekeimpgaaGreat
namespace Go.Proofs.YtandllekeimpgaaGreat
open Go.RowKit Fl Ieee
set_option maxRecDepth 20000
attribute [local go_sem] run_store_float run_store_complex
theorem exact_of : ∀ {zs l : List C}, zs.map cnC = l → (∀ z ∈ l, pFinite z = true) → zs = l
  | [], _, h, _ => by rw [← h]; rfl
  | a :: t, _, h, hf => by
    rw [List.map_cons] at h
    rw [← h] at hf ⊢
    have h1 : a = cnC a := like.fin (z := a) (v := cnC a) (.inr rfl) (hf _ (List.mem_cons_self))
    rw [← h1, ← exact_of (zs := t) rfl (fun z hz => hf z (List.mem_cons_of_mem _ hz))]
theorem entries_fin {E : Nat → Nat → C} {n : Nat} (h : ∀ i j, i < n → j < n → pFinite (E i j) = true) : ∀ z ∈ entries n E (n * n), pFinite z = true := fun z hz => by
  unfold entries at hz
  obtain ⟨k, hk, rfl⟩ := List.mem_map.1 hz
  have hk := List.mem_range.1 hk
  have hn0 : 0 < n := by
    rcases Nat.eq_zero_or_pos n with h | h
    · subst h; simp at hk
    · exact h
  exact h _ _ (Nat.div_lt_of_lt_mul hk) (Nat.mod_lt _ hn0)
theorem low_fin {n : Nat} {S : El} (h : finTo S.E n) (i j : Nat) (hi : i < n) (hj : j < n) : pFinite (lowE S i j) = true := by
  unfold lowE
  split
  · decide +kernel
  · split
    · exact h i j hi hj
    · decide +kernel
theorem upp_fin {n : Nat} {S : El} (h : finTo S.E n) (i j : Nat) (hi : i < n) (hj : j < n) : pFinite (uppE S i j) = true := by
  unfold uppE
  split
  · decide +kernel
  · exact h i j hi hj
theorem fieldM (a b : Int) (A : Option Addr) (n c : Nat) (W : World) : (Instr.field 27 (mval a b (.slice A n c)) 2).run Tryz.prog W = .ok (.slice A n c) W := by kernel_rfl
theorem set4 {w : World} {b : Nat} {x0 x1 x2 x3 u v s t : Value} {T : TypeId} (h : w.heap[b]? = some (.cells #[x0, x1, x2, x3] T)) :
    ((((w.setCell ⟨b, 0, none⟩ u).setCell ⟨b, 1, none⟩ v).setCell ⟨b, 2, none⟩ s).setCell ⟨b, 3, none⟩ t).heap[b]? = some (.cells #[u, v, s, t] T) := by
  have h1 := heap_setCell_same w b 0 _ T u h
  have h2 := heap_setCell_same _ b 1 _ T v h1
  have h3 := heap_setCell_same _ b 2 _ T s h2
  have h4 := heap_setCell_same _ b 3 _ T t h3
  rw [h4]; rfl
theorem RetMx.liesO {w w' : World} {r c M : Nat} {l : List C} {e : Ending} (h : RetMx r c l w e w') (hM : l.length = M) (hf : ∀ z ∈ l, pFinite z = true) {B : Nat} (hB : B ≤ w.heap.size) : ∃ A cap, e = .returned (mval r c (.slice A M cap)) ∧ w'.ownsRow B 60 1 (.slice A M cap) M (nums l) ∧ Below w.heap.size w w' := by
  obtain ⟨s, zs, rfl, hz, -, hown, hb⟩ := h
  rw [exact_of hz hf] at hown
  obtain ⟨A, cap, rfl, -, -, -⟩ := own_reads hown
  rw [hM] at hown ⊢
  exact ⟨A, cap, rfl, own_base hown hB, hb⟩
/-- Four cells of a row that lies below are written. -/
theorem own_set4 {w : World} {B b n : Nat} {e : TypeId} {v x0 x1 x2 x3 : Value} {xs : List Value} (h : w.ownsRow B e 1 v n xs) (hb : b < B) :
    ((((w.setCell ⟨b, 0, none⟩ x0).setCell ⟨b, 1, none⟩ x1).setCell ⟨b, 2, none⟩ x2).setCell ⟨b, 3, none⟩ x3).ownsRow B e 1 v n xs :=
  ownsRow_setCell_below (ownsRow_setCell_below (ownsRow_setCell_below (ownsRow_setCell_below h hb _) hb _) hb _) hb _
/-- The order, as whole numbers. -/
def ordL (n : Nat) (o : Nat → Nat) : List Int := (List.range n).map fun i => ((o i : Nat) : Int)
/-- What an elimination is taken apart into. -/
def RetOpen (n : Nat) (S : El) (w : World) (e : Ending) (w' : World) : Prop :=
  ∃ Al kl Au ku Ao ko, e = .returned (.tuple #[.agg #[.int .i64 (n : Nat), .slice Al (n * n) kl, .slice Au (n * n) ku, .slice Ao n ko], .bool true]) ∧
    Reads w' w'.heap.size Al (nums (entries n (lowE S) (n * n))) ∧ Reads w' w'.heap.size Au (nums (entries n (uppE S) (n * n))) ∧ Reads w' w'.heap.size Ao (intsV (ordL n S.o)) ∧ Below w.heap.size w w'
set_option maxHeartbeats 2000000 in
theorem open_c {B b n : Nat} {S : El} (w : World) (h : Has9 w B b n S) (hf : finTo S.E n) (hn : n ≤ 64) : Calls Tryz.prog 56 #[.pointer (some ⟨b, 0, none⟩)] w (RetOpen n S w) := by
  obtain ⟨M, hM⟩ : ∃ M, M = n * n := ⟨_, rfl⟩
  have hEl : (entries n (lowE S) (n * n)).length = M := by rw [hM]; simp [entries]
  have hEu : (entries n (uppE S) (n * n)).length = M := by rw [hM]; simp [entries]
  have h9 := h.below (below_new w (.cells #[.int .i64 0, .slice none 0 0, .slice none 0 0, .slice none 0 0] 99))
  have H0 := Lib.hid (show NW w (w.alloc (.cells #[.int .i64 0, .slice none 0 0, .slice none 0 0, .slice none 0 0] 99)) n B b S from ⟨h9, below_new w _⟩)
  have HR0 := Lib.hid (heap_alloc_new w (.cells #[.int .i64 0, .slice none 0 0, .slice none 0 0, .slice none 0 0] 99))
  have HF := Lib.hid hf
  have HN := Lib.hid hn
  have HEl := Lib.hid hEl
  have HEu := Lib.hid hEu
  have HMM := Lib.hid hM
  have hsg : (sgI S.s == 0) = false := by cases S.s <;> rfl
  have hfm := fun (a b : Int) (A : Option Addr) (n c : Nat) (W : World) => fieldM a b A n c W
  clear h h9 hf hn hEl hEu hM
  go_enter Tryz.func56, Tryz.ntmps56
  go_wp2_with fail
  refine (Sign_c _ H0.out.x).mono ?_
  rintro e w' ⟨rfl, rfl⟩
  go_wp2_with fail
  refine (Size_c _ H0.out.x).mono ?_
  rintro e w' ⟨rfl, rfl⟩
  go_wp2_with fail
  refine (L_c _ H0.out.x HF.out HN.out).mono ?_
  rintro e W1 hr
  obtain ⟨Al, kl, rfl, hol, hb⟩ := RetMx.liesO hr HEl.out (entries_fin (low_fin HF.out)) (B := w.heap.size + 1) (by simp)
  have N1 := Lib.hid (H0.out.below hb)
  have HR1 := Lib.hid (row_keep hb HR0.out)
  have HL := Lib.hid hol
  clear hr hol hb
  go_wp2_with fail
  refine (U_c _ N1.out.x HF.out HN.out).mono ?_
  rintro e W2 hr
  obtain ⟨Au, ku, rfl, hou, hb⟩ := RetMx.liesO hr HEu.out (entries_fin (upp_fin HF.out)) (B := w.heap.size + 1) (row_lt HR1.out)
  have N2 := Lib.hid (N1.out.below hb)
  have HR2 := Lib.hid (row_keep hb HR1.out)
  have HL2 := Lib.hid (own_below HL.out hb)
  have HU := Lib.hid hou
  clear hr hou hb
  go_wp2_with fail
  refine (Order_c _ N2.out.x HN.out).mono ?_
  rintro e W3 hr
  obtain ⟨Ao, ko, rfl, -, hoo, hb⟩ := hr.lies
  have N3 := Lib.hid (N2.out.below hb)
  have HR3 := Lib.hid (row_keep hb HR2.out)
  have HL3 := Lib.hid (own_below HL2.out hb)
  have HU3 := Lib.hid (own_below HU.out hb)
  have HO3 := Lib.hid (own_base hoo (show w.heap.size + 1 ≤ _ from row_lt HR2.out))
  clear hr hoo hb
  obtain ⟨c0, c1, c2, c3, fr⟩ := box4 HR3.out
  have f0 := fr 0
  have f1 := fr 1
  have f2 := fr 2
  have f3 := fr 3
  clear fr
  go_wp2
  obtain ⟨q0, q1, q2, q3, -⟩ := box4 (set4 (u := .int .i64 (n : Nat)) (v := .slice Al M kl) (s := .slice Au M ku) (t := .slice Ao n ko) HR3.out)
  refine bodyPost_ret (v := .tuple #[.agg #[.int .i64 (n : Nat), .slice Al M kl, .slice Au M ku, .slice Ao n ko], .bool true]) (by simp [results, Tryz.results56, go_sem, q0, q1, q2, q3]) rfl ?_
  have hlt : w.heap.size < w.heap.size + 1 := Nat.lt_succ_self _
  refine ⟨Al, kl, Au, ku, Ao, ko, by rw [← HMM.out], Reads.of_own (own_set4 HL3.out hlt), Reads.of_own (own_set4 HU3.out hlt), ?_, (((N3.out.bel.setCell (Nat.le_refl _) _).setCell (Nat.le_refl _) _).setCell (Nat.le_refl _) _).setCell (Nat.le_refl _) _⟩
  have h := Reads.of_own (own_set4 (x0 := .int .i64 (n : Nat)) (x1 := .slice Al M kl) (x2 := .slice Au M ku) (x3 := .slice Ao n ko) HO3.out hlt)
  have e : intsV (ordL n S.o) = (List.range n).map fun i => Value.int .i64 (S.o i : Nat) := by simp [ordL, Function.comp_def]
  rw [e]; exact h
/-- What refuses a right side. -/
def bErr (n : Nat) (l : List C) : Int := if l.length = n then (if badAt l < l.length then 5 else 0) else 4
set_option maxHeartbeats 1000000 in
theorem wrong_c (n : Nat) (x1 x2 x3 : Value) (A : Option Addr) (l : List C) (cap : Nat) (w : World) (hlt : ltCs l) (hl : l.length ≤ 4611686018427387904) (hn : n ≤ 64) (hr : Reads w w.heap.size A (nums l)) :
    Calls Tryz.prog 57 #[.agg #[.int .i64 (n : Nat), x1, x2, x3], .slice A l.length cap] w (RetV (.int .i64 (bErr n l)) w) := by
  have hb0 := below_new w (.cells #[.int .i64 (n : Nat), x1, x2, x3] 99)
  have HB0 := Lib.hid hb0
  have HR := Lib.hid ((hr.below hb0).more hb0.size)
  have HLt := Lib.hid hlt
  have HL := Lib.hid hl
  by_cases h : l.length = n
  · have hne : ((l.length : Int) != (n : Int)) = false := by simp [h]
    have HE := Lib.hid (show bErr n l = if badAt l < l.length then 5 else 0 by unfold bErr; rw [if_pos h])
    have hl64 : l.length ≤ 64 := by omega
    have HL64 := Lib.hid hl64
    clear hlt hl hn hr hb0 h hl64
    go_enter Tryz.func57, Tryz.ntmps57
    go_wp2
    go_loopw [14] (fun i wr => ∃ k d : Nat, k ≤ l.length ∧ i = .int .i64 (k : Nat) ∧ (∀ i u, i < k → l[i]? = some u → pFinite u = true) ∧ wr = (w.alloc (.cells #[.int .i64 (n : Nat), x1, x2, x3] 99)).drewN d) (fun i _ => l.length - (intOf i).toNat)
    case atStart => exact ⟨0, 0, Nat.zero_le _, rfl, fun i u h => by omega, rfl⟩
    case round =>
      obtain ⟨k, d, hk, rfl, hall, hwr⟩ := hrel
      have HAll := Lib.hid hall
      have HBw := Lib.hid (show Below w.heap.size w wr by rw [hwr]; exact below_drewN HB0.out d)
      have hrw : Reads wr wr.heap.size A (nums l) := by rw [hwr]; exact HR.out
      have HWr := Lib.hid hwr
      have hkb : (k : Int) + 1 ≤ 65 := by have := HL64.out; omega
      clear hall hwr
      by_cases hlt : k < l.length
      · have hlti : (k : Int) < (l.length : Int) := Int.ofNat_lt.2 hlt
        obtain ⟨z, hz⟩ := some_of_lt hlt
        have hv : (nums l)[k]? = some (.complex .f64 z.1 z.2) := by simp [nums, hz]
        obtain ⟨ad, rfl, had, hcell⟩ := hrw.at_ hv
        have hlz := HLt.out z (List.mem_of_getElem? hz)
        have hfi := Finite_c z.1 z.2 hlz.1 hlz.2 wr
        rw [pFin_cn] at hfi
        have HZ := Lib.hid hz
        have HFi := Lib.hid hfi
        clear hz hv had hlz hfi hrw
        cases hg : pFinite z
        · rw [hg] at HFi
          have hbad : badAt l = k := badAt_of HAll.out HZ.out hg
          have HEE := Lib.hid (show bErr n l = 5 by rw [HE.out, hbad, if_pos hlt])
          clear hbad hg
          go_wp2_with fail
          refine HFi.out.mono ?_
          rintro e w' ⟨d2, rfl, rfl⟩
          go_wp2
          go_ret
          exact ⟨by rw [HEE.out]; rfl, below_drewN HBw.out d2⟩
        · rw [hg] at HFi
          have HG := Lib.hid hg
          clear hg
          go_wp2_with fail
          refine HFi.out.mono ?_
          rintro e w' ⟨d2, rfl, rfl⟩
          go_wp2
          go_roundw
          case rel =>
            refine ⟨k + 1, d + d2, hlt, by go_num, fun i u hi hu => ?_, by rw [HWr.out, World.drewN_drewN]⟩
            by_cases e : i = k
            · subst e
              have := HZ.out.symm.trans hu
              injection this with this
              rw [← this]; exact HG.out
            · exact HAll.out i u (by omega) hu
          case measure => simp [intOf]; omega
      · have e : k = l.length := by omega
        have hfin : ¬ badAt l < l.length := fun hb => by
          have h1 : (!pFinite l[badAt l]) = true := List.findIdx_getElem (w := hb)
          rw [HAll.out (badAt l) _ (by omega) (List.getElem?_eq_getElem hb)] at h1
          cases h1
        have HEE := Lib.hid (show bErr n l = 0 by rw [HE.out, if_neg hfin])
        clear hfin hrw
        go_wp2
        go_ret
        exact ⟨by rw [HEE.out]; rfl, HBw.out⟩
  · have hne : ((l.length : Int) != (n : Int)) = true := by simp; omega
    have HE := Lib.hid (show bErr n l = 4 by unfold bErr; rw [if_neg h])
    clear hlt hl hn hr hb0 h
    go_enter Tryz.func57, Tryz.ntmps57
    go_wp2
    go_ret
    exact ⟨by rw [HE.out]; rfl, HB0.out⟩
end Go.Proofs.YtandllekeimpgaaGreat
namespace Go.Proofs.YtandllekeimpgaaGreat
open Go.RowKit Fl Ieee
set_option maxRecDepth 20000
attribute [local go_sem] run_store_float run_store_complex Fl.order_self Fl.order_self' Fl.order_eq Fl.order_ne Fl.order_lt Fl.order_gt
/-- A list and what is told of it. -/
def RetSol (er : Int) (l : List C) (w : World) (e : Ending) (w' : World) : Prop :=
  ∃ s, e = .returned (.tuple #[s, .int .i64 er]) ∧ w'.ownsRow w.heap.size 60 1 s l.length (nums l) ∧ Below w.heap.size w w'
def bOf (l : List C) (i : Nat) : C := l.getD i (0, 0)
def solOk (n : Nat) (S : El) (l : List C) : Bool := solFine (lowE S) (uppE S) S.o (bOf l) n
def solL (n : Nat) (S : El) (l : List C) : List C := (List.range n).map (solX (lowE S) (uppE S) S.o (bOf l) n)
/-- What is being reckoned: the row of unknowns, whether all is finite. -/
structure SvS (W0 W : World) (n : Nat) (zs : Nat → C) (f : Bool) : Prop where
  bel : Below W0.heap.size W0 W
  look : W.heap[W0.heap.size]? = some (.cells #[.bool f] 105)
  x : W.heap[W0.heap.size + 1]? = some (.cells (nums ((List.range n).map zs)).toArray 60)
  lt : ∀ j, j < n → ltC (zs j)
theorem wrapI {x : Int} {y : Nat} (e : x = (y : Int)) (h : y ≤ 9223372036854775807) : IntKind.i64.wrap x = (y : Int) := by
  rw [e, IntKind.wrap_i64]; omega
theorem nums_setl (zs : List C) (k : Nat) (z : C) : (nums zs).set k (.complex .f64 z.1 z.2) = nums (zs.set k z) := by simp [nums, List.map_set]
theorem map_put {n i : Nat} {zs : Nat → C} {z : C} : (nums ((List.range n).map zs)).set i (.complex .f64 z.1 z.2) = nums ((List.range n).map (putX zs i z)) := by
  rw [nums_setl]
  congr 1
  apply List.ext_getElem
  · simp
  · intro q p1 p2
    have hq : q < n := by simpa using p2
    rw [List.getElem_set]
    by_cases e : i = q
    · subst e; simp [putX_same]
    · rw [if_neg e]; simp [putX_other (fun h => e h.symm)]
namespace SvS
variable {W0 W V : World} {n : Nat} {zs : Nat → C} {f : Bool}
theorem cellX (h : SvS W0 W n zs f) {i : Nat} (hi : i < n) : W.cell? ⟨W0.heap.size + 1, i, none⟩ = some (.complex .f64 (zs i).1 (zs i).2) := by
  rw [cell_of_row W (W0.heap.size + 1) i _ _ _ h.x]
  simp [nums, hi]
theorem frozenX (h : SvS W0 W n zs f) (i : Nat) : W.frozen? ⟨W0.heap.size + 1, i, none⟩ = false := frozen_of_row W (W0.heap.size + 1) i _ _ h.x
theorem put (h : SvS W0 W n zs f) {i : Nat} {z : C} (hi : i < n) (hz : ltC z) : SvS W0 (W.setCell ⟨W0.heap.size + 1, i, none⟩ (.complex .f64 z.1 z.2)) n (putX zs i z) f where
  bel := h.bel.setCell (Nat.le_succ _) _
  look := by rw [Below.heap_setCell _ _ _ _ (by show W0.heap.size ≠ W0.heap.size + 1; omega)]; exact h.look
  x := by
    rw [heap_setCell_same W (W0.heap.size + 1) i _ _ _ h.x]
    congr 2
    rw [← map_put]
    simp
  lt j hj := by
    by_cases e : j = i
    · subst e; rw [putX_same]; exact hz
    · rw [putX_other e]; exact h.lt j hj
theorem flag (h : SvS W0 W n zs f) (g : Bool) : SvS W0 (W.setCell ⟨W0.heap.size, 0, none⟩ (.bool g)) n zs g where
  bel := h.bel.setCell (Nat.le_refl _) _
  look := by rw [heap_setCell_same W W0.heap.size 0 _ _ _ h.look]; rfl
  x := by rw [Below.heap_setCell _ _ _ _ (by show W0.heap.size + 1 ≠ W0.heap.size; omega)]; exact h.x
  lt := h.lt
theorem drewN (h : SvS W0 W n zs f) (d : Nat) : SvS W0 (W.drewN d) n zs f := ⟨below_drewN h.bel d, h.look, h.x, h.lt⟩
theorem drew (h : SvS W0 W n zs f) : SvS W0 W.drew n zs f := ⟨h.bel.drew, h.look, h.x, h.lt⟩
end SvS
theorem ent_get {n i k : Nat} (E : Nat → Nat → C) (hi : i < n) (hk : k < n) : (nums (entries n E (n * n)))[i * n + k]? = some (.complex .f64 (E i k).1 (E i k).2) := by
  have h : i * n + k < n * n := by
    have h1 : (i + 1) * n ≤ n * n := Nat.mul_le_mul_right _ hi
    rw [Nat.add_mul, Nat.one_mul] at h1; omega
  unfold entries nums
  rw [List.getElem?_map, List.getElem?_map, List.getElem?_range h]
  show some (Value.complex .f64 (entry n E (i * n + k)).1 (entry n E (i * n + k)).2) = _
  rw [entry_at E hk]
theorem upp_lt {n i : Nat} {S : El} (h : ∀ i, i < n → ltC (S.E i i)) (hi : i < n) : ltC (uppE S i i) := by
  unfold uppE; rw [if_neg (Nat.lt_irrefl _)]; exact h i hi
theorem not_or (a b : Bool) : (!a || !b) = !(a && b) := by cases a <;> cases b <;> rfl
/-- What stands unchanged while it is reckoned. -/
structure SvE (W0 : World) (sb n : Nat) (Al Au Ao Ab : Option Addr) (kl ku ko : Nat) (S : El) (bl : List C) : Prop where
  sys : W0.heap[sb]? = some (.cells #[.int .i64 (n : Nat), .slice Al (n * n) kl, .slice Au (n * n) ku, .slice Ao n ko] 99)
  rl : Reads W0 W0.heap.size Al (nums (entries n (lowE S) (n * n)))
  ru : Reads W0 W0.heap.size Au (nums (entries n (uppE S) (n * n)))
  ro : Reads W0 W0.heap.size Ao (intsV (ordL n S.o))
  rb : Reads W0 W0.heap.size Ab (nums bl)
theorem ord_get {n i : Nat} (o : Nat → Nat) (hi : i < n) : (intsV (ordL n o))[i]? = some (.int .i64 (o i : Nat)) := by
  unfold ordL; simp [hi]
/-- Where the call has come up: the place that is written. -/
theorem put_facts {W0 wr V : World} {n i : Nat} {zs : Nat → C} {f g : Bool} (h : SvS W0 wr n zs f) (hi : i < n) {d : Nat} (hV : V = (wr.drew.drewN d).setCell ⟨W0.heap.size, 0, none⟩ (.bool g)) :
    SvS W0 V n zs g ∧ V.cell? ⟨W0.heap.size + 1, i, none⟩ = some (.complex .f64 (zs i).1 (zs i).2) ∧ V.frozen? ⟨W0.heap.size + 1, i, none⟩ = false := by
  have h1 : SvS W0 V n zs g := by rw [hV]; exact (h.drew.drewN d).flag g
  exact ⟨h1, h1.cellX hi, h1.frozenX i⟩
set_option linter.unusedSimpArgs false in
set_option maxHeartbeats 16000000 in
theorem Solve_run {B b n : Nat} {S : El} (Ab : Option Addr) (bl : List C) (cap : Nat) (w : World) (h : Has9 w B b n S) (hf : finTo S.E n) (hp : Perm n S.o) (hn : n ≤ 64) (hl : bl.length = n) (hfb : ∀ z ∈ bl, pFinite z = true) (hlt : ltCs bl) (hrd : Reads w w.heap.size Ab (nums bl)) :
    Calls Tryz.prog 29 #[.pointer (some ⟨b, 0, none⟩), .slice Ab bl.length cap] w (RetSol (if solOk n S bl then 0 else 6) (if solOk n S bl then solL n S bl else []) w) := by
  obtain ⟨er, her⟩ : ∃ er : Int, er = if solOk n S bl then 0 else 6 := ⟨_, rfl⟩
  obtain ⟨rs, hrs⟩ : ∃ rs : List C, rs = if solOk n S bl then solL n S bl else [] := ⟨_, rfl⟩
  rw [← her, ← hrs]
  have HEr := Lib.hid her
  have HRs := Lib.hid hrs
  have hE0 : bErr n bl = 0 := by
    unfold bErr
    rw [if_pos hl, if_neg fun hb => by
      have h1 : (!pFinite bl[badAt bl]) = true := List.findIdx_getElem (w := hb)
      rw [hfb _ (List.getElem_mem _)] at h1
      cases h1]
  have HOp := Lib.hid (open_c w h hf hn)
  have HWr := Lib.hid (fun (x1 x2 x3 : Value) (V : World) (h2 : Reads V V.heap.size Ab (nums bl)) => (show Calls Tryz.prog 57 #[.agg #[.int .i64 (n : Nat), x1, x2, x3], .slice Ab bl.length cap] V (RetV (.int .i64 0) V) from by
    rw [← hE0]; exact wrong_c n x1 x2 x3 Ab bl cap V hlt (by omega) hn h2))
  have HLtS := Lib.hid (show ∀ i, i < n → ltC (S.E i i) from fun i hi => by obtain ⟨_, _, _, _, _, _, _, hl⟩ := h.num hi hi; exact hl)
  have hmk := run_make_row' (P := Tryz.prog) 25 60 (.complex .f64 0 0) 16 Tryz.underlying25 infoNum rfl .i64 .i64 n (by omega) (by omega)
  have HRd := Lib.hid hrd
  have HF := Lib.hid hf
  have HP := Lib.hid hp
  have HN := Lib.hid hn
  have HBl := Lib.hid hl
  have HFb := Lib.hid hfb
  have HLt := Lib.hid hlt
  clear h hf hp hn hl hfb hlt hrd hE0 her hrs
  go_enter Tryz.func29, Tryz.ntmps29
  go_wp2_with fail
  refine HOp.out.mono ?_
  rintro e W1 ⟨Al, kl, Au, ku, Ao, ko, rfl, hrl, hru, hro, hb⟩
  obtain ⟨M, hM⟩ : ∃ M, M = n * n := ⟨_, rfl⟩
  rw [← hM]
  have hbn := below_new W1 (.cells #[.int .i64 (n : Nat), .slice Al M kl, .slice Au M ku, .slice Ao n ko] 99)
  have hR1 := (HRd.out.below hb).more hb.size
  have HRb := Lib.hid ((hR1.below hbn).more hbn.size)
  have HRl := Lib.hid ((hrl.below hbn).more hbn.size)
  have HRu := Lib.hid ((hru.below hbn).more hbn.size)
  have HRo := Lib.hid ((hro.below hbn).more hbn.size)
  have B1 := Lib.hid (hb.trans (hbn.mono hb.size))
  have HSy := Lib.hid (heap_alloc_new W1 (.cells #[.int .i64 (n : Nat), .slice Al M kl, .slice Au M ku, .slice Ao n ko] 99))
  have HM := Lib.hid hM
  clear hrl hru hro hb hbn hR1 hM
  go_wp2_with fail
  refine (HWr.out _ _ _ _ HRb.out).mono ?_
  rintro e W0 ⟨rfl, hb⟩
  have HE := Lib.hid (show SvE W0 W1.heap.size n Al Au Ao Ab kl ku ko S bl from
    { sys := by rw [← HM.out]; exact row_keep hb HSy.out
      rl := (HRl.out.below hb).more hb.size
      ru := (HRu.out.below hb).more hb.size
      ro := (HRo.out.below hb).more hb.size
      rb := (HRb.out.below hb).more hb.size })
  have B0 := Lib.hid (B1.out.trans (hb.mono B1.out.size))
  have hsys := HE.out.sys
  rw [← HM.out] at hsys
  obtain ⟨s0, -, -, -, -⟩ := box4 hsys
  have s0a : ∀ o, (W0.alloc o).cell? ⟨W1.heap.size, 0, none⟩ = some (.int .i64 (n : Nat)) := fun o => ((below_new W0 o).cell (p := ⟨W1.heap.size, 0, none⟩) (row_lt hsys)).trans s0
  have HLk := Lib.hid (below_new W0 (.cells #[.bool false] 105))
  clear hb hsys HRl HRu HRo HRb HSy HOp HWr
  go_wp2
  have HS0 := Lib.hid (show SvS W0 ((W0.alloc (.cells #[.bool false] 105)).alloc (.cells (madeCells #[.complex .f64 0 0] n) 60)) n (fun _ => (0, 0)) false from
    { bel := (below_new W0 _).new (Nat.le_refl _) _
      look := row_alloc (heap_alloc_new W0 _)
      x := by
        rw [show ((List.range n).map fun _ => ((0, 0) : C)) = List.replicate n (0, 0) by rw [List.map_const', List.length_range], ← mk_nums]
        exact row_new2 _ _ _
      lt := fun _ _ => ⟨by decide, by decide⟩ })
  obtain ⟨bb, hbb⟩ : ∃ bb, bb = bOf bl := ⟨_, rfl⟩
  have HBB := Lib.hid hbb
  clear s0 s0a hmk hbb
  have facts := Lib.hid (fun (V : World) (hV : Below W0.heap.size W0 V) =>
    (show (V.cell? ⟨W1.heap.size, 0, none⟩ = some (.int .i64 (n : Nat)) ∧ V.cell? ⟨W1.heap.size, 1, none⟩ = some (.slice Al M kl) ∧ V.cell? ⟨W1.heap.size, 2, none⟩ = some (.slice Au M ku) ∧ V.cell? ⟨W1.heap.size, 3, none⟩ = some (.slice Ao n ko)) from by
      have hs := row_keep hV HE.out.sys
      rw [← HM.out] at hs
      obtain ⟨a0, a1, a2, a3, -⟩ := box4 hs
      exact ⟨a0, a1, a2, a3⟩))
  go_loopw [35] (fun i wr => ∃ (i0 : Nat) (zs : Nat → C) (f : Bool), i0 ≤ n ∧ i = .int .i64 (i0 : Nat) ∧ SvS W0 wr n zs f ∧ (∀ j, j < i0 → cnC (zs j) = fwd (lowE S) S.o bb i0 j) ∧ f = !(fwdFine (lowE S) S.o bb i0)) (fun i _ => n - (intOf i).toNat)
  case atStart => exact ⟨0, _, _, Nat.zero_le _, rfl, HS0.out, fun j h => by omega, rfl⟩
  case round =>
    obtain ⟨i0, zs, f, hi0, rfl, hs, hz, hf⟩ := hrel
    have HS := Lib.hid hs
    have HZ := Lib.hid hz
    have HFl := Lib.hid hf
    have hib : (i0 : Int) + 1 ≤ 65 := by have := HN.out; omega
    obtain ⟨a0, -, -, a3⟩ := facts.out wr hs.bel
    clear hs hz hf
    by_cases hlt : i0 < n
    · have hlti : (i0 : Int) < (n : Int) := Int.ofNat_lt.2 hlt
      obtain ⟨p, hp⟩ : ∃ p, p = S.o i0 := ⟨_, rfl⟩
      have hpn : p < n := by rw [hp]; exact HP.out.1 _ hlt
      have hpi : (p : Int) < (n : Int) := Int.ofNat_lt.2 hpn
      have hov := ord_get S.o hlt
      rw [← hp] at hov
      obtain ⟨ado, rfl, -, hco⟩ := (HE.out.ro.below HS.out.bel).at_ hov
      have hbl : p < bl.length := by rw [HBl.out]; exact hpn
      have hbli : (p : Int) < (bl.length : Int) := Int.ofNat_lt.2 hbl
      obtain ⟨u, hu⟩ := some_of_lt hbl
      have hbv : (nums bl)[p]? = some (.complex .f64 u.1 u.2) := by simp [nums, hu]
      obtain ⟨adb, rfl, -, hcb⟩ := (HE.out.rb.below HS.out.bel).at_ hbv
      have hub : u = bb (S.o i0) := by rw [HBB.out, ← hp]; unfold bOf; rw [List.getD_eq_getElem?_getD, hu]; rfl
      have HU := Lib.hid hub
      have HUf := Lib.hid (HFb.out u (List.mem_of_getElem? hu))
      have HUl := Lib.hid (HLt.out u (List.mem_of_getElem? hu))
      have hcx := HS.out.cellX hlt
      have hfx := HS.out.frozenX i0
      have HS1 := Lib.hid (HS.out.put hlt HUl.out)
      have hln : (bl.length : Int) = (n : Int) := by rw [HBl.out]
      clear hp hov hu hbv hub hln hbl
      go_wp2
      go_loopw [50] (fun k wr => ∃ (k0 : Nat) (zs : Nat → C) (f : Bool), k0 ≤ i0 ∧ k = .int .i64 (k0 : Nat) ∧ SvS W0 wr n zs f ∧ (∀ j, j < i0 → cnC (zs j) = fwd (lowE S) S.o bb i0 j) ∧ cnC (zs i0) = accTo (lowE S i0) (fwd (lowE S) S.o bb i0) 0 (bb (S.o i0)) k0 ∧ f = !(fwdFine (lowE S) S.o bb i0 && accFine (lowE S i0) (fwd (lowE S) S.o bb i0) 0 (bb (S.o i0)) k0)) (fun k _ => i0 - (intOf k).toNat)
      case atStart =>
        refine ⟨0, _, _, Nat.zero_le _, rfl, HS1.out, fun j hj => ?_, ?_, ?_⟩
        · rw [putX_other (by omega)]; exact HZ.out j hj
        · rw [putX_same, ← HU.out]; exact fin_cn HUf.out
        · rw [HFl.out]; simp [accFine]
      case round =>
        obtain ⟨k0, zs, f, hk0, rfl, hs, hz, hzi, hf⟩ := hrel
        have HS := Lib.hid hs
        have HZ := Lib.hid hz
        have HZi := Lib.hid hzi
        have HFl := Lib.hid hf
        obtain ⟨a0, a1, -, -⟩ := facts.out wr hs.bel
        have hkb : (k0 : Int) + 1 ≤ 65 := by omega
        clear hs hz hzi hf
        by_cases hk : k0 < i0
        · have hki : (k0 : Int) < (i0 : Int) := Int.ofNat_lt.2 hk
          have hkn : k0 < n := by omega
          have hkni : (k0 : Int) < (n : Int) := Int.ofNat_lt.2 hkn
          have hev := ent_get (lowE S) hlt hkn
          obtain ⟨q, hq⟩ : ∃ q, q = i0 * n + k0 := ⟨_, rfl⟩
          obtain ⟨r, hr⟩ : ∃ r, r = i0 * n := ⟨_, rfl⟩
          have hr4 : r ≤ 4096 := by rw [hr]; exact prod_small (by have := HN.out; omega) HN.out
          have hqM : q < M := by
            rw [hq, HM.out]
            have h1 : (i0 + 1) * n ≤ n * n := Nat.mul_le_mul_right _ hlt
            rw [Nat.add_mul, Nat.one_mul] at h1; omega
          have hm1 : IntKind.i64.wrap ((i0 : Int) * (n : Int)) = (r : Int) := wrapI (by rw [hr, Int.natCast_mul]) (by omega)
          have hm2 : IntKind.i64.wrap ((r : Int) + (k0 : Int)) = (q : Int) := wrapI (by rw [hq, ← hr, Int.natCast_add]) (by omega)
          rw [← hq] at hev
          obtain ⟨adl, rfl, -, hcl⟩ := (HE.out.rl.below HS.out.bel).at_ hev
          have hqi : (q : Int) < (M : Int) := Int.ofNat_lt.2 hqM
          obtain ⟨lv, hlv⟩ : ∃ lv, lv = lowE S i0 k0 := ⟨_, rfl⟩
          rw [← hlv] at hcl
          have hx1 := HS.out.cellX hlt
          have hx2 := HS.out.cellX hkn
          obtain ⟨zi, hzi⟩ : ∃ zi, zi = zs i0 := ⟨_, rfl⟩
          obtain ⟨zk, hzk⟩ : ∃ zk, zk = zs k0 := ⟨_, rfl⟩
          rw [← hzi] at hx1
          rw [← hzk] at hx2
          have hval : pSub (cnC zi) (pMul (cnC lv) (cnC zk)) = accTo (lowE S i0) (fwd (lowE S) S.o bb i0) 0 (bb (S.o i0)) (k0 + 1) := by
            rw [hzi, HZi.out, hlv, fin_cn (low_fin HF.out i0 k0 hlt hkn), hzk, HZ.out k0 hk]
            show _ = pSub _ (pMul (lowE S i0 (0 + k0)) (fwd (lowE S) S.o bb i0 (0 + k0)))
            rw [Nat.zero_add]
          have HCall := Lib.hid (less_c W0.heap.size f zi lv zk wr.drew HS.out.look)
          have HPut := Lib.hid (fun (V : World) (d : Nat) (hV : V = (wr.drew.drewN d).setCell ⟨W0.heap.size, 0, none⟩ (.bool (f || !pFinite (pSub (cnC zi) (pMul (cnC lv) (cnC zk)))))) => (put_facts HS.out hlt hV).2)
          have HVal := Lib.hid hval
          clear hev hq hr hr4 hlv hzi hzk hval
          go_wp2_with fail
          refine wp_region_K 21 (by kernel_rfl) (fun V => V = wr.drew) (by kernel_rfl) (fun hsel hcl => ?_)
          refine wpAnyK_takeFree (i := 0) (v := ?va0) rfl hsel hcl (by kernel_rfl) (by kernel_rfl) rfl (fun _ _ _ h => h) rfl rfl ?hya0 (fun hcl => ?ha0)
          case hya0 => (intro w'; go_simp; first | done | with_reducible rfl)
          simp only [Act.put, List.setIfInBounds_toArray, List.set_cons_zero, List.set_cons_succ]
          refine wpAnyK_takeFree (i := 1) (v := ?va1) rfl hsel hcl (by kernel_rfl) (by kernel_rfl) rfl (fun _ _ _ h => h) rfl rfl ?hya1 (fun hcl => ?ha1)
          case hya1 => (intro w'; go_simp; first | done | with_reducible rfl)
          simp only [Act.put, List.setIfInBounds_toArray, List.set_cons_zero, List.set_cons_succ]
          refine wpAnyK_takeFree (i := 2) (v := ?va2) rfl hsel hcl (by kernel_rfl) (by kernel_rfl) rfl (fun _ _ _ h => h) rfl rfl ?hya2 (fun hcl => ?ha2)
          case hya2 => (intro w'; go_simp; first | done | with_reducible rfl)
          simp only [Act.put, List.setIfInBounds_toArray, List.set_cons_zero, List.set_cons_succ]
          refine wpAnyK_takeFree (i := 3) (v := ?va3) rfl hsel hcl (by kernel_rfl) (by kernel_rfl) rfl (fun _ _ _ h => h) rfl rfl ?hya3 (fun hcl => ?ha3)
          case hya3 => (intro w'; go_simp; first | done | with_reducible rfl)
          simp only [Act.put, List.setIfInBounds_toArray, List.set_cons_zero, List.set_cons_succ]
          refine wpAnyK_takeFree (i := 4) (v := ?va4) rfl hsel hcl (by kernel_rfl) (by kernel_rfl) rfl (fun _ _ _ h => h) rfl rfl ?hya4 (fun hcl => ?ha4)
          case hya4 => (intro w'; go_simp; first | done | with_reducible rfl)
          simp only [Act.put, List.setIfInBounds_toArray, List.set_cons_zero, List.set_cons_succ]
          refine wpAnyK_takeFree (i := 5) (v := ?va5) rfl hsel hcl (by kernel_rfl) (by kernel_rfl) rfl (fun _ _ _ h => h) rfl rfl ?hya5 (fun hcl => ?ha5)
          case hya5 => (intro w'; go_simp; first | done | with_reducible rfl)
          simp only [Act.put, List.setIfInBounds_toArray, List.set_cons_zero, List.set_cons_succ]
          refine wpAnyK_takeNeed [] (i := 6) (v := ?va6) rfl hsel hcl (by kernel_rfl) (by kernel_rfl) rfl (by decide +kernel) (fun _ _ _ h => h) rfl rfl ?hya6 (fun hcl => ?ha6)
          case hya6 => (rintro w' rfl; go_simp; first | done | with_reducible rfl)
          simp only [Act.put, List.setIfInBounds_toArray, List.set_cons_zero, List.set_cons_succ]
          refine wpAnyK_takeFree (i := 7) (v := ?va7) rfl hsel hcl (by kernel_rfl) (by kernel_rfl) rfl (fun _ _ _ h => h) rfl rfl ?hya7 (fun hcl => ?ha7)
          case hya7 => (intro w'; go_simp; first | done | with_reducible rfl)
          simp only [Act.put, List.setIfInBounds_toArray, List.set_cons_zero, List.set_cons_succ]
          refine wpAnyK_takeNeed [16, 15] (i := 8) (v := ?va8) rfl hsel hcl (by kernel_rfl) (by kernel_rfl) rfl (by decide +kernel) (fun _ _ _ h => h) rfl rfl ?hya8 (fun hcl => ?ha8)
          case hya8 => (rintro w' rfl; go_simp; first | done | with_reducible rfl)
          simp only [Act.put, List.setIfInBounds_toArray, List.set_cons_zero, List.set_cons_succ]
          refine wpAnyK_takeFree (i := 9) (v := ?va9) rfl hsel hcl (by kernel_rfl) (by kernel_rfl) rfl (fun _ _ _ h => h) rfl rfl ?hya9 (fun hcl => ?ha9)
          case hya9 => (intro w'; go_simp; first | done | with_reducible rfl)
          simp only [Act.put, List.setIfInBounds_toArray, List.set_cons_zero, List.set_cons_succ]
          refine wpAnyK_takeFree (i := 10) (v := ?va10) rfl hsel hcl (by kernel_rfl) (by kernel_rfl) rfl (fun _ _ _ h => h) rfl rfl ?hya10 (fun hcl => ?ha10)
          case hya10 => (intro w'; go_simp; first | done | with_reducible rfl)
          simp only [Act.put, List.setIfInBounds_toArray, List.set_cons_zero, List.set_cons_succ]
          refine wpAnyK_takeNeed [16, 15, 14, 12] (i := 11) (v := ?va11) rfl hsel hcl (by kernel_rfl) (by kernel_rfl) rfl (by decide +kernel) (fun _ _ _ h => h) rfl rfl ?hya11 (fun hcl => ?ha11)
          case hya11 => (rintro w' rfl; go_simp; first | done | with_reducible rfl)
          simp only [Act.put, List.setIfInBounds_toArray, List.set_cons_zero, List.set_cons_succ]
          refine wpAnyK_takeFree (i := 12) (v := ?va12) rfl hsel hcl (by kernel_rfl) (by kernel_rfl) rfl (fun _ _ _ h => h) rfl rfl ?hya12 (fun hcl => ?ha12)
          case hya12 => (intro w'; go_simp; first | done | with_reducible rfl)
          simp only [Act.put, List.setIfInBounds_toArray, List.set_cons_zero, List.set_cons_succ]
          refine wpAnyK_takeFree (i := 13) (v := ?va13) rfl hsel hcl (by kernel_rfl) (by kernel_rfl) rfl (fun _ _ _ h => h) rfl rfl ?hya13 (fun hcl => ?ha13)
          case hya13 => (intro w'; go_simp; first | done | with_reducible rfl)
          simp only [Act.put, List.setIfInBounds_toArray, List.set_cons_zero, List.set_cons_succ]
          refine wpAnyK_takeFree (i := 14) (v := ?va14) rfl hsel hcl (by kernel_rfl) (by kernel_rfl) rfl (fun _ _ _ h => h) rfl rfl ?hya14 (fun hcl => ?ha14)
          case hya14 => (intro w'; go_simp; first | done | with_reducible rfl)
          simp only [Act.put, List.setIfInBounds_toArray, List.set_cons_zero, List.set_cons_succ]
          refine wpAnyK_takeFree (i := 15) (v := ?va15) rfl hsel hcl (by kernel_rfl) (by kernel_rfl) rfl (fun _ _ _ h => h) rfl rfl ?hya15 (fun hcl => ?ha15)
          case hya15 => (intro w'; go_simp; first | done | with_reducible rfl)
          simp only [Act.put, List.setIfInBounds_toArray, List.set_cons_zero, List.set_cons_succ]
          refine wpAnyK_takeNeed [] (i := 16) (v := ?va16) rfl hsel hcl (by kernel_rfl) (by kernel_rfl) rfl (by decide +kernel) (fun _ _ _ h => h) rfl rfl ?hya16 (fun hcl => ?ha16)
          case hya16 => (rintro w' rfl; go_simp; first | done | with_reducible rfl)
          simp only [Act.put, List.setIfInBounds_toArray, List.set_cons_zero, List.set_cons_succ]
          refine wpAnyK_takeFree (i := 17) (v := ?va17) rfl hsel hcl (by kernel_rfl) (by kernel_rfl) rfl (fun _ _ _ h => h) rfl rfl ?hya17 (fun hcl => ?ha17)
          case hya17 => (intro w'; go_simp; first | done | with_reducible rfl)
          simp only [Act.put, List.setIfInBounds_toArray, List.set_cons_zero, List.set_cons_succ]
          refine wpAnyK_takeFree (i := 18) (v := ?va18) rfl hsel hcl (by kernel_rfl) (by kernel_rfl) rfl (fun _ _ _ h => h) rfl rfl ?hya18 (fun hcl => ?ha18)
          case hya18 => (intro w'; go_simp; first | done | with_reducible rfl)
          simp only [Act.put, List.setIfInBounds_toArray, List.set_cons_zero, List.set_cons_succ]
          refine wpAnyK_takeFree (i := 19) (v := ?va19) rfl hsel hcl (by kernel_rfl) (by kernel_rfl) rfl (fun _ _ _ h => h) rfl rfl ?hya19 (fun hcl => ?ha19)
          case hya19 => (intro w'; go_simp; first | done | with_reducible rfl)
          simp only [Act.put, List.setIfInBounds_toArray, List.set_cons_zero, List.set_cons_succ]
          refine wpAnyK_takeNeed [] (i := 20) (v := ?va20) rfl hsel hcl (by kernel_rfl) (by kernel_rfl) rfl (by decide +kernel) (fun _ _ _ h => h) rfl rfl ?hya20 (fun hcl => ?ha20)
          case hya20 => (rintro w' rfl; go_simp; first | done | with_reducible rfl)
          simp only [Act.put, List.setIfInBounds_toArray, List.set_cons_zero, List.set_cons_succ]
          refine wpAnyK_store (st := 21) rfl (by decide +kernel) rfl ?_
          go_simp
          refine HCall.out.mono ?_
          rintro e V ⟨z, d, rfl, hz, lz, hV⟩
          have HVe := Lib.hid hV
          obtain ⟨hcx, hfx⟩ := HPut.out V d hV
          clear hV
          refine wpAny_one (i := 22) rfl (by decide +kernel) rfl ?_
          go_simp
          refine wpAny_one (i := 23) rfl (by decide +kernel) rfl ?_
          go_simp
          refine wpAny_done (by decide +kernel) ?_ _
          all_goals
            have HV' := Lib.hid (put_facts HS.out hlt HVe.out).1
            have HZz := Lib.hid hz
            have HLz := Lib.hid lz
            clear hz lz hcx hfx hx1 hx2 hcl
            go_wp2
            go_roundw
            case rel =>
              refine ⟨k0 + 1, putX zs i0 z, _, hk, by go_num, HV'.out.put hlt HLz.out, fun j hj => ?_, ?_, ?_⟩
              · rw [putX_other (by omega)]; exact HZ.out j hj
              · rw [putX_same, HZz.out]; exact HVal.out
              · rw [HVal.out, HFl.out, not_or, Bool.and_assoc]; rfl
            case measure => simp [intOf]; omega
        · have e : k0 = i0 := by omega
          subst e
          clear a1
          go_wp2
          go_roundw
          case rel =>
            refine ⟨k0 + 1, zs, f, hlt, by go_num, HS.out, fun j hj => ?_, HFl.out⟩
            by_cases ej : j = k0
            · subst ej; rw [fwd, putX_same]; exact HZi.out
            · rw [fwd, putX_other ej]; exact HZ.out j (by omega)
          case measure => simp [intOf]; omega
    · have e : n = i0 := by omega
      subst e
      obtain ⟨Y, hY⟩ : ∃ Y, Y = fwd (lowE S) S.o bb n := ⟨_, rfl⟩
      obtain ⟨g0, hg0⟩ : ∃ g0, g0 = fwdFine (lowE S) S.o bb n := ⟨_, rfl⟩
      rw [← hY] at HZ
      rw [← hg0] at HFl
      have HSol := Lib.hid (show (solOk n S bl = (g0 && bwdFine (uppE S) n Y n)) ∧ solL n S bl = (List.range n).map (bwd (uppE S) n Y n) by
        rw [hg0, hY, HBB.out]; exact ⟨rfl, rfl⟩)
      clear hY hg0 a3
      go_wp2
      go_loopw [13] (fun i wr => ∃ (j : Nat) (zs : Nat → C) (f : Bool), j ≤ n ∧ i = .int .i64 ((n : Int) - 1 - (j : Int)) ∧ SvS W0 wr n zs f ∧ (∀ q, q < n → cnC (zs q) = bwd (uppE S) n Y j q) ∧ f = !(g0 && bwdFine (uppE S) n Y j)) (fun i _ => (intOf i + 1).toNat)
      case atStart => exact ⟨0, zs, f, Nat.zero_le _, by go_num, HS.out, HZ.out, by rw [HFl.out]; simp [bwdFine]⟩
      case round =>
        obtain ⟨j, zs, f, hj, rfl, hs, hz, hf⟩ := hrel
        have HS := Lib.hid hs
        have HZ := Lib.hid hz
        have HFl := Lib.hid hf
        obtain ⟨a0, -, -, -⟩ := facts.out wr hs.bel
        have hn65 : (n : Int) ≤ 64 := by have := HN.out; omega
        clear hs hz hf
        by_cases hlt : j < n
        · obtain ⟨i, hi⟩ : ∃ i : Nat, i = n - 1 - j := ⟨_, rfl⟩
          have hii : (n : Int) - 1 - (j : Int) = (i : Int) := by omega
          have hin : i < n := by omega
          have hini : (i : Int) < (n : Int) := Int.ofNat_lt.2 hin
          have hi1 : n - j = i + 1 := by omega
          have hij : i + 1 + j = n := by omega
          have HI := Lib.hid hi
          have HI1 := Lib.hid hi1
          have HIJ := Lib.hid hij
          have hib : (i : Int) + 1 ≤ 65 := by omega
          rw [hii]
          clear hi hi1 hii hij
          go_wp2
          go_loopw [14] (fun k wr => ∃ (m : Nat) (zs : Nat → C) (f : Bool), m ≤ j ∧ k = .int .i64 ((i + 1 + m : Nat) : Int) ∧ SvS W0 wr n zs f ∧ (∀ q, q < n → q ≠ i → cnC (zs q) = bwd (uppE S) n Y j q) ∧ cnC (zs i) = accTo (uppE S i) (bwd (uppE S) n Y j) (i + 1) (bwd (uppE S) n Y j i) m ∧ f = !(g0 && (bwdFine (uppE S) n Y j && accFine (uppE S i) (bwd (uppE S) n Y j) (i + 1) (bwd (uppE S) n Y j i) m))) (fun k _ => n - (intOf k).toNat)
          case atStart => exact ⟨0, zs, f, Nat.zero_le _, by go_num, HS.out, fun q hq _ => HZ.out q hq, HZ.out i hin, by rw [HFl.out]; simp [accFine]⟩
          case round =>
            obtain ⟨m, zs, f, hm, rfl, hs, hz, hzi, hf⟩ := hrel
            have HS := Lib.hid hs
            have HZ := Lib.hid hz
            have HZi := Lib.hid hzi
            have HFl := Lib.hid hf
            obtain ⟨a0, -, a2, -⟩ := facts.out wr hs.bel
            clear hs hz hzi hf
            have hcx := HS.out.cellX hin
            have hfx := HS.out.frozenX i
            obtain ⟨r, hr⟩ : ∃ r, r = i * n := ⟨_, rfl⟩
            have hr4 : r ≤ 4096 := by rw [hr]; exact prod_small (by omega) (by omega)
            have hm1 : IntKind.i64.wrap ((i : Int) * (n : Int)) = (r : Int) := wrapI (by rw [hr, Int.natCast_mul]) (by omega)
            have hrn : r + n ≤ M := by
              rw [hr, HM.out]
              have h1 : (i + 1) * n ≤ n * n := Nat.mul_le_mul_right _ hin
              rw [Nat.add_mul, Nat.one_mul] at h1; exact h1
            by_cases hk : m < j
            · obtain ⟨k, hk'⟩ : ∃ k, k = i + 1 + m := ⟨_, rfl⟩
              rw [← hk']
              have hkn : k < n := by have := HIJ.out; omega
              have hkni : (k : Int) < (n : Int) := Int.ofNat_lt.2 hkn
              have hkb : (k : Int) + 1 ≤ 65 := by omega
              have hki : k ≠ i := by omega
              have hev := ent_get (uppE S) hin hkn
              obtain ⟨q, hq⟩ : ∃ q, q = i * n + k := ⟨_, rfl⟩
              have hqM : q < M := by rw [hq, ← hr]; omega
              have hm2 : IntKind.i64.wrap ((r : Int) + (k : Int)) = (q : Int) := wrapI (by rw [hq, ← hr, Int.natCast_add]) (by omega)
              rw [← hq] at hev
              obtain ⟨adl, rfl, -, hcl⟩ := (HE.out.ru.below HS.out.bel).at_ hev
              have hqi : (q : Int) < (M : Int) := Int.ofNat_lt.2 hqM
              obtain ⟨lv, hlv⟩ : ∃ lv, lv = uppE S i k := ⟨_, rfl⟩
              rw [← hlv] at hcl
              have hx2 := HS.out.cellX hkn
              obtain ⟨zi, hzi⟩ : ∃ zi, zi = zs i := ⟨_, rfl⟩
              obtain ⟨zk, hzk⟩ : ∃ zk, zk = zs k := ⟨_, rfl⟩
              rw [← hzk] at hx2
              have hx1 := hcx
              rw [← hzi] at hx1
              have hval : pSub (cnC zi) (pMul (cnC lv) (cnC zk)) = accTo (uppE S i) (bwd (uppE S) n Y j) (i + 1) (bwd (uppE S) n Y j i) (m + 1) := by
                rw [hzi, HZi.out, hlv, fin_cn (upp_fin HF.out i k hin hkn), hzk, HZ.out k hkn hki, hk']
                rfl
              have HCall := Lib.hid (less_c W0.heap.size f zi lv zk wr.drew HS.out.look)
              have HPut := Lib.hid (fun (V : World) (d : Nat) (hV : V = (wr.drew.drewN d).setCell ⟨W0.heap.size, 0, none⟩ (.bool (f || !pFinite (pSub (cnC zi) (pMul (cnC lv) (cnC zk)))))) => (put_facts HS.out hin hV).2)
              have HVal := Lib.hid hval
              have HK := Lib.hid hk'
              clear hev hq hr hr4 hlv hzi hzk hval hk' hcx
              go_wp2_with fail
              refine wp_region_K 21 (by kernel_rfl) (fun V => V = wr.drew) (by kernel_rfl) (fun hsel hcl => ?_)
              refine wpAnyK_takeFree (i := 0) (v := ?vb0) rfl hsel hcl (by kernel_rfl) (by kernel_rfl) rfl (fun _ _ _ h => h) rfl rfl ?hyb0 (fun hcl => ?hb0)
              case hyb0 => (intro w'; go_simp; first | done | with_reducible rfl)
              simp only [Act.put, List.setIfInBounds_toArray, List.set_cons_zero, List.set_cons_succ]
              refine wpAnyK_takeFree (i := 1) (v := ?vb1) rfl hsel hcl (by kernel_rfl) (by kernel_rfl) rfl (fun _ _ _ h => h) rfl rfl ?hyb1 (fun hcl => ?hb1)
              case hyb1 => (intro w'; go_simp; first | done | with_reducible rfl)
              simp only [Act.put, List.setIfInBounds_toArray, List.set_cons_zero, List.set_cons_succ]
              refine wpAnyK_takeFree (i := 2) (v := ?vb2) rfl hsel hcl (by kernel_rfl) (by kernel_rfl) rfl (fun _ _ _ h => h) rfl rfl ?hyb2 (fun hcl => ?hb2)
              case hyb2 => (intro w'; go_simp; first | done | with_reducible rfl)
              simp only [Act.put, List.setIfInBounds_toArray, List.set_cons_zero, List.set_cons_succ]
              refine wpAnyK_takeFree (i := 3) (v := ?vb3) rfl hsel hcl (by kernel_rfl) (by kernel_rfl) rfl (fun _ _ _ h => h) rfl rfl ?hyb3 (fun hcl => ?hb3)
              case hyb3 => (intro w'; go_simp; first | done | with_reducible rfl)
              simp only [Act.put, List.setIfInBounds_toArray, List.set_cons_zero, List.set_cons_succ]
              refine wpAnyK_takeFree (i := 4) (v := ?vb4) rfl hsel hcl (by kernel_rfl) (by kernel_rfl) rfl (fun _ _ _ h => h) rfl rfl ?hyb4 (fun hcl => ?hb4)
              case hyb4 => (intro w'; go_simp; first | done | with_reducible rfl)
              simp only [Act.put, List.setIfInBounds_toArray, List.set_cons_zero, List.set_cons_succ]
              refine wpAnyK_takeFree (i := 5) (v := ?vb5) rfl hsel hcl (by kernel_rfl) (by kernel_rfl) rfl (fun _ _ _ h => h) rfl rfl ?hyb5 (fun hcl => ?hb5)
              case hyb5 => (intro w'; go_simp; first | done | with_reducible rfl)
              simp only [Act.put, List.setIfInBounds_toArray, List.set_cons_zero, List.set_cons_succ]
              refine wpAnyK_takeNeed [] (i := 6) (v := ?vb6) rfl hsel hcl (by kernel_rfl) (by kernel_rfl) rfl (by decide +kernel) (fun _ _ _ h => h) rfl rfl ?hyb6 (fun hcl => ?hb6)
              case hyb6 => (rintro w' rfl; go_simp; first | done | with_reducible rfl)
              simp only [Act.put, List.setIfInBounds_toArray, List.set_cons_zero, List.set_cons_succ]
              refine wpAnyK_takeFree (i := 7) (v := ?vb7) rfl hsel hcl (by kernel_rfl) (by kernel_rfl) rfl (fun _ _ _ h => h) rfl rfl ?hyb7 (fun hcl => ?hb7)
              case hyb7 => (intro w'; go_simp; first | done | with_reducible rfl)
              simp only [Act.put, List.setIfInBounds_toArray, List.set_cons_zero, List.set_cons_succ]
              refine wpAnyK_takeNeed [16, 15] (i := 8) (v := ?vb8) rfl hsel hcl (by kernel_rfl) (by kernel_rfl) rfl (by decide +kernel) (fun _ _ _ h => h) rfl rfl ?hyb8 (fun hcl => ?hb8)
              case hyb8 => (rintro w' rfl; go_simp; first | done | with_reducible rfl)
              simp only [Act.put, List.setIfInBounds_toArray, List.set_cons_zero, List.set_cons_succ]
              refine wpAnyK_takeFree (i := 9) (v := ?vb9) rfl hsel hcl (by kernel_rfl) (by kernel_rfl) rfl (fun _ _ _ h => h) rfl rfl ?hyb9 (fun hcl => ?hb9)
              case hyb9 => (intro w'; go_simp; first | done | with_reducible rfl)
              simp only [Act.put, List.setIfInBounds_toArray, List.set_cons_zero, List.set_cons_succ]
              refine wpAnyK_takeFree (i := 10) (v := ?vb10) rfl hsel hcl (by kernel_rfl) (by kernel_rfl) rfl (fun _ _ _ h => h) rfl rfl ?hyb10 (fun hcl => ?hb10)
              case hyb10 => (intro w'; go_simp; first | done | with_reducible rfl)
              simp only [Act.put, List.setIfInBounds_toArray, List.set_cons_zero, List.set_cons_succ]
              refine wpAnyK_takeNeed [16, 15, 14, 12] (i := 11) (v := ?vb11) rfl hsel hcl (by kernel_rfl) (by kernel_rfl) rfl (by decide +kernel) (fun _ _ _ h => h) rfl rfl ?hyb11 (fun hcl => ?hb11)
              case hyb11 => (rintro w' rfl; go_simp; first | done | with_reducible rfl)
              simp only [Act.put, List.setIfInBounds_toArray, List.set_cons_zero, List.set_cons_succ]
              refine wpAnyK_takeFree (i := 12) (v := ?vb12) rfl hsel hcl (by kernel_rfl) (by kernel_rfl) rfl (fun _ _ _ h => h) rfl rfl ?hyb12 (fun hcl => ?hb12)
              case hyb12 => (intro w'; go_simp; first | done | with_reducible rfl)
              simp only [Act.put, List.setIfInBounds_toArray, List.set_cons_zero, List.set_cons_succ]
              refine wpAnyK_takeFree (i := 13) (v := ?vb13) rfl hsel hcl (by kernel_rfl) (by kernel_rfl) rfl (fun _ _ _ h => h) rfl rfl ?hyb13 (fun hcl => ?hb13)
              case hyb13 => (intro w'; go_simp; first | done | with_reducible rfl)
              simp only [Act.put, List.setIfInBounds_toArray, List.set_cons_zero, List.set_cons_succ]
              refine wpAnyK_takeFree (i := 14) (v := ?vb14) rfl hsel hcl (by kernel_rfl) (by kernel_rfl) rfl (fun _ _ _ h => h) rfl rfl ?hyb14 (fun hcl => ?hb14)
              case hyb14 => (intro w'; go_simp; first | done | with_reducible rfl)
              simp only [Act.put, List.setIfInBounds_toArray, List.set_cons_zero, List.set_cons_succ]
              refine wpAnyK_takeFree (i := 15) (v := ?vb15) rfl hsel hcl (by kernel_rfl) (by kernel_rfl) rfl (fun _ _ _ h => h) rfl rfl ?hyb15 (fun hcl => ?hb15)
              case hyb15 => (intro w'; go_simp; first | done | with_reducible rfl)
              simp only [Act.put, List.setIfInBounds_toArray, List.set_cons_zero, List.set_cons_succ]
              refine wpAnyK_takeNeed [] (i := 16) (v := ?vb16) rfl hsel hcl (by kernel_rfl) (by kernel_rfl) rfl (by decide +kernel) (fun _ _ _ h => h) rfl rfl ?hyb16 (fun hcl => ?hb16)
              case hyb16 => (rintro w' rfl; go_simp; first | done | with_reducible rfl)
              simp only [Act.put, List.setIfInBounds_toArray, List.set_cons_zero, List.set_cons_succ]
              refine wpAnyK_takeFree (i := 17) (v := ?vb17) rfl hsel hcl (by kernel_rfl) (by kernel_rfl) rfl (fun _ _ _ h => h) rfl rfl ?hyb17 (fun hcl => ?hb17)
              case hyb17 => (intro w'; go_simp; first | done | with_reducible rfl)
              simp only [Act.put, List.setIfInBounds_toArray, List.set_cons_zero, List.set_cons_succ]
              refine wpAnyK_takeFree (i := 18) (v := ?vb18) rfl hsel hcl (by kernel_rfl) (by kernel_rfl) rfl (fun _ _ _ h => h) rfl rfl ?hyb18 (fun hcl => ?hb18)
              case hyb18 => (intro w'; go_simp; first | done | with_reducible rfl)
              simp only [Act.put, List.setIfInBounds_toArray, List.set_cons_zero, List.set_cons_succ]
              refine wpAnyK_takeFree (i := 19) (v := ?vb19) rfl hsel hcl (by kernel_rfl) (by kernel_rfl) rfl (fun _ _ _ h => h) rfl rfl ?hyb19 (fun hcl => ?hb19)
              case hyb19 => (intro w'; go_simp; first | done | with_reducible rfl)
              simp only [Act.put, List.setIfInBounds_toArray, List.set_cons_zero, List.set_cons_succ]
              refine wpAnyK_takeNeed [] (i := 20) (v := ?vb20) rfl hsel hcl (by kernel_rfl) (by kernel_rfl) rfl (by decide +kernel) (fun _ _ _ h => h) rfl rfl ?hyb20 (fun hcl => ?hb20)
              case hyb20 => (rintro w' rfl; go_simp; first | done | with_reducible rfl)
              simp only [Act.put, List.setIfInBounds_toArray, List.set_cons_zero, List.set_cons_succ]
              refine wpAnyK_store (st := 21) rfl (by decide +kernel) rfl ?_
              go_simp
              refine HCall.out.mono ?_
              rintro e V ⟨z, d, rfl, hz, lz, hV⟩
              have HVe := Lib.hid hV
              obtain ⟨hcx, hfx⟩ := HPut.out V d hV
              clear hV
              refine wpAny_one (i := 22) rfl (by decide +kernel) rfl ?_
              go_simp
              refine wpAny_one (i := 23) rfl (by decide +kernel) rfl ?_
              go_simp
              refine wpAny_done (by decide +kernel) ?_ _
              all_goals
                have HV' := Lib.hid (put_facts HS.out hin HVe.out).1
                have HZz := Lib.hid hz
                have HLz := Lib.hid lz
                clear hz lz hcx hfx hx1 hx2 hcl
                go_wp2
                go_roundw
                case rel =>
                  refine ⟨m + 1, putX zs i z, _, hk, by rw [HK.out]; go_num, HV'.out.put hin HLz.out, fun q hq hne => ?_, ?_, ?_⟩
                  · rw [putX_other hne]; exact HZ.out q hq hne
                  · rw [putX_same, HZz.out]; exact HVal.out
                  · rw [HVal.out, HFl.out, not_or, Bool.and_assoc, Bool.and_assoc]; rfl
                case measure => have := HK.out; simp [intOf]; omega
            · have e : m = j := by omega
              subst e
              rw [HIJ.out]
              have hev := ent_get (uppE S) hin hin
              obtain ⟨q, hq⟩ : ∃ q, q = i * n + i := ⟨_, rfl⟩
              have hqM : q < M := by rw [hq, ← hr]; omega
              have hm2 : IntKind.i64.wrap ((r : Int) + (i : Int)) = (q : Int) := wrapI (by rw [hq, ← hr, Int.natCast_add]) (by omega)
              rw [← hq] at hev
              obtain ⟨adl, rfl, -, hcl⟩ := (HE.out.ru.below HS.out.bel).at_ hev
              have hqi : (q : Int) < (M : Int) := Int.ofNat_lt.2 hqM
              obtain ⟨lv, hlv⟩ : ∃ lv, lv = uppE S i i := ⟨_, rfl⟩
              rw [← hlv] at hcl
              obtain ⟨zi, hzi⟩ : ∃ zi, zi = zs i := ⟨_, rfl⟩
              have hx1 := hcx
              rw [← hzi] at hx1
              have hlvl : ltC lv := by
                rw [hlv]; exact upp_lt HLtS.out hin
              have hval : pDiv (cnC zi) (cnC lv) = pDiv (bwdRow (uppE S) n (bwd (uppE S) n Y m) m) (uppE S (n - 1 - m) (n - 1 - m)) := by
                unfold bwdRow
                rw [hzi, HZi.out, hlv, fin_cn (upp_fin HF.out i i hin hin), ← HI.out, HI1.out]
              have HCall := Lib.hid (by_c W0.heap.size f zi lv wr.drew HS.out.look hlvl)
              have HPut := Lib.hid (fun (V : World) (d : Nat) (hV : V = (wr.drew.drewN d).setCell ⟨W0.heap.size, 0, none⟩ (.bool (f || !pFinite (pDiv (cnC zi) (cnC lv))))) => (put_facts HS.out hin hV).2)
              have HVal := Lib.hid hval
              clear hev hq hr hr4 hlv hzi hval hcx hlvl
              go_wp2_with fail
              refine wp_region_K 17 (by kernel_rfl) (fun V => V = wr.drew) (by kernel_rfl) (fun hsel hcl => ?_)
              refine wpAnyK_takeFree (i := 0) (v := ?vc0) rfl hsel hcl (by kernel_rfl) (by kernel_rfl) rfl (fun _ _ _ h => h) rfl rfl ?hyc0 (fun hcl => ?hc0)
              case hyc0 => (intro w'; go_simp; first | done | with_reducible rfl)
              simp only [Act.put, List.setIfInBounds_toArray, List.set_cons_zero, List.set_cons_succ]
              refine wpAnyK_takeFree (i := 1) (v := ?vc1) rfl hsel hcl (by kernel_rfl) (by kernel_rfl) rfl (fun _ _ _ h => h) rfl rfl ?hyc1 (fun hcl => ?hc1)
              case hyc1 => (intro w'; go_simp; first | done | with_reducible rfl)
              simp only [Act.put, List.setIfInBounds_toArray, List.set_cons_zero, List.set_cons_succ]
              refine wpAnyK_takeFree (i := 2) (v := ?vc2) rfl hsel hcl (by kernel_rfl) (by kernel_rfl) rfl (fun _ _ _ h => h) rfl rfl ?hyc2 (fun hcl => ?hc2)
              case hyc2 => (intro w'; go_simp; first | done | with_reducible rfl)
              simp only [Act.put, List.setIfInBounds_toArray, List.set_cons_zero, List.set_cons_succ]
              refine wpAnyK_takeFree (i := 3) (v := ?vc3) rfl hsel hcl (by kernel_rfl) (by kernel_rfl) rfl (fun _ _ _ h => h) rfl rfl ?hyc3 (fun hcl => ?hc3)
              case hyc3 => (intro w'; go_simp; first | done | with_reducible rfl)
              simp only [Act.put, List.setIfInBounds_toArray, List.set_cons_zero, List.set_cons_succ]
              refine wpAnyK_takeFree (i := 4) (v := ?vc4) rfl hsel hcl (by kernel_rfl) (by kernel_rfl) rfl (fun _ _ _ h => h) rfl rfl ?hyc4 (fun hcl => ?hc4)
              case hyc4 => (intro w'; go_simp; first | done | with_reducible rfl)
              simp only [Act.put, List.setIfInBounds_toArray, List.set_cons_zero, List.set_cons_succ]
              refine wpAnyK_takeFree (i := 5) (v := ?vc5) rfl hsel hcl (by kernel_rfl) (by kernel_rfl) rfl (fun _ _ _ h => h) rfl rfl ?hyc5 (fun hcl => ?hc5)
              case hyc5 => (intro w'; go_simp; first | done | with_reducible rfl)
              simp only [Act.put, List.setIfInBounds_toArray, List.set_cons_zero, List.set_cons_succ]
              refine wpAnyK_takeNeed [] (i := 6) (v := ?vc6) rfl hsel hcl (by kernel_rfl) (by kernel_rfl) rfl (by decide +kernel) (fun _ _ _ h => h) rfl rfl ?hyc6 (fun hcl => ?hc6)
              case hyc6 => (rintro w' rfl; go_simp; first | done | with_reducible rfl)
              simp only [Act.put, List.setIfInBounds_toArray, List.set_cons_zero, List.set_cons_succ]
              refine wpAnyK_takeFree (i := 7) (v := ?vc7) rfl hsel hcl (by kernel_rfl) (by kernel_rfl) rfl (fun _ _ _ h => h) rfl rfl ?hyc7 (fun hcl => ?hc7)
              case hyc7 => (intro w'; go_simp; first | done | with_reducible rfl)
              simp only [Act.put, List.setIfInBounds_toArray, List.set_cons_zero, List.set_cons_succ]
              refine wpAnyK_takeNeed [16, 15] (i := 8) (v := ?vc8) rfl hsel hcl (by kernel_rfl) (by kernel_rfl) rfl (by decide +kernel) (fun _ _ _ h => h) rfl rfl ?hyc8 (fun hcl => ?hc8)
              case hyc8 => (rintro w' rfl; go_simp; first | done | with_reducible rfl)
              simp only [Act.put, List.setIfInBounds_toArray, List.set_cons_zero, List.set_cons_succ]
              refine wpAnyK_takeFree (i := 9) (v := ?vc9) rfl hsel hcl (by kernel_rfl) (by kernel_rfl) rfl (fun _ _ _ h => h) rfl rfl ?hyc9 (fun hcl => ?hc9)
              case hyc9 => (intro w'; go_simp; first | done | with_reducible rfl)
              simp only [Act.put, List.setIfInBounds_toArray, List.set_cons_zero, List.set_cons_succ]
              refine wpAnyK_takeFree (i := 10) (v := ?vc10) rfl hsel hcl (by kernel_rfl) (by kernel_rfl) rfl (fun _ _ _ h => h) rfl rfl ?hyc10 (fun hcl => ?hc10)
              case hyc10 => (intro w'; go_simp; first | done | with_reducible rfl)
              simp only [Act.put, List.setIfInBounds_toArray, List.set_cons_zero, List.set_cons_succ]
              refine wpAnyK_takeNeed [16, 15, 14, 12] (i := 11) (v := ?vc11) rfl hsel hcl (by kernel_rfl) (by kernel_rfl) rfl (by decide +kernel) (fun _ _ _ h => h) rfl rfl ?hyc11 (fun hcl => ?hc11)
              case hyc11 => (rintro w' rfl; go_simp; first | done | with_reducible rfl)
              simp only [Act.put, List.setIfInBounds_toArray, List.set_cons_zero, List.set_cons_succ]
              refine wpAnyK_takeFree (i := 12) (v := ?vc12) rfl hsel hcl (by kernel_rfl) (by kernel_rfl) rfl (fun _ _ _ h => h) rfl rfl ?hyc12 (fun hcl => ?hc12)
              case hyc12 => (intro w'; go_simp; first | done | with_reducible rfl)
              simp only [Act.put, List.setIfInBounds_toArray, List.set_cons_zero, List.set_cons_succ]
              refine wpAnyK_takeFree (i := 13) (v := ?vc13) rfl hsel hcl (by kernel_rfl) (by kernel_rfl) rfl (fun _ _ _ h => h) rfl rfl ?hyc13 (fun hcl => ?hc13)
              case hyc13 => (intro w'; go_simp; first | done | with_reducible rfl)
              simp only [Act.put, List.setIfInBounds_toArray, List.set_cons_zero, List.set_cons_succ]
              refine wpAnyK_takeFree (i := 14) (v := ?vc14) rfl hsel hcl (by kernel_rfl) (by kernel_rfl) rfl (fun _ _ _ h => h) rfl rfl ?hyc14 (fun hcl => ?hc14)
              case hyc14 => (intro w'; go_simp; first | done | with_reducible rfl)
              simp only [Act.put, List.setIfInBounds_toArray, List.set_cons_zero, List.set_cons_succ]
              refine wpAnyK_takeFree (i := 15) (v := ?vc15) rfl hsel hcl (by kernel_rfl) (by kernel_rfl) rfl (fun _ _ _ h => h) rfl rfl ?hyc15 (fun hcl => ?hc15)
              case hyc15 => (intro w'; go_simp; first | done | with_reducible rfl)
              simp only [Act.put, List.setIfInBounds_toArray, List.set_cons_zero, List.set_cons_succ]
              refine wpAnyK_takeNeed [] (i := 16) (v := ?vc16) rfl hsel hcl (by kernel_rfl) (by kernel_rfl) rfl (by decide +kernel) (fun _ _ _ h => h) rfl rfl ?hyc16 (fun hcl => ?hc16)
              case hyc16 => (rintro w' rfl; go_simp; first | done | with_reducible rfl)
              simp only [Act.put, List.setIfInBounds_toArray, List.set_cons_zero, List.set_cons_succ]
              refine wpAnyK_store (st := 17) rfl (by decide +kernel) rfl ?_
              go_simp
              refine HCall.out.mono ?_
              rintro e V ⟨z, d, rfl, hz, lz, hV⟩
              have HVe := Lib.hid hV
              obtain ⟨hcx, hfx⟩ := HPut.out V d hV
              clear hV
              refine wpAny_one (i := 18) rfl (by decide +kernel) rfl ?_
              go_simp
              refine wpAny_one (i := 19) rfl (by decide +kernel) rfl ?_
              go_simp
              refine wpAny_done (by decide +kernel) ?_ _
              all_goals
                have HV' := Lib.hid (put_facts HS.out hin HVe.out).1
                have HZz := Lib.hid hz
                have HLz := Lib.hid lz
                clear hz lz hcx hfx hx1 hcl
                go_wp2
                go_roundw
                case rel =>
                  refine ⟨m + 1, putX zs i z, _, hlt, by have := HI.out; go_num, HV'.out.put hin HLz.out, fun q hq => ?_, ?_⟩
                  · show _ = putX (bwd (uppE S) n Y m) (n - 1 - m) _ q
                    rw [← HI.out]
                    by_cases eq : q = i
                    · subst eq; rw [putX_same, putX_same, HZz.out, HVal.out, ← HI.out]
                    · rw [putX_other eq, putX_other eq]; exact HZ.out q hq eq
                  · rw [HVal.out, HFl.out, not_or]
                    show _ = !(g0 && (bwdFine (uppE S) n Y m && accFine (uppE S (n - 1 - m)) (bwd (uppE S) n Y m) (n - m) (bwd (uppE S) n Y m (n - 1 - m)) m && pFinite _))
                    rw [← HI.out, HI1.out, Bool.and_assoc]
                case measure => simp [intOf]
        · have e : j = n := by omega
          subst e
          obtain ⟨so, hso⟩ : ∃ so, so = solOk j S bl := ⟨_, rfl⟩
          have hfo : f = !so := HFl.out.trans (by rw [hso]; exact congrArg (fun b => !b) HSol.out.1.symm)
          have hlk := HS.out.look
          have hl0 : wr.cell? ⟨W0.heap.size, 0, none⟩ = some (.bool f) := by rw [cell_of_row wr W0.heap.size 0 _ _ _ hlk]; rfl
          have hneg : ((j : Int) - 1 - (j : Int)) = -1 := by omega
          rw [hneg]
          rw [hfo] at hl0
          have HBe := Lib.hid (B0.out.trans (HS.out.bel.mono B0.out.size))
          have HSo := Lib.hid hso
          clear hso hfo hlk hneg
          cases so
          · go_wp2
            go_ret2
            rw [HEr.out, HRs.out, ← HSo.out]
            exact ⟨_, rfl, World.ownsRow_nil _ _ _ _, HBe.out⟩
          · have hx : (List.range j).map zs = solL j S bl := by
              rw [HSol.out.2]
              refine List.map_congr_left fun q hq => ?_
              have hq := List.mem_range.1 hq
              have hfi : pFinite (bwd (uppE S) j Y j q) = true := by
                have h := sol_fin (show solFine (lowE S) (uppE S) S.o (bOf bl) j = true from HSo.out.symm) q hq
                have e := congrArg (fun l : List C => l[q]?) HSol.out.2
                simp only [solL, List.getElem?_map, List.getElem?_range hq, Option.map_some, Option.some.injEq] at e
                rw [← e]; exact h
              exact like.fin (.inr (HZ.out q hq)) hfi
            have HX := Lib.hid hx
            clear hx
            go_wp2
            go_ret2
            rw [HEr.out, HRs.out, ← HSo.out]
            refine ⟨_, rfl, ?_, HBe.out⟩
            show World.ownsRow _ _ _ _ _ (solL j S bl).length (nums (solL j S bl))
            have hxx := HS.out.x
            rw [HX.out] at hxx
            have hll : (solL j S bl).length = j := by simp [solL]
            have hj64 := HN.out
            exact ⟨by simp [nums], .inr ⟨W0.heap.size + 1, j, _, by simp [hll], Nat.le_trans B0.out.size (Nat.le_succ _), hxx, by omega, by unfold maxLen; omega, by simp [nums, hll], by simp [nums, hll]; exact List.take_of_length_le (by simp [hll])⟩⟩
end Go.Proofs.YtandllekeimpgaaGreat
