/- Layer 10 as plain functions: what is unknown, by rows downward, then upward; in a mirror. -/
import Derived.Test.YtibjkmjccelcaaaReg
import Derived.Test.YtibjkmjccelcaaaMX1
import Derived.Test.YtibjkmjccelcaaaExt
import Derived.Test.YtibjkmjccelcaaaLW3
import Derived.Deep.RegionHeld3
import Derived.Deep.DeepCutAuto
import Derived.BigRegion
namespace Fl
open Ieee Go
/-- s less m products. -/
def accTo (M X : Nat → C) (k0 : Nat) (s : C) : Nat → C
  | 0 => s
  | m + 1 => pSub (accTo M X k0 s m) (pMul (M (k0 + m)) (X (k0 + m)))
def accFine (M X : Nat → C) (k0 : Nat) (s : C) : Nat → Bool
  | 0 => true
  | m + 1 => accFine M X k0 s m && pFinite (accTo M X k0 s (m + 1))
def putX (X : Nat → C) (i : Nat) (z : C) : Nat → C := fun j => if j = i then z else X j
theorem putX_same (X : Nat → C) (i : Nat) (z : C) : putX X i z i = z := if_pos rfl
theorem putX_other {X : Nat → C} {i j : Nat} {z : C} (h : j ≠ i) : putX X i z j = X j := if_neg h
/-- Downward, i rows. -/
def fwd (Lo : Nat → Nat → C) (o : Nat → Nat) (b : Nat → C) : Nat → Nat → C
  | 0 => fun _ => (0, 0)
  | i + 1 => putX (fwd Lo o b i) i (accTo (Lo i) (fwd Lo o b i) 0 (b (o i)) i)
def fwdFine (Lo : Nat → Nat → C) (o : Nat → Nat) (b : Nat → C) : Nat → Bool
  | 0 => true
  | i + 1 => fwdFine Lo o b i && accFine (Lo i) (fwd Lo o b i) 0 (b (o i)) i
/-- Upward, j rows from the last one. -/
def bwdRow (Up : Nat → Nat → C) (n : Nat) (X : Nat → C) (j : Nat) : C := accTo (Up (n - 1 - j)) X (n - j) (X (n - 1 - j)) j
def bwd (Up : Nat → Nat → C) (n : Nat) (Y : Nat → C) : Nat → Nat → C
  | 0 => Y
  | j + 1 => putX (bwd Up n Y j) (n - 1 - j) (pDiv (bwdRow Up n (bwd Up n Y j) j) (Up (n - 1 - j) (n - 1 - j)))
def bwdFine (Up : Nat → Nat → C) (n : Nat) (Y : Nat → C) : Nat → Bool
  | 0 => true
  | j + 1 => bwdFine Up n Y j && accFine (Up (n - 1 - j)) (bwd Up n Y j) (n - j) (bwd Up n Y j (n - 1 - j)) j && pFinite (pDiv (bwdRow Up n (bwd Up n Y j) j) (Up (n - 1 - j) (n - 1 - j)))
/-- The unknowns; is all that is stored finite? -/
def solX (Lo Up : Nat → Nat → C) (o : Nat → Nat) (b : Nat → C) (n : Nat) : Nat → C := bwd Up n (fwd Lo o b n) n
def solFine (Lo Up : Nat → Nat → C) (o : Nat → Nat) (b : Nat → C) (n : Nat) : Bool := fwdFine Lo o b n && bwdFine Up n (fwd Lo o b n) n
theorem acc_mir {M M' X X' : Nat → C} {k0 : Nat} {s s' : C} (hs : Mr s s') : ∀ m, (∀ k, k0 ≤ k → k < k0 + m → Mr (M k) (M' k) ∧ Mr (X k) (X' k)) →
    Mr (accTo M X k0 s m) (accTo M' X' k0 s' m) ∧ accFine M' X' k0 s' m = accFine M X k0 s m
  | 0, _ => ⟨hs, rfl⟩
  | m + 1, h => by
    obtain ⟨h1, h2⟩ := acc_mir hs m (fun k a b => h k a (by omega))
    have hk := h (k0 + m) (by omega) (by omega)
    have h3 : Mr (accTo M X k0 s (m + 1)) (accTo M' X' k0 s' (m + 1)) := h1.sub (hk.1.mul hk.2)
    refine ⟨h3, ?_⟩
    unfold accFine
    rw [h2, h3.finite]
theorem Mr.nought : Mr (0, 0) (0, 0) := ⟨⟨.inl rfl, .inr ⟨by decide, by decide +kernel⟩⟩, ⟨by decide, by decide⟩, ⟨by decide, by decide⟩⟩
theorem putX_mir {n : Nat} {X X' : Nat → C} {i : Nat} {z z' : C} (h : ∀ j, j < n → Mr (X j) (X' j)) (hz : Mr z z') : ∀ j, j < n → Mr (putX X i z j) (putX X' i z' j) := fun j hj => by
  by_cases e : j = i
  · subst e; rw [putX_same, putX_same]; exact hz
  · rw [putX_other e, putX_other e]; exact h j hj
theorem fwd_mir {n : Nat} {Lo Lo' : Nat → Nat → C} {o : Nat → Nat} {b b' : Nat → C} (hL : ∀ i j, i < n → j < n → Mr (Lo i j) (Lo' i j)) (hb : ∀ i, i < n → Mr (b (o i)) (b' (o i))) :
    ∀ i, i ≤ n → (∀ j, j < n → Mr (fwd Lo o b i j) (fwd Lo' o b' i j)) ∧ fwdFine Lo' o b' i = fwdFine Lo o b i
  | 0, _ => ⟨fun _ _ => Mr.nought, rfl⟩
  | i + 1, hi => by
    obtain ⟨h1, h2⟩ := fwd_mir hL hb i (by omega)
    obtain ⟨h3, h4⟩ := acc_mir (M := Lo i) (M' := Lo' i) (X := fwd Lo o b i) (X' := fwd Lo' o b' i) (k0 := 0) (hb i (by omega)) i (fun k _ hk => ⟨hL i k (by omega) (by omega), h1 k (by omega)⟩)
    refine ⟨putX_mir h1 h3, ?_⟩
    unfold fwdFine
    rw [h2, h4]
theorem bwd_mir {n : Nat} {Up Up' : Nat → Nat → C} {Y Y' : Nat → C} (hU : ∀ i j, i < n → j < n → Mr (Up i j) (Up' i j)) (hd : ∀ i, i < n → pFinite (Up i i) = true ∧ pZero (Up i i) = false) (hY : ∀ j, j < n → Mr (Y j) (Y' j)) :
    ∀ j, j ≤ n → (∀ i, i < n → Mr (bwd Up n Y j i) (bwd Up' n Y' j i)) ∧ bwdFine Up' n Y' j = bwdFine Up n Y j
  | 0, _ => ⟨hY, rfl⟩
  | j + 1, hj => by
    obtain ⟨h1, h2⟩ := bwd_mir hU hd hY j (by omega)
    have hr : n - 1 - j < n := by omega
    obtain ⟨h3, h4⟩ := acc_mir (M := Up (n - 1 - j)) (M' := Up' (n - 1 - j)) (X := bwd Up n Y j) (X' := bwd Up' n Y' j) (k0 := n - j) (h1 (n - 1 - j) hr) j (fun k a b => ⟨hU _ k hr (by omega), h1 k (by omega)⟩)
    have h5 : Mr (pDiv (bwdRow Up n (bwd Up n Y j) j) (Up (n - 1 - j) (n - 1 - j))) (pDiv (bwdRow Up' n (bwd Up' n Y' j) j) (Up' (n - 1 - j) (n - 1 - j))) :=
      Mr.div h3 (hU _ _ hr hr) (hd _ hr).1 (hd _ hr).2
    refine ⟨putX_mir h1 h5, ?_⟩
    unfold bwdFine
    rw [h2, h4, h5.finite]
theorem sol_mir {n : Nat} {Lo Lo' Up Up' : Nat → Nat → C} {o : Nat → Nat} {b b' : Nat → C} (hL : ∀ i j, i < n → j < n → Mr (Lo i j) (Lo' i j)) (hU : ∀ i j, i < n → j < n → Mr (Up i j) (Up' i j))
    (hd : ∀ i, i < n → pFinite (Up i i) = true ∧ pZero (Up i i) = false) (hb : ∀ i, i < n → Mr (b (o i)) (b' (o i))) :
    (∀ i, i < n → Mr (solX Lo Up o b n i) (solX Lo' Up' o b' n i)) ∧ solFine Lo' Up' o b' n = solFine Lo Up o b n := by
  obtain ⟨h1, h2⟩ := fwd_mir hL hb n (Nat.le_refl _)
  obtain ⟨h3, h4⟩ := bwd_mir hU hd h1 n (Nat.le_refl _)
  exact ⟨h3, by unfold solFine; rw [h2, h4]⟩
theorem acc_lt {M X : Nat → C} {k0 : Nat} {s : C} (hs : ltC s) : ∀ m, ltC (accTo M X k0 s m)
  | 0 => hs
  | _ + 1 => ltC_sub _ _
/-- What is finite in the end: the last that is stored. -/
theorem bwd_fin {Up : Nat → Nat → C} {n : Nat} {Y : Nat → C} : ∀ j, j ≤ n → bwdFine Up n Y j = true → ∀ i, n - j ≤ i → i < n → pFinite (bwd Up n Y j i) = true
  | 0, _, _, i, a, b => by omega
  | j + 1, hj, h, i, a, b => by
    unfold bwdFine at h
    rw [Bool.and_eq_true, Bool.and_eq_true] at h
    unfold bwd
    by_cases e : i = n - 1 - j
    · subst e; rw [putX_same]; exact h.2
    · rw [putX_other e]; exact bwd_fin j (by omega) h.1.1 i (by omega) b
theorem sol_fin {Lo Up : Nat → Nat → C} {o : Nat → Nat} {b : Nat → C} {n : Nat} (h : solFine Lo Up o b n = true) : ∀ i, i < n → pFinite (solX Lo Up o b n i) = true := fun i hi => by
  unfold solFine at h
  rw [Bool.and_eq_true] at h
  exact bwd_fin n (Nat.le_refl _) h.2 i (by omega) hi
/-- No pivot is nought. -/
theorem run_diag {n : Nat} {S : El} (hf : finTo S.E n) : ∀ k, k ≤ n → (elRun n S k).1.1 = 0 → ∀ i, i < k → pZero ((elRun n S k).2.E i i) = false
  | 0, _, _, i, hi => by omega
  | k + 1, hk, h0, i, hi => by
    have h1 : (elRun n S k).1.1 = 0 := by
      by_cases e : (elRun n S k).1.1 = 0
      · exact e
      · rw [elRun, if_neg e] at h0; exact absurd h0 e
    have he : elErr n k (elRun n S k).2 = 0 := by
      by_cases e : elErr n k (elRun n S k).2 = 0
      · exact e
      · rw [elRun_bad h1 e] at h0; exact absurd h0 e
    have hn : elNil n k (elRun n S k).2 = false := by
      refine Bool.eq_false_iff.2 fun e => ?_
      unfold elErr at he
      rw [if_pos e] at he
      cases he
    rw [elRun_ok h1 he]
    show pZero (elE _ k i i) = false
    rw [elE_old (by omega)]
    by_cases e : i = k
    · subst e
      exact (piv_at (by omega) (elRun_fin hf i (by omega)) hn).2
    · have hp := (elPiv_lt (elRun n S k).2 (k := k) (n := n) (by omega)).2
      show pZero ((elRun n S k).2.E (Fl.xch k _ i) i) = false
      rw [xch_ne (by omega) (by omega)]
      exact run_diag hf k (by omega) h1 i (by omega)
end Fl
namespace Go.Proofs.Ytibjkmjccelcaaa
open Go.RowKit Fl Ieee
set_option maxRecDepth 20000
attribute [local go_sem] run_store_float run_store_complex
end Go.Proofs.Ytibjkmjccelcaaa
namespace Go.Proofs.Ytibjkmjccelcaaa
open Go.RowKit Fl Ieee
set_option maxRecDepth 20000
attribute [local go_sem] run_store_float run_store_complex
theorem exact_of : ∀ {zs l : List C}, zs.map cnC = l → (∀ z ∈ l, pFinite z = true) → zs = l
  | [], _, h, _ => by rw [← h]; rfl
  | a :: t, _, h, hf => by
    rw [List.map_cons] at h
    rw [← h] at hf ⊢
    have h1 : a = cnC a := like.fin (z := a) (v := cnC a) (.inr rfl) (hf _ (List.mem_cons_self))
    rw [← h1, ← exact_of (zs := t) rfl (fun z hz => hf z (List.mem_cons_of_mem _ hz))]
theorem entries_fin {E : Nat → Nat → C} {n : Nat} (h : ∀ i j, i < n → j < n → pFinite (E i j) = true) : ∀ z ∈ entries n E (n * n), pFinite z = true := fun z hz => by
  unfold entries at hz
  obtain ⟨k, hk, rfl⟩ := List.mem_map.1 hz
  have hk := List.mem_range.1 hk
  have hn0 : 0 < n := by
    rcases Nat.eq_zero_or_pos n with h | h
    · subst h; simp at hk
    · exact h
  exact h _ _ (Nat.div_lt_of_lt_mul hk) (Nat.mod_lt _ hn0)
theorem low_fin {n : Nat} {S : El} (h : finTo S.E n) (i j : Nat) (hi : i < n) (hj : j < n) : pFinite (lowE S i j) = true := by
  unfold lowE
  split
  · decide +kernel
  · split
    · exact h i j hi hj
    · decide +kernel
theorem upp_fin {n : Nat} {S : El} (h : finTo S.E n) (i j : Nat) (hi : i < n) (hj : j < n) : pFinite (uppE S i j) = true := by
  unfold uppE
  split
  · decide +kernel
  · exact h i j hi hj
theorem fieldM (a b : Int) (A : Option Addr) (n c : Nat) (W : World) : (Instr.field 26 (mval a b (.slice A n c)) 2).run Try.prog W = .ok (.slice A n c) W := by kernel_rfl
theorem set4 {w : World} {b : Nat} {x0 x1 x2 x3 u v s t : Value} {T : TypeId} (h : w.heap[b]? = some (.cells #[x0, x1, x2, x3] T)) :
    ((((w.setCell ⟨b, 0, none⟩ u).setCell ⟨b, 1, none⟩ v).setCell ⟨b, 2, none⟩ s).setCell ⟨b, 3, none⟩ t).heap[b]? = some (.cells #[u, v, s, t] T) := by
  have h1 := heap_setCell_same w b 0 _ T u h
  have h2 := heap_setCell_same _ b 1 _ T v h1
  have h3 := heap_setCell_same _ b 2 _ T s h2
  have h4 := heap_setCell_same _ b 3 _ T t h3
  rw [h4]; rfl
theorem RetMx.liesO {w w' : World} {r c M : Nat} {l : List C} {e : Ending} (h : RetMx r c l w e w') (hM : l.length = M) (hf : ∀ z ∈ l, pFinite z = true) {B : Nat} (hB : B ≤ w.heap.size) : ∃ A cap, e = .returned (mval r c (.slice A M cap)) ∧ w'.ownsRow B 51 1 (.slice A M cap) M (nums l) ∧ Below w.heap.size w w' := by
  obtain ⟨s, zs, rfl, hz, -, hown, hb⟩ := h
  rw [exact_of hz hf] at hown
  obtain ⟨A, cap, rfl, -, -, -⟩ := own_reads hown
  rw [hM] at hown ⊢
  exact ⟨A, cap, rfl, own_base hown hB, hb⟩
/-- Four cells of a row that lies below are written. -/
theorem own_set4 {w : World} {B b n : Nat} {e : TypeId} {v x0 x1 x2 x3 : Value} {xs : List Value} (h : w.ownsRow B e 1 v n xs) (hb : b < B) :
    ((((w.setCell ⟨b, 0, none⟩ x0).setCell ⟨b, 1, none⟩ x1).setCell ⟨b, 2, none⟩ x2).setCell ⟨b, 3, none⟩ x3).ownsRow B e 1 v n xs :=
  ownsRow_setCell_below (ownsRow_setCell_below (ownsRow_setCell_below (ownsRow_setCell_below h hb _) hb _) hb _) hb _
end Go.Proofs.Ytibjkmjccelcaaa
namespace Go.Proofs.Ytibjkmjccelcaaa
open Go.RowKit Fl Ieee
set_option maxRecDepth 20000
attribute [local go_sem] run_store_float run_store_complex Fl.order_self Fl.order_self' Fl.order_eq Fl.order_ne Fl.order_lt Fl.order_gt
/-- A list and what is told of it. -/
def RetSol (er : Int) (l : List C) (w : World) (e : Ending) (w' : World) : Prop :=
  ∃ s, e = .returned (.tuple #[s, .int .i64 er]) ∧ w'.ownsRow w.heap.size 51 1 s l.length (nums l) ∧ Below w.heap.size w w'
def bOf (l : List C) (i : Nat) : C := l.getD i (0, 0)
def solOk (n : Nat) (S : El) (l : List C) : Bool := solFine (lowE S) (uppE S) S.o (bOf l) n
def solL (n : Nat) (S : El) (l : List C) : List C := (List.range n).map (solX (lowE S) (uppE S) S.o (bOf l) n)
end Go.Proofs.Ytibjkmjccelcaaa
