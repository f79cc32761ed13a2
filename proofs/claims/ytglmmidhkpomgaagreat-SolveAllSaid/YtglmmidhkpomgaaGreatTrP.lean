/- Layer 10, with the transpose: as plain functions. -/
import Derived.Test.YtglmmidhkpomgaaGreatSV0
namespace Fl
open Ieee Go
/-- Downward, i rows. -/
def tfw (Up : Nat → Nat → C) (b : Nat → C) : Nat → Nat → C
  | 0 => fun _ => (0, 0)
  | i + 1 => putX (tfw Up b i) i (pDiv (accTo (fun k => Up k i) (tfw Up b i) 0 (b i) i) (Up i i))
def tfwFine (Up : Nat → Nat → C) (b : Nat → C) : Nat → Bool
  | 0 => true
  | i + 1 => tfwFine Up b i && (accFine (fun k => Up k i) (tfw Up b i) 0 (b i) i && pFinite (pDiv (accTo (fun k => Up k i) (tfw Up b i) 0 (b i) i) (Up i i)))
/-- Upward, j rows from the last one. -/
def tbw (Lo : Nat → Nat → C) (n : Nat) (Y : Nat → C) : Nat → Nat → C
  | 0 => Y
  | j + 1 => putX (tbw Lo n Y j) (n - 1 - j) (accTo (fun k => Lo k (n - 1 - j)) (tbw Lo n Y j) (n - j) (tbw Lo n Y j (n - 1 - j)) j)
def tbwFine (Lo : Nat → Nat → C) (n : Nat) (Y : Nat → C) : Nat → Bool
  | 0 => true
  | j + 1 => tbwFine Lo n Y j && accFine (fun k => Lo k (n - 1 - j)) (tbw Lo n Y j) (n - j) (tbw Lo n Y j (n - 1 - j)) j
/-- Laid in their places, j rows from the last one. -/
def tpl (Lo : Nat → Nat → C) (o : Nat → Nat) (n : Nat) (Y : Nat → C) : Nat → Nat → C
  | 0 => fun _ => (0, 0)
  | j + 1 => putX (tpl Lo o n Y j) (o (n - 1 - j)) (tbw Lo n Y (j + 1) (n - 1 - j))
def traX (Lo Up : Nat → Nat → C) (o : Nat → Nat) (b : Nat → C) (n : Nat) : Nat → C := tpl Lo o n (tfw Up b n) n
def traFine (Lo Up : Nat → Nat → C) (b : Nat → C) (n : Nat) : Bool := tfwFine Up b n && tbwFine Lo n (tfw Up b n) n
theorem acc_fin {M X : Nat → C} {k0 m : Nat} {s : C} (h : pFinite s = true) (hf : accFine M X k0 s m = true) : pFinite (accTo M X k0 s m) = true := by
  cases m with
  | zero => exact h
  | succ m => unfold accFine at hf; rw [Bool.and_eq_true] at hf; exact hf.2
theorem zero_finC : pFinite ((0, 0) : C) = true := by decide +kernel
theorem tfw_fin {Up : Nat → Nat → C} {b : Nat → C} : ∀ i, tfwFine Up b i = true → ∀ q, pFinite (tfw Up b i q) = true
  | 0, _, _ => zero_finC
  | i + 1, h, q => by
    unfold tfwFine at h
    rw [Bool.and_eq_true, Bool.and_eq_true] at h
    unfold tfw
    by_cases e : q = i
    · subst e; rw [putX_same]; exact h.2.2
    · rw [putX_other e]; exact tfw_fin i h.1 q
theorem tbw_fin {Lo : Nat → Nat → C} {n : Nat} {Y : Nat → C} (hY : ∀ q, pFinite (Y q) = true) : ∀ j, tbwFine Lo n Y j = true → ∀ q, pFinite (tbw Lo n Y j q) = true
  | 0, _, q => hY q
  | j + 1, h, q => by
    unfold tbwFine at h
    rw [Bool.and_eq_true] at h
    unfold tbw
    by_cases e : q = n - 1 - j
    · subst e; rw [putX_same]; exact acc_fin (tbw_fin hY j h.1 _) h.2
    · rw [putX_other e]; exact tbw_fin hY j h.1 q
theorem tpl_fin {Lo : Nat → Nat → C} {o : Nat → Nat} {n : Nat} {Y : Nat → C} (hY : ∀ q, pFinite (Y q) = true) : ∀ j, tbwFine Lo n Y j = true → ∀ q, pFinite (tpl Lo o n Y j q) = true
  | 0, _, _ => zero_finC
  | j + 1, h, q => by
    have h' := h
    unfold tbwFine at h'
    rw [Bool.and_eq_true] at h'
    unfold tpl
    by_cases e : q = o (n - 1 - j)
    · subst e; rw [putX_same]; exact tbw_fin hY (j + 1) h _
    · rw [putX_other e]; exact tpl_fin hY j h'.1 q
theorem tra_fin {Lo Up : Nat → Nat → C} {o : Nat → Nat} {b : Nat → C} {n : Nat} (h : traFine Lo Up b n = true) (q : Nat) : pFinite (traX Lo Up o b n q) = true := by
  unfold traFine at h
  rw [Bool.and_eq_true] at h
  exact tpl_fin (tfw_fin n h.1) n h.2 q
/-! ### In a mirror -/
theorem tfw_mir {n : Nat} {Up Up' : Nat → Nat → C} {b b' : Nat → C} (hU : ∀ i j, i < n → j < n → Mr (Up i j) (Up' i j)) (hd : ∀ i, i < n → pFinite (Up i i) = true ∧ pZero (Up i i) = false) (hb : ∀ i, i < n → Mr (b i) (b' i)) :
    ∀ i, i ≤ n → (∀ j, j < n → Mr (tfw Up b i j) (tfw Up' b' i j)) ∧ tfwFine Up' b' i = tfwFine Up b i
  | 0, _ => ⟨fun _ _ => Mr.nought, rfl⟩
  | i + 1, hi => by
    obtain ⟨h1, h2⟩ := tfw_mir hU hd hb i (by omega)
    obtain ⟨h3, h4⟩ := acc_mir (k0 := 0) (hb i (by omega)) i (fun k _ hk => ⟨hU k i (by omega) (by omega), h1 k (by omega)⟩)
    have h5 := h3.div (hU i i (by omega) (by omega)) (hd i (by omega)).1 (hd i (by omega)).2
    refine ⟨fun j hj => putX_mir h1 h5 j hj, ?_⟩
    unfold tfwFine
    rw [h2, h4, h5.finite]
theorem tbw_mir {n : Nat} {Lo Lo' : Nat → Nat → C} {Y Y' : Nat → C} (hL : ∀ i j, i < n → j < n → Mr (Lo i j) (Lo' i j)) (hY : ∀ i, i < n → Mr (Y i) (Y' i)) :
    ∀ j, j ≤ n → (∀ q, q < n → Mr (tbw Lo n Y j q) (tbw Lo' n Y' j q)) ∧ tbwFine Lo' n Y' j = tbwFine Lo n Y j
  | 0, _ => ⟨hY, rfl⟩
  | j + 1, hj => by
    obtain ⟨h1, h2⟩ := tbw_mir hL hY j (by omega)
    obtain ⟨h3, h4⟩ := acc_mir (k0 := n - j) (h1 (n - 1 - j) (by omega)) j (fun k hk hk' => ⟨hL k (n - 1 - j) (by omega) (by omega), h1 k (by omega)⟩)
    refine ⟨fun q hq => putX_mir h1 h3 q hq, ?_⟩
    unfold tbwFine
    rw [h2, h4]
theorem tpl_mir {n : Nat} {Lo Lo' : Nat → Nat → C} {o : Nat → Nat} {Y Y' : Nat → C} (hL : ∀ i j, i < n → j < n → Mr (Lo i j) (Lo' i j)) (hY : ∀ i, i < n → Mr (Y i) (Y' i)) :
    ∀ j, j ≤ n → ∀ q, q < n → Mr (tpl Lo o n Y j q) (tpl Lo' o n Y' j q)
  | 0, _ => fun _ _ => Mr.nought
  | j + 1, hj => fun q hq => putX_mir (tpl_mir hL hY j (by omega)) ((tbw_mir hL hY (j + 1) hj).1 (n - 1 - j) (by omega)) q hq
theorem tra_mir {n : Nat} {Lo Lo' Up Up' : Nat → Nat → C} {o : Nat → Nat} {b b' : Nat → C} (hL : ∀ i j, i < n → j < n → Mr (Lo i j) (Lo' i j)) (hU : ∀ i j, i < n → j < n → Mr (Up i j) (Up' i j)) (hd : ∀ i, i < n → pFinite (Up i i) = true ∧ pZero (Up i i) = false) (hb : ∀ i, i < n → Mr (b i) (b' i)) :
    (∀ q, q < n → Mr (traX Lo Up o b n q) (traX Lo' Up' o b' n q)) ∧ traFine Lo' Up' b' n = traFine Lo Up b n := by
  obtain ⟨h1, h2⟩ := tfw_mir hU hd hb n (Nat.le_refl _)
  refine ⟨tpl_mir hL h1 n (Nat.le_refl _), ?_⟩
  unfold traFine
  rw [h2, (tbw_mir hL h1 n (Nat.le_refl _)).2]
end Fl
