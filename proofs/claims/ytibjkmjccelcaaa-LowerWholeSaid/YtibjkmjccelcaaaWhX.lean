/- LowerWhole: the plain law: whole numbers as ints; what the law asks of the lists. -/
import Derived.Test.YtibjkmjccelcaaaWhF
namespace Fl
open Ieee Go
theorem zcut (s : Bool) (n d : Nat) : Toward.zero.cut s n d = n / 2 ^ d := by
  unfold Toward.cut
  simp only [Nat.shiftLeft_eq, Nat.one_mul, Bool.toNat_false, Nat.add_zero]
  by_cases h : d ≤ n.log2 + 2
  · rw [Nat.min_eq_left h]
  · rw [Nat.min_eq_right (by omega)]
    have h1 : n < 2 ^ (n.log2 + 1) := Nat.lt_log2_self
    rw [Nat.div_eq_of_lt (Nat.lt_of_lt_of_le h1 (Nat.pow_le_pow_right (by omega) (by omega))), Nat.div_eq_of_lt (Nat.lt_of_lt_of_le h1 (Nat.pow_le_pow_right (by omega) (by omega)))]
theorem ex_toInt {x : Nat} {a : Int} (h : Ex x a 1074) (hb : a.natAbs < 9007199254740992) : floatToIntVal .f64 x .i64 = some a := by
  obtain ⟨m, e, h1, h2, h3⟩ := read_fin h.2.1
  obtain ⟨K, hK, eU⟩ := one_pow
  have hd : FloatKind.f64.decode x = .number (Fl.sgn double x) m e := h1
  have hv : m * 2 ^ (e - -1074).toNat = a.natAbs * 2 ^ K := by
    rw [← least64, h3, ← abs_sval, h.2.2, Int.natAbs_mul, hK]; rfl
  rw [least64] at h2
  have hp := Nat.two_pow_pos K
  have hmag : Toward.zero.cut (Fl.sgn double x) (m <<< e.toNat) (-e).toNat = a.natAbs := by
    rw [zcut, Nat.shiftLeft_eq]
    by_cases he : 0 ≤ e
    · have e1 : (-e).toNat = 0 := by omega
      have e2 : (e - -1074).toNat = e.toNat + K := by omega
      rw [e2, Nat.pow_add, ← Nat.mul_assoc] at hv
      rw [e1, Nat.pow_zero, Nat.div_one]
      exact Nat.eq_of_mul_eq_mul_right hp hv
    · obtain ⟨D, hD⟩ : ∃ D, D = (-e).toNat := ⟨_, rfl⟩
      have e1 : e.toNat = 0 := by omega
      have e2 : K = D + (K - D) := by omega
      have e3 : (e - -1074).toNat = K - D := by omega
      rw [e3] at hv
      have e4 : a.natAbs * 2 ^ K = a.natAbs * 2 ^ D * 2 ^ (K - D) := by rw [Nat.mul_assoc, ← Nat.pow_add, ← e2]
      rw [e4] at hv
      have e5 := Nat.eq_of_mul_eq_mul_right (Nat.two_pow_pos (K - D)) hv
      rw [← hD, e1, Nat.pow_zero, Nat.mul_one, e5]
      exact Nat.mul_div_cancel _ (Nat.two_pow_pos D)
  have ht : (Datum.number (Fl.sgn double x) m e).toInt .zero = some (signed (Fl.sgn double x) a.natAbs 0) := by
    show some (signed (Fl.sgn double x) (Toward.zero.cut (Fl.sgn double x) (m <<< e.toNat) (-e).toNat) 0) = _
    rw [hmag]
  have hs : signed (Fl.sgn double x) a.natAbs 0 = a := by
    rw [signed_eq]
    simp only [Nat.pow_zero, Nat.mul_one]
    by_cases h0 : a = 0
    · subst h0; simp
    · rw [sgn_of_ex h h0]
      by_cases hn : a < 0
      · rw [if_pos (decide_eq_true hn)]; omega
      · rw [if_neg (by simp; omega)]; omega
  unfold floatToIntVal
  rw [hd, ht, hs]
  have g1 : IntKind.i64.min ≤ a := by show (-9223372036854775808 : Int) ≤ a; omega
  have g2 : a ≤ IntKind.i64.max := by show a ≤ (9223372036854775807 : Int); omega
  simp only [g1, g2, and_self, if_true]
theorem ex_feq {x y : Nat} {a : Int} (h : Ex x a 1074) (h' : Ex y a 1074) : feq .f64 x y = true := by
  unfold feq
  rw [show FloatKind.f64.format = double from rfl, order_fin h.2.1 h'.2.1, h.2.2, h'.2.2]
  have e : compare (a * ((2 ^ 1074 : Nat) : Int)) (a * ((2 ^ 1074 : Nat) : Int)) = .eq := by
    generalize a * ((2 ^ 1074 : Nat) : Int) = t
    unfold compare instOrdInt
    simp [compareOfLessAndEq]
  rw [e]; rfl
theorem lR_lt {n i k : Nat} {f : IMat} (h : Below20 n f) (hi : i < n) (hk : k < n) : (lR f i k).natAbs < 1048576 := by
  unfold lR; have := h i k hi hk; split
  · omega
  · split <;> omega
theorem lI_lt {n i k : Nat} {f : IMat} (h : Below20 n f) (hi : i < n) (hk : k < n) : (lI f i k).natAbs < 1048576 := by
  unfold lI; have := h i k hi hk; split
  · omega
  · split <;> omega
theorem uR_lt {n i k : Nat} {f : IMat} (h : Below20 n f) (hi : i < n) (hk : k < n) : (uR f i k).natAbs < 1048576 := by
  unfold uR; have := h i k hi hk; split <;> omega
theorem sums_lt {n i j : Nat} {f g : IMat} (hf : Below20 n f) (hg : Below20 n g) (hi : i < n) (hj : j < n) : ∀ m, m ≤ n → (sR f g i j m).natAbs ≤ m * 2199023255552 ∧ (sI f g i j m).natAbs ≤ m * 2199023255552
  | 0, _ => by unfold sR sI; omega
  | m + 1, hm => by
    obtain ⟨ih1, ih2⟩ := sums_lt hf hg hi hj m (by omega)
    have h1 := mul_lt20 (lR_lt hf hi (show m < n by omega)) (uR_lt hf (show m < n by omega) hj)
    have h2 := mul_lt20 (lI_lt hg hi (show m < n by omega)) (uR_lt hg (show m < n by omega) hj)
    have h3 := mul_lt20 (lR_lt hf hi (show m < n by omega)) (uR_lt hg (show m < n by omega) hj)
    have h4 := mul_lt20 (lI_lt hg hi (show m < n by omega)) (uR_lt hf (show m < n by omega) hj)
    unfold sR sI; omega
theorem cx_one : Cx (fone, 0) 1 0 := ⟨ex_one, ex_zero (by decide) (by decide)⟩
theorem cx_nil : Cx (0, 0) 0 0 := ⟨ex_zero (by decide) (by decide), ex_zero (by decide) (by decide)⟩
end Fl
namespace Go.Proofs.Ytibjkmjccelcaaa
open Go.RowKit Fl Ieee
theorem wrap_small53 {x : Int} (h : x.natAbs < 9007199254740992) : wrap64 x = x := by unfold wrap64; omega
theorem low_cx {i k : Nat} {S : El} {f g : IMat} (h : Cx (S.E i k) (f i k) (g i k)) : Cx (lowE S i k) (lR f i k) (lI g i k) := by
  unfold lowE lR lI
  by_cases h1 : i = k
  · subst h1; simp only [if_true]; exact cx_one
  · have h1' : ¬ k = i := fun e => h1 e.symm
    by_cases h2 : k < i
    · simp only [if_neg h1, if_neg h1', if_pos h2]; exact h
    · simp only [if_neg h1, if_neg h1', if_neg h2]; exact cx_nil
theorem upp_cx {k j : Nat} {S : El} {f g : IMat} (h : Cx (S.E k j) (f k j) (g k j)) : Cx (uppE S k j) (uR f k j) (uR g k j) := by
  unfold uppE uR
  by_cases h1 : j < k
  · rw [if_pos h1, if_pos h1, if_pos h1]; exact cx_nil
  · rw [if_neg h1, if_neg h1, if_neg h1]; exact h
theorem mem_entries {n i j : Nat} {E : Nat → Nat → C} (hi : i < n) (hj : j < n) : E i j ∈ entries n E (n * n) := by
  have h1 : (i + 1) * n ≤ n * n := Nat.mul_le_mul_right _ hi
  rw [Nat.add_mul, Nat.one_mul] at h1
  unfold entries
  exact List.mem_map.2 ⟨i * n + j, List.mem_range.2 (by omega), entry_at E hj⟩
/-- What the walk needs of the law. -/
structure WhL (N : Nat) (L : List C) (S : El) (a b f g : IMat) : Prop where
  law : ∀ i j, i < N → j < N → sR f g i j N = a i j ∧ sI f g i j N = b i j
  was : ∀ i j, i < N → j < N → Cx (L.getD (S.o i * N + j) (0, 0)) (a i j) (b i j)
  is : ∀ i j, i < N → j < N → Cx (S.E i j) (f i j) (g i j)
  bf : Below20 N f
  bg : Below20 N g
theorem whole_of {N : Nat} {L : List C} {S : El} (hN : N ≤ 12) (hl : L.length = N * N) (hS : S = ofS N L) (h0 : (elRun N (S0 L N) N).1.1 = 0) (ho : ∀ i, i < N → S.o i < N)
    (hL : ∀ z ∈ L, ∃ a b : Int, Cx z a b ∧ a.natAbs < 1048576 ∧ b.natAbs < 1048576)
    (h1 : ∀ z ∈ entries N (lowE S) (N * N), Sm z) (h2 : ∀ z ∈ entries N (uppE S) (N * N), Sm z) (h3 : ∀ z ∈ pivL S N, U4 z) : ∃ a b f g, WhL N L S a b f g := by
  have k1 : ∀ p : Nat × Nat, ∃ q : Int × Int, p.1 < N → p.2 < N → Cx (L.getD (S.o p.1 * N + p.2) (0, 0)) q.1 q.2 ∧ q.1.natAbs < 1048576 ∧ q.2.natAbs < 1048576 := fun p => by
    by_cases h : p.1 < N ∧ p.2 < N
    · have h4 := ho p.1 h.1
      have h5 : (S.o p.1 + 1) * N ≤ N * N := Nat.mul_le_mul_right _ h4
      rw [Nat.add_mul, Nat.one_mul] at h5
      have h6 : S.o p.1 * N + p.2 < L.length := by omega
      obtain ⟨a, b, h7⟩ := hL _ (List.getElem_mem h6)
      refine ⟨(a, b), fun _ _ => ?_⟩
      rw [List.getD_eq_getElem?_getD, List.getElem?_eq_getElem h6]
      exact h7
    · exact ⟨(0, 0), fun a b => absurd ⟨a, b⟩ h⟩
  have k2 : ∀ p : Nat × Nat, ∃ q : Int × Int, p.1 < N → p.2 < N → Cx (S.E p.1 p.2) q.1 q.2 ∧ q.1.natAbs < 1048576 ∧ q.2.natAbs < 1048576 := fun p => by
    by_cases h : p.1 < N ∧ p.2 < N
    · have h4 : Sm (S.E p.1 p.2) := by
        by_cases h5 : p.2 < p.1
        · have h6 := h1 _ (mem_entries (E := lowE S) h.1 h.2)
          unfold lowE at h6
          rwa [if_neg (by omega), if_pos h5] at h6
        · have h6 := h2 _ (mem_entries (E := uppE S) h.1 h.2)
          unfold uppE at h6
          rwa [if_neg h5] at h6
      obtain ⟨⟨a, ha, ha'⟩, b, hb, hb'⟩ := h4
      exact ⟨(a, b), fun _ _ => ⟨⟨ha, hb⟩, ha', hb'⟩⟩
    · exact ⟨(0, 0), fun a b => absurd ⟨a, b⟩ h⟩
  obtain ⟨F, hF⟩ := Classical.axiomOfChoice k1
  obtain ⟨G, hG⟩ := Classical.axiomOfChoice k2
  have hE : S.E = elP (fun i => matE L N (S.o i)) N := by
    have h4 := run_elP (n := N) (S := S0 L N) rfl N (Nat.le_refl _) h0
    have e : S = (elRun N (S0 L N) N).2 := by rw [hS]; unfold ofS; simp
    rw [e]; exact h4
  have hW : Whole N (fun i => matE L N (S.o i)) (fun i j => (F (i, j)).1) (fun i j => (F (i, j)).2) (fun i j => (G (i, j)).1) (fun i j => (G (i, j)).2) :=
    { n13 := by omega
      was := fun i j hi hj => (hF (i, j) hi hj).1
      is := fun i j hi hj => by rw [← hE]; exact (hG (i, j) hi hj).1
      ba := fun i j hi hj => (hF (i, j) hi hj).2.1
      bb := fun i j hi hj => (hF (i, j) hi hj).2.2
      bf := fun i j hi hj => (hG (i, j) hi hj).2.1
      bg := fun i j hi hj => (hG (i, j) hi hj).2.2
      unit := fun i hi => by
        obtain ⟨c, d, h4, h5⟩ := h3 (S.E i i) (by unfold pivL; exact List.mem_map.2 ⟨i, List.mem_range.2 hi, rfl⟩)
        obtain ⟨e1, e2⟩ := (hG (i, i) hi hi).1.inj h4
        show Unit4 (G (i, i)).1 (G (i, i)).2
        rw [e1, e2]; exact h5 }
  exact ⟨_, _, _, _, ⟨fun i j hi hj => hW.law hi hj, fun i j hi hj => (hF (i, j) hi hj).1, fun i j hi hj => (hG (i, j) hi hj).1, hW.bf, hW.bg⟩⟩
end Go.Proofs.Ytibjkmjccelcaaa
