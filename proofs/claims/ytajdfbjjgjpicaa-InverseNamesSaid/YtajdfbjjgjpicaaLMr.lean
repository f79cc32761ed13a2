/- Layer 9 in a mirror: a matrix and its conjugate are eliminated alike. -/
import Derived.Test.YtajdfbjjgjpicaaEL0
import Derived.Test.YtajdfbjjgjpicaaKT2
import Derived.Test.YtajdfbjjgjpicaaKT1
namespace Go.Proofs.Ytajdfbjjgjpicaa
open Go.RowKit Fl Ieee
set_option maxRecDepth 20000
attribute [local go_sem] run_store_float run_store_complex Fl.order_self Fl.order_self' Fl.order_eq Fl.order_ne Fl.order_lt Fl.order_gt
theorem conjB_len (l : List C) : (conjB l).length = l.length := by simp [conjB]
theorem fin_flip {z : C} (hz : ltC z) : pFinite (z.1, flip double z.2) = pFinite z := by
  rw [← pFin_cn (z.1, flip double z.2), ← pFin_cn z]
  unfold pFinite
  show (isFin double (cn .f64 z.1) && isFin double (cn .f64 (flip double z.2))) = _
  rw [cn_flip hz.2, Mr.isFin_neg (show cn .f64 z.2 < 18446744073709551616 from cn_lt (k := .f64) hz.2)]
theorem badAt_conj {l : List C} (h : ltCs l) : badAt (conjB l) = badAt l := by
  unfold badAt conjB
  induction l with
  | nil => rfl
  | cons a t ih =>
    rw [List.map_cons, List.findIdx_cons, List.findIdx_cons, fin_flip (h a (by simp)), ih (fun z hz => h z (by simp [hz]))]
theorem mat_conj {l : List C} {n : Nat} (hl : l.length = n * n) (h : ltCs l) (hf : ∀ z ∈ l, pFinite z = true) : Mirr n (S0 l n) (S0 (conjB l) n) where
  mir i j hi hj := by
    have h1 := at_ok hl hi hj
    have h2 : (conjB l)[i * n + j]? = some (((l.getD (i * n + j) (0, 0)).1, flip double (l.getD (i * n + j) (0, 0)).2) : C) := by
      unfold conjB; rw [List.getElem?_map, h1]; rfl
    have e : (S0 (conjB l) n).E i j = ((l.getD (i * n + j) (0, 0)).1, flip double (l.getD (i * n + j) (0, 0)).2) := by
      show (conjB l).getD (i * n + j) (0, 0) = _
      rw [List.getD_eq_getElem?_getD, h2]; rfl
    rw [e]
    have hm := List.mem_of_getElem? h1
    have hlt := h _ hm
    have hfi := hf _ hm
    show Mr (l.getD (i * n + j) (0, 0)) _
    generalize l.getD (i * n + j) (0, 0) = z at hlt hfi
    obtain ⟨-, -, -, n2, -, -⟩ := fin_parts hfi
    refine ⟨⟨.inl rfl, .inl ?_⟩, hlt, ⟨hlt.1, flip_lt64 hlt.2⟩⟩
    show flip double z.2 = fneg z.2
    rw [fneg_of_not n2]
  o := rfl
  s := rfl
  fin := matE_fin hl hf
theorem ofF_sq {l : List C} {n : Nat} (hn : n ≤ 64) (hl : l.length = n * n) : ofF n n l = (if badAt l < l.length then (5, (badAt l : Int)) else (elRun n (S0 l n) n).1) := by
  have ho : okM n n l.length = true := okM_iff.2 ⟨by omega, by omega, by omega, by omega, by rw [hl, Int.natCast_mul]⟩
  unfold ofF; rw [ho]; simp
theorem of_fin {l : List C} {n : Nat} (hn : n ≤ 64) (hl : l.length = n * n) (h : (ofF n n l).1 = 0) : (∀ z ∈ l, pFinite z = true) ∧ ofF n n l = (0, 0) ∧ (elRun n (S0 l n) n).1.1 = 0 := by
  rw [ofF_sq hn hl] at h ⊢
  by_cases hb : badAt l < l.length
  · rw [if_pos hb] at h; cases h
  · rw [if_neg hb] at h ⊢
    exact ⟨badAt_all hb, elRun_zero n h, h⟩
theorem of_mirror {l : List C} {n : Nat} (hn : n ≤ 64) (hl : l.length = n * n) (h : ltCs l) :
    ofF n n (conjB l) = ofF n n l ∧ ((ofF n n l).1 = 0 → Mirr n (ofS n l) (ofS n (conjB l))) := by
  have hl' : (conjB l).length = n * n := by rw [conjB_len, hl]
  rw [ofF_sq hn hl, ofF_sq hn hl', badAt_conj h, conjB_len]
  by_cases hb : badAt l < l.length
  · rw [if_pos hb, if_pos hb]
    exact ⟨rfl, fun h => by cases h⟩
  · rw [if_neg hb, if_neg hb]
    have ht := (mat_conj hl h (badAt_all hb)).run n (Nat.le_refl _)
    exact ⟨ht.1, fun _ => ht.2⟩
theorem of_perm {l : List C} {n : Nat} : Perm n (ofS n l).o := run_perm (S := S0 l n) ⟨fun _ h => h, fun _ _ _ _ e => e⟩ n (Nat.le_refl _)
/-- Each equals the other's conjugate: what EqualMatrix asks. -/
theorem mir_equal {E E' : Nat → Nat → C} {n : Nat} {zs ys : List C} (hz : zs.map cnC = (entries n E (n * n)).map fun z => pConj (cnC z)) (hy : ys.map cnC = entries n E' (n * n)) (hM : ∀ i j, i < n → j < n → zqC (E' i j) (pConj (E i j)) ∧ pFinite (E i j) = true ∧ ltC (E i j)) :
    ∀ (k : Nat) (x y : C), zs[k]? = some x → ys[k]? = some y → pEqual (cnC x) (cnC y) = true := by
  intro k x y hx hyk
  have h1 : (zs.map cnC)[k]? = some (cnC x) := by rw [List.getElem?_map, hx]; rfl
  have h2 : (ys.map cnC)[k]? = some (cnC y) := by rw [List.getElem?_map, hyk]; rfl
  have hk : k < n * n := by
    have := lt_of_some h2
    rw [hy] at this
    simpa [entries] using this
  have hn0 : 0 < n := by
    rcases Nat.eq_zero_or_pos n with h | h
    · subst h; simp at hk
    · exact h
  rw [hz, List.getElem?_map] at h1
  rw [hy] at h2
  unfold entries at h1 h2
  rw [List.getElem?_map, List.getElem?_range hk] at h1 h2
  have e1 : pConj (cnC (entry n E k)) = cnC x := Option.some.inj h1
  have e2 : entry n E' k = cnC y := Option.some.inj h2
  have hi : k / n < n := Nat.div_lt_of_lt_mul hk
  have hj : k % n < n := Nat.mod_lt _ hn0
  obtain ⟨hq, hf, hl⟩ := hM _ _ hi hj
  rw [← e1, ← e2]
  unfold entry
  rw [fin_cn hf]
  refine hq.symm.equal ?_ ?_
  · exact (fin_parts hf).2.2.1
  · show isNaN double (fneg _) = false
    rw [isNaN_fneg hl.2]
    exact (fin_parts hf).2.2.2.1
theorem low_mir {n : Nat} {S S' : El} (h : Mirr n S S') (i j : Nat) (hi : i < n) (hj : j < n) : zqC (lowE S' i j) (pConj (lowE S i j)) ∧ pFinite (lowE S i j) = true ∧ ltC (lowE S i j) := by
  unfold lowE
  by_cases e : i = j
  · rw [if_pos e, if_pos e]
    exact ⟨⟨.inl rfl, .inr ⟨by decide, by decide +kernel⟩⟩, by decide +kernel, ⟨by decide, by decide⟩⟩
  · rw [if_neg e, if_neg e]
    by_cases e2 : j < i
    · rw [if_pos e2, if_pos e2]
      have := h.mir i j hi hj
      exact ⟨this.1, h.fin i j hi hj, this.2.1⟩
    · rw [if_neg e2, if_neg e2]
      exact ⟨⟨.inl rfl, .inr ⟨by decide, by decide +kernel⟩⟩, by decide +kernel, ⟨by decide, by decide⟩⟩
theorem upp_mir {n : Nat} {S S' : El} (h : Mirr n S S') (i j : Nat) (hi : i < n) (hj : j < n) : zqC (uppE S' i j) (pConj (uppE S i j)) ∧ pFinite (uppE S i j) = true ∧ ltC (uppE S i j) := by
  unfold uppE
  by_cases e2 : j < i
  · rw [if_pos e2, if_pos e2]
    exact ⟨⟨.inl rfl, .inr ⟨by decide, by decide +kernel⟩⟩, by decide +kernel, ⟨by decide, by decide⟩⟩
  · rw [if_neg e2, if_neg e2]
    have := h.mir i j hi hj
    exact ⟨this.1, h.fin i j hi hj, this.2.1⟩
end Go.Proofs.Ytajdfbjjgjpicaa
