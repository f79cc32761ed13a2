/- Exact numbers of 72 limbs: what is laid; a float and a product, exactly. -/
import Derived.Test.YtandllekeimpgaaGreatEx3
import Derived.Test.YtandllekeimpgaaGreatEx2
import Derived.Test.YtandllekeimpgaaGreatExL
import Derived.Test.YtandllekeimpgaaGreatExt
import Derived.Test.YtandllekeimpgaaGreatTsQ
import Derived.Deep.WholeRow
import Derived.Deep.DeepCutAuto
import Derived.Great.Walk
namespace Go.Proofs.YtandllekeimpgaaGreat
open Go.RowKit Fl Ieee
set_option maxRecDepth 20000
/-- While a number is laid: the row that is filled, the row of the answer. -/
structure LaS (w V : World) (A : Array Value) : Prop where
  z : V.heap[w.heap.size]? = some (.cells (lim 0) 143)
  x : V.heap[w.heap.size + 1]? = some (.cells A 143)
  bel : Below w.heap.size w V
theorem LaS.put {w V : World} {A : Array Value} (h : LaS w V A) (i : Nat) (v : Value) : LaS w (V.setCell ⟨w.heap.size + 1, i, none⟩ v) (A.setIfInBounds i v) where
  z := by rw [Below.heap_setCell _ _ _ _ (by show w.heap.size ≠ w.heap.size + 1; omega)]; exact h.z
  x := heapE_set _ _ i _ _ _ h.x
  bel := h.bel.setCell (by show w.heap.size ≤ w.heap.size + 1; omega) _
theorem LaS.start (w : World) : LaS w ((w.alloc (.cells Tryz.zeroCells143 143)).alloc (.cells Tryz.zeroCells143 143)) (lim 0) where
  z := by rw [← zero_lim]; exact rowE_alloc (heap_alloc_last w _)
  x := by rw [← zero_lim]; exact rowE_new2 w _ _
  bel := (belowE_new w _).new (Nat.le_refl _) _
theorem limb_zero (i : Nat) : limb 0 i = 0 := by unfold limb; simp
theorem LaS.drewN {w V : World} {A : Array Value} (h : LaS w V A) (d : Nat) : LaS w (V.drewN d) A := ⟨h.z, h.x, below_drewN h.bel d⟩
theorem laid_row {hi lo k n : Nat} (hn : n < 64) (hl : lo < 18446744073709551616) (hh : hi < 18446744073709551616) (hk : k ≤ 69) {v0 v1 v2 : Value}
    (e0 : v0 = .int .u64 ((lo * 2 ^ n % 18446744073709551616 : Nat) : Int)) (e1 : v1 = .int .u64 (((hi * 2 ^ n % 18446744073709551616) ||| (lo / 2 ^ (64 - n)) : Nat) : Int)) (e2 : v2 = .int .u64 ((hi / 2 ^ (64 - n) : Nat) : Int)) {u : Value} :
    (((((lim 0).setIfInBounds k v0).setIfInBounds (k + 1) u).setIfInBounds (k + 1) v1).setIfInBounds (k + 2) v2) = lim (((hi * 18446744073709551616 + lo) * 2 ^ (64 * k + n) : Nat) : Int) := by
  obtain ⟨l0, l1, l2, l3, l4⟩ := laid_limbs (k := k) hn hl hh
  generalize (((hi * 18446744073709551616 + lo) * 2 ^ (64 * k + n) : Nat) : Int) = Z at *
  apply Array.ext_getElem?
  intro j
  rw [Array.getElem?_setIfInBounds, Array.getElem?_setIfInBounds, Array.getElem?_setIfInBounds, Array.getElem?_setIfInBounds]
  simp only [Array.size_setIfInBounds, lim_size]
  by_cases hj : j < 72
  · rw [lim_at hj, lim_at hj, limb_zero]
    by_cases c2 : k + 2 = j
    · subst c2; rw [if_pos rfl, if_pos hj, e2, l3]
    · rw [if_neg c2]
      by_cases c1 : k + 1 = j
      · subst c1; rw [if_pos rfl, if_pos hj, e1, l2]
      · rw [if_neg c1, if_neg c1]
        by_cases c0 : k = j
        · subst c0; rw [if_pos rfl, if_pos hj, e0, l1]
        · rw [if_neg c0]
          by_cases hjk : j < k
          · rw [l0 j hjk]
          · rw [l4 j (by omega)]
  · rw [if_neg (by omega), if_neg (by omega), if_neg (by omega), Array.getElem?_eq_none (by rw [lim_size]; omega), Array.getElem?_eq_none (by rw [lim_size]; omega)]
    rw [if_neg (by omega)]
theorem laid_row0 {hi lo k : Nat} (hl : lo < 18446744073709551616) (hh : hi < 18446744073709551616) (hk : k ≤ 69) {v0 v1 : Value} (e0 : v0 = .int .u64 (lo : Int)) (e1 : v1 = .int .u64 (hi : Int)) :
    (((lim 0).setIfInBounds k v0).setIfInBounds (k + 1) v1) = lim (((hi * 18446744073709551616 + lo) * 2 ^ (64 * k + 0) : Nat) : Int) := by
  have h := laid_row (n := 0) (by decide) hl hh hk (v0 := v0) (v1 := v1) (u := v1) (by rw [e0]; simp; omega) (by rw [e1]; congr 1; simp only [Nat.pow_zero, Nat.mul_one, Nat.sub_zero]; rw [Nat.mod_eq_of_lt hh, Nat.div_eq_of_lt (by simpa using hl), Nat.or_zero]) rfl
  rw [← h]
  apply Array.ext_getElem?
  intro j
  rw [Array.getElem?_setIfInBounds, Array.getElem?_setIfInBounds, Array.getElem?_setIfInBounds, Array.getElem?_setIfInBounds, Array.getElem?_setIfInBounds, Array.getElem?_setIfInBounds]
  simp only [Array.size_setIfInBounds, lim_size]
  by_cases c2 : k + 2 = j
  · subst c2
    rw [if_neg (by omega), if_neg (by omega), if_pos rfl, if_pos (by omega), lim_at (by omega), limb_zero]
    congr 2
    exact (Int.natCast_eq_zero.2 (Nat.div_eq_of_lt (by simpa using hh))).symm
  · rw [if_neg c2]
    by_cases c1 : k + 1 = j
    · rw [if_pos c1, if_pos c1]
    · rw [if_neg c1, if_neg c1]
theorem wrapZ {x : Int} (h : -9223372036854775808 ≤ x) (h' : x < 9223372036854775808) : IntKind.i64.wrap x = x := by
  simp [IntKind.wrap, IntKind.bits, IntKind.signed]; omega
theorem laid_c (hi lo : Nat) (p : Int) (k n : Nat) (hh : hi < 18446744073709551616) (hl : lo < 18446744073709551616) (hn : n < 64) (hk : k ≤ 69) (hp : p + 2200 = ((64 * k + n : Nat) : Int)) (w : World) :
    Calls Tryz.prog 127 #[.int .u64 (hi : Nat), .int .u64 (lo : Nat), .int .i64 p] w fun e w' => e = .returned (.agg (lim (((hi * 18446744073709551616 + lo) * 2 ^ (64 * k + n) : Nat) : Int))) ∧ Below w.heap.size w w' := by
  obtain ⟨W0, hW0⟩ : ∃ W0, W0 = (w.alloc (.cells Tryz.zeroCells143 143)).alloc (.cells Tryz.zeroCells143 143) := ⟨_, rfl⟩
  have H0 := Lib.hid (show LaS w W0 (lim 0) by rw [hW0]; exact LaS.start w)
  have HW := Lib.hid hW0
  obtain ⟨at_, hat⟩ : ∃ at_ : Int, at_ = ((64 * k + n : Nat) : Int) := ⟨_, rfl⟩
  have e0 : p + 2200 = at_ := by omega
  have e1 : at_ / 64 = (k : Int) := by omega
  have e2 : at_ % 64 = (n : Int) := by omega
  have e3 : 0 ≤ at_ := by omega
  have e4 : at_ < 4608 := by omega
  obtain ⟨v0, hv0⟩ : ∃ v0 : Nat, v0 = lo * 2 ^ n % 18446744073709551616 := ⟨_, rfl⟩
  obtain ⟨v1, hv1⟩ : ∃ v1 : Nat, v1 = hi * 2 ^ n % 18446744073709551616 := ⟨_, rfl⟩
  have s0 : IntKind.u64.wrap ((lo : Int) * 2 ^ n) = (v0 : Int) := by rw [u64_wrap, hv0]; simp
  have s1 : IntKind.u64.wrap ((hi : Int) * 2 ^ n) = (v1 : Int) := by rw [u64_wrap, hv1]; simp
  have V0 := Lib.hid hv0
  have V1 := Lib.hid hv1
  clear hv0 hv1
  obtain ⟨Z, hZ⟩ : ∃ Z : Int, Z = (((hi * 18446744073709551616 + lo) * 2 ^ (64 * k + n) : Nat) : Int) := ⟨_, rfl⟩
  rw [← hZ]
  have HZZ := Lib.hid hZ
  clear hZ
  clear hp hat hW0
  go_enter Tryz.func127, Tryz.ntmps127
  go_upto_region 5 with fail
  rw [← HW.out]
  clear HW
  have c1 : W0.cell? ⟨w.heap.size + 1, k, none⟩ = some (.int .u64 0) := by
    rw [cell_of_row _ _ k _ _ _ H0.out.x, lim_at (by omega), limb_zero]
  have c3 : W0.frozen? ⟨w.heap.size + 1, k, none⟩ = false := frozen_of_row H0.out.x
  go_upto_region 6 with fail
  obtain ⟨W1, hW1⟩ : ∃ W1, W1 = W0.setCell ⟨w.heap.size + 1, k, none⟩ (.int .u64 (v0 : Nat)) := ⟨_, rfl⟩
  have HH1 := Lib.hid (show LaS w W1 ((lim 0).setIfInBounds k (.int .u64 (v0 : Nat))) by rw [hW1]; exact H0.out.put k _)
  rw [← hW1]
  clear hW1 H0 c1 c3
  have c1 : W1.cell? ⟨w.heap.size + 1, k + 1, none⟩ = some (.int .u64 0) := by
    rw [cell_of_row _ _ (k + 1) _ _ _ HH1.out.x, Array.getElem?_setIfInBounds, if_neg (by omega), lim_at (by omega), limb_zero]
  have c3 : W1.frozen? ⟨w.heap.size + 1, k + 1, none⟩ = false := frozen_of_row HH1.out.x
  go_upto_region 7 with fail
  obtain ⟨W2, hW2⟩ : ∃ W2, W2 = W1.setCell ⟨w.heap.size + 1, k + 1, none⟩ (.int .u64 (v1 : Nat)) := ⟨_, rfl⟩
  have HH2 := Lib.hid (show LaS w W2 (((lim 0).setIfInBounds k (.int .u64 (v0 : Nat))).setIfInBounds (k + 1) (.int .u64 (v1 : Nat))) by rw [hW2]; exact HH1.out.put (k + 1) _)
  rw [← hW2]
  clear hW2 HH1 c1 c3
  by_cases hn0 : n = 0
  · subst hn0
    have HF := Lib.hid (show LaS w W2 (lim Z) by
      have h := HH2.out
      rw [HZZ.out, ← laid_row0 hl hh hk (v0 := .int .u64 (v0 : Nat)) (v1 := .int .u64 (v1 : Nat)) (by rw [V0.out]; simp; omega) (by rw [V1.out]; simp; omega)]
      exact h)
    clear HH2 V0 V1 HZZ
    have HX := Lib.hid (HF.out.x)
    have HZ := Lib.hid (HF.out.z)
    have HBe := Lib.hid (HF.out.bel)
    clear HF
    go_upto_region 10 with fail
    refine wp_region_lit ?_
    refine wpList_load_row rfl 143 _ rfl (w.heap.size + 1) rfl 143 (lim Z) (0, 0) _ HX.out Tryz.underlying143 rfl (by rw [lim_size]; kernel_rfl) ?_
    refine wpList_store_row rfl 143 _ _ rfl w.heap.size (lim Z) rfl rfl 143 _ HZ.out (by rw [lim_size]; kernel_rfl) (by rw [lim_size, lim_size]) (mixL_one _ _ _) ?_
    obtain ⟨V, hV⟩ : ∃ V, V = W2.setRow w.heap.size (lim Z) := ⟨_, rfl⟩
    have HR := Lib.hid (show V.heap[w.heap.size]? = some (.cells (lim Z) 143) by rw [hV]; exact setRow_heap _ _ _ _ _ _ HZ.out)
    have HB := Lib.hid (show Below w.heap.size w V by rw [hV]; exact HBe.out.grown setRow_grown HBe.out.size (fun j hj => by injection hj with hj; omega))
    rw [← hV]
    clear hV HX HZ HBe
    go_wp2
    refine bodyPost_ret (v := .agg (lim Z)) (results_cell_row rfl _ _ w.heap.size 143 (lim Z) (0, 0) _ rfl HR.out Tryz.underlying143 rfl (by rw [lim_size]; kernel_rfl)) rfl ?_
    exact ⟨rfl, HB.out⟩
  · have hn1 : (0 : Int) < n := by omega
    have c1 : W2.cell? ⟨w.heap.size + 1, k + 1, none⟩ = some (.int .u64 (v1 : Nat)) := by
      rw [cell_of_row _ _ (k + 1) _ _ _ HH2.out.x, Array.getElem?_setIfInBounds, if_pos rfl, if_pos (by simp [lim_size]; omega)]
    have c3 : W2.frozen? ⟨w.heap.size + 1, k + 1, none⟩ = false := frozen_of_row HH2.out.x
    obtain ⟨v3, hv3⟩ : ∃ v3 : Nat, v3 = v1 ||| lo / 2 ^ (64 - n) := ⟨_, rfl⟩
    obtain ⟨v4, hv4⟩ : ∃ v4 : Nat, v4 = hi / 2 ^ (64 - n) := ⟨_, rfl⟩
    have s3 : bits .or .u64 (v1 : Int) ((lo : Int) / 2 ^ (64 - n)) = (v3 : Int) := by
      have h1 : lo / 2 ^ (64 - n) ≤ lo := Nat.div_le_self _ _
      have h := u64_or_nat v1 (lo / 2 ^ (64 - n)) (by rw [V1.out]; omega) (by omega)
      rw [hv3, ← h]
      congr 1
    have s4 : (hi : Int) / 2 ^ (64 - n) = (v4 : Int) := by rw [hv4]; simp
    have V3 := Lib.hid hv3
    have V4 := Lib.hid hv4
    clear hv3 hv4
    go_upto_region 9 with fail
    obtain ⟨W3, hW3⟩ : ∃ W3, W3 = W2.setCell ⟨w.heap.size + 1, k + 1, none⟩ (.int .u64 (v3 : Nat)) := ⟨_, rfl⟩
    have HH3 := Lib.hid (HH2.out.put (k + 1) (.int .u64 (v3 : Nat)))
    rw [← hW3] at HH3 ⊢
    clear hW3 HH2 c1 c3
    have c1 : W3.cell? ⟨w.heap.size + 1, k + 2, none⟩ = some (.int .u64 0) := by
      rw [cell_of_row _ _ (k + 2) _ _ _ HH3.out.x, Array.getElem?_setIfInBounds, if_neg (by omega), Array.getElem?_setIfInBounds, if_neg (by omega), Array.getElem?_setIfInBounds, if_neg (by omega), lim_at (by omega), limb_zero]
    have c3 : W3.frozen? ⟨w.heap.size + 1, k + 2, none⟩ = false := frozen_of_row HH3.out.x
    go_upto_region 10 with fail
    obtain ⟨W4, hW4⟩ : ∃ W4, W4 = W3.setCell ⟨w.heap.size + 1, k + 2, none⟩ (.int .u64 (v4 : Nat)) := ⟨_, rfl⟩
    have HH4 := Lib.hid (HH3.out.put (k + 2) (.int .u64 (v4 : Nat)))
    rw [← hW4] at HH4 ⊢
    clear hW4 HH3 c1 c3
    have HF := Lib.hid (show LaS w W4 (lim Z) by
      have h := HH4.out
      rw [laid_row hn hl hh hk (by rw [V0.out]) (by rw [V3.out, V1.out]) (by rw [V4.out]), ← HZZ.out] at h
      exact h)
    clear HH4 V0 V1 V3 V4 HZZ
    have HX := Lib.hid (HF.out.x)
    have HZ := Lib.hid (HF.out.z)
    have HBe := Lib.hid (HF.out.bel)
    clear HF
    refine wp_region_lit ?_
    refine wpList_load_row rfl 143 _ rfl (w.heap.size + 1) rfl 143 (lim Z) (0, 0) _ HX.out Tryz.underlying143 rfl (by rw [lim_size]; kernel_rfl) ?_
    refine wpList_store_row rfl 143 _ _ rfl w.heap.size (lim Z) rfl rfl 143 _ HZ.out (by rw [lim_size]; kernel_rfl) (by rw [lim_size, lim_size]) (mixL_one _ _ _) ?_
    obtain ⟨V, hV⟩ : ∃ V, V = W4.setRow w.heap.size (lim Z) := ⟨_, rfl⟩
    have HR := Lib.hid (show V.heap[w.heap.size]? = some (.cells (lim Z) 143) by rw [hV]; exact setRow_heap _ _ _ _ _ _ HZ.out)
    have HB := Lib.hid (show Below w.heap.size w V by rw [hV]; exact HBe.out.grown setRow_grown HBe.out.size (fun j hj => by injection hj with hj; omega))
    rw [← hV]
    clear hV HX HZ HBe
    go_wp2
    refine bodyPost_ret (v := .agg (lim Z)) (results_cell_row rfl _ _ w.heap.size 143 (lim Z) (0, 0) _ rfl HR.out Tryz.underlying143 rfl (by rw [lim_size]; kernel_rfl)) rfl ?_
    exact ⟨rfl, HB.out⟩
/-- A finite word as a whole number of 2^-2200. -/
def ofX (x : Nat) : Int := sval double x * 2 ^ 1126
theorem cast_two (K : Nat) : ((2 ^ K : Nat) : Int) = 2 ^ K := by rw [Int.natCast_pow]; rfl
theorem ofK_pos {x m K : Nat} {p : Int} (h : m * 2 ^ (p + 1074).toNat = val double (rung double x)) (hs : sgn double x = false) : (((0 * 18446744073709551616 + m) * 2 ^ ((p + 1074).toNat + K) : Nat) : Int) = sval double x * 2 ^ K := by
  unfold sval
  rw [hs, ← h, Nat.zero_mul, Nat.zero_add, Nat.pow_add, ← Nat.mul_assoc, Int.natCast_mul, cast_two K]
  rw [if_neg (by decide)]
theorem ofK_neg {x m K : Nat} {p : Int} (h : m * 2 ^ (p + 1074).toNat = val double (rung double x)) (hs : sgn double x = true) : -(((0 * 18446744073709551616 + m) * 2 ^ ((p + 1074).toNat + K) : Nat) : Int) = sval double x * 2 ^ K := by
  unfold sval
  rw [hs, ← h, Nat.zero_mul, Nat.zero_add, Nat.pow_add, ← Nat.mul_assoc, Int.natCast_mul, cast_two K]
  rw [if_pos rfl, Int.neg_mul]
/-- While an answer's row waits, and a number's row lies. -/
structure OfS (w V : World) (q g : Nat) (a : Int) : Prop where
  z : V.heap[q]? = some (.cells (lim 0) 143)
  x : V.heap[g]? = some (.cells (lim a) 143)
  bel : Below w.heap.size w V
  q : w.heap.size ≤ q
theorem OfS.below {w V V' : World} {q g : Nat} {a : Int} (h : OfS w V q g a) (hb : Below V.heap.size V V') : OfS w V' q g a := ⟨rowE_keep hb h.z, rowE_keep hb h.x, h.bel.trans (hb.mono h.bel.size), h.q⟩
theorem OfS.drewN {w V : World} {q g : Nat} {a : Int} (h : OfS w V q g a) (d : Nat) : OfS w (V.drewN d) q g a := ⟨h.z, h.x, below_drewN h.bel d, h.q⟩
theorem OfX_c (x : Nat) (hx : x < 18446744073709551616) (hf : fin double x) (w : World) : Calls Tryz.prog 120 #[.float .f64 x] w fun e w' => e = .returned (.agg (lim (ofX x))) ∧ Below w.heap.size w w' := by
  have HN := Lib.hid (neg_c x hx)
  go_enter Tryz.func120, Tryz.ntmps120
  go_wp2_with fail
  refine (taken_c x hx hf _).mono ?_
  rintro e W1 ⟨m, p, rfl, hm, hp1, hp2, hv, rfl⟩
  go_wp2_with fail
  refine (laid_c 0 m p ((p + 2200).toNat / 64) ((p + 2200).toNat % 64) (by decide) (by omega) (by omega) (by omega) (by omega) _).mono ?_
  rintro e W2 ⟨rfl, hb⟩
  obtain ⟨K, hK⟩ : ∃ K, K = 1126 := ⟨_, rfl⟩
  have hpK : 64 * ((p + 2200).toNat / 64) + (p + 2200).toNat % 64 = (p + 1074).toNat + K := by omega
  rw [hpK]
  obtain ⟨Z, hZ⟩ : ∃ Z : Int, Z = (((0 * 18446744073709551616 + m) * 2 ^ ((p + 1074).toNat + K) : Nat) : Int) := ⟨_, rfl⟩
  rw [← hZ]
  have HZ := Lib.hid (show (sgn double x = false → Z = ofX x) ∧ (sgn double x = true → -Z = ofX x) from ⟨fun h => by rw [hZ, ofK_pos hv h, hK]; rfl, fun h => by rw [hZ, ofK_neg hv h, hK]; rfl⟩)
  have HB2 := Lib.hid (show W2.heap[w.heap.size]? = some (.cells (lim 0) 143) from rowE_keep hb (by rw [← zero_lim]; exact heap_alloc_last w _))
  have HBe := Lib.hid (show Below w.heap.size w W2 from (belowE_new w _).trans (hb.mono (belowE_new w _).size))
  clear hZ hpK hv hp1 hp2 hm hb hK hf hx
  dsimp only
  rename_i hK
  refine hK _ _ ?_
  refine Go.Great.wpList_allocTo rfl _ rfl (.pointer (some ⟨W2.heap.size, 0, none⟩)) (.cells Tryz.zeroCells143 143) (by kernel_rfl) ?_
  obtain ⟨W3, hW3⟩ : ∃ W3, W3 = W2.alloc (.cells Tryz.zeroCells143 143) := ⟨_, rfl⟩
  obtain ⟨g, hg⟩ : ∃ g, g = W2.heap.size := ⟨_, rfl⟩
  have HO := Lib.hid (show OfS w W3 w.heap.size g 0 by
    rw [hW3, hg]
    exact ⟨rowE_alloc HB2.out, by rw [← zero_lim]; exact heap_alloc_last _ _, HBe.out.new (Nat.le_refl _) _, Nat.le_refl _⟩)
  have hgw : w.heap.size < g := by have := HBe.out.size; have h := HB2.out; rw [hg]; refine Nat.lt_of_not_le fun e => ?_; rw [Array.getElem?_eq_none (by omega)] at h; cases h
  rw [← hW3, ← hg]
  clear hW3 hg HB2 HBe
  refine wpList_store_row rfl 143 _ _ rfl g (lim Z) rfl rfl 143 _ HO.out.x (by rw [lim_size]; kernel_rfl) (by rw [lim_size, lim_size]) (mixL_one _ _ _) ?_
  obtain ⟨V, hV⟩ : ∃ V, V = W3.setRow g (lim Z) := ⟨_, rfl⟩
  have HP := Lib.hid (show OfS w V w.heap.size g Z by
    rw [hV]
    refine ⟨?_, setRow_heap _ _ _ _ _ _ HO.out.x, HO.out.bel.grown setRow_grown HO.out.bel.size (fun j hj => by injection hj with hj; omega), Nat.le_refl _⟩
    rw [setRow_grown.block _ (by have h := HO.out.z; rcases Nat.lt_or_ge w.heap.size W3.heap.size with h1 | h1; exact h1; rw [Array.getElem?_eq_none h1] at h; cases h) (fun e => by injection e; omega)]
    exact HO.out.z)
  rw [← hV]
  clear hV HO hgw
  obtain ⟨bb, hbb⟩ : ∃ bb, bb = sgn double x := ⟨_, rfl⟩
  rw [← hbb] at HN HZ
  clear hbb
  go_wp2_with fail
  refine (HN.out _).mono ?_
  rintro e W4 ⟨rfl, rfl⟩
  cases bb
  case true =>
    go_upto_region 4 with fail
    refine wp_region_lit ?_
    refine wpList_load_row rfl 143 _ rfl g rfl 143 (lim Z) (0, 0) _ HP.out.x Tryz.underlying143 rfl (by rw [lim_size]; kernel_rfl) ?_
    have HOp := Lib.hid (Opp_c Z V)
    go_wp2_with fail
    refine HOp.out.mono ?_
    rintro e V1 ⟨rfl, hb⟩
    have HP1 := Lib.hid (HP.out.below hb)
    clear hb HP HOp
    dsimp only
    rename_i hK
    refine hK _ _ ?_
    refine wpList_store_row rfl 143 _ _ rfl w.heap.size (lim (-Z)) rfl rfl 143 _ HP1.out.z (by rw [lim_size]; kernel_rfl) (by rw [lim_size, lim_size]) (mixL_one _ _ _) ?_
    obtain ⟨V9, hV9⟩ : ∃ V9, V9 = V1.setRow w.heap.size (lim (-Z)) := ⟨_, rfl⟩
    have HR := Lib.hid (show V9.heap[w.heap.size]? = some (.cells (lim (-Z)) 143) by rw [hV9]; exact setRow_heap _ _ _ _ _ _ HP1.out.z)
    have HB := Lib.hid (show Below w.heap.size w V9 by rw [hV9]; exact HP1.out.bel.grown setRow_grown HP1.out.bel.size (fun j hj => by injection hj with hj; omega))
    rw [← hV9]
    clear hV9 HP1
    go_wp2
    refine bodyPost_ret (v := .agg (lim (-Z))) (results_cell_row rfl _ _ w.heap.size 143 (lim (-Z)) (0, 0) _ rfl HR.out Tryz.underlying143 rfl (by rw [lim_size]; kernel_rfl)) rfl ?_
    exact ⟨by rw [HZ.out.2 trivial], HB.out⟩
  case false =>
    go_upto_region 5 with fail
    refine wp_region_lit ?_
    refine wpList_load_row rfl 143 _ rfl g rfl 143 (lim Z) (0, 0) _ HP.out.x Tryz.underlying143 rfl (by rw [lim_size]; kernel_rfl) ?_
    refine wpList_store_row rfl 143 _ _ rfl w.heap.size (lim Z) rfl rfl 143 _ HP.out.z (by rw [lim_size]; kernel_rfl) (by rw [lim_size, lim_size]) (mixL_one _ _ _) ?_
    obtain ⟨V9, hV9⟩ : ∃ V9, V9 = V.setRow w.heap.size (lim Z) := ⟨_, rfl⟩
    have HR := Lib.hid (show V9.heap[w.heap.size]? = some (.cells (lim Z) 143) by rw [hV9]; exact setRow_heap _ _ _ _ _ _ HP.out.z)
    have HB := Lib.hid (show Below w.heap.size w V9 by rw [hV9]; exact HP.out.bel.grown setRow_grown HP.out.bel.size (fun j hj => by injection hj with hj; omega))
    rw [← hV9]
    clear hV9 HP
    go_wp2
    refine bodyPost_ret (v := .agg (lim Z)) (results_cell_row rfl _ _ w.heap.size 143 (lim Z) (0, 0) _ rfl HR.out Tryz.underlying143 rfl (by rw [lim_size]; kernel_rfl)) rfl ?_
    exact ⟨by rw [HZ.out.1 trivial], HB.out⟩
/-- A product of two finite words as a whole number of 2^-2200. -/
def prodX (a b : Nat) : Int := sval double a * sval double b * 2 ^ 52
theorem prodK {a b m n hi lo K : Nat} {p q : Int} (hm : m * 2 ^ (p + 1074).toNat = val double (rung double a)) (hn : n * 2 ^ (q + 1074).toNat = val double (rung double b)) (h : hi * 18446744073709551616 + lo = m * n) :
    (if (sgn double a ^^ sgn double b) then -(((hi * 18446744073709551616 + lo) * 2 ^ ((p + 1074).toNat + (q + 1074).toNat + K) : Nat) : Int) else (((hi * 18446744073709551616 + lo) * 2 ^ ((p + 1074).toNat + (q + 1074).toNat + K) : Nat) : Int)) = sval double a * sval double b * 2 ^ K := by
  have e : (hi * 18446744073709551616 + lo) * 2 ^ ((p + 1074).toNat + (q + 1074).toNat + K) = val double (rung double a) * val double (rung double b) * 2 ^ K := by
    rw [h, Nat.pow_add, Nat.pow_add, ← hm, ← hn]; ac_rfl
  have e1 : sval double a * sval double b = if (sgn double a ^^ sgn double b) then -((val double (rung double a) * val double (rung double b) : Nat) : Int) else ((val double (rung double a) * val double (rung double b) : Nat) : Int) := (sgn_mul _ _ _ _).symm
  rw [e1, e, Int.natCast_mul _ (2 ^ K), cast_two K]
  split
  · rw [Int.neg_mul]
  · rfl
theorem Product_c (a b : Nat) (ha : a < 18446744073709551616) (hb : b < 18446744073709551616) (hfa : fin double a) (hfb : fin double b) (w : World) : Calls Tryz.prog 118 #[.float .f64 a, .float .f64 b] w fun e w' => e = .returned (.agg (lim (prodX a b))) ∧ Below w.heap.size w w' := by
  have HNa := Lib.hid (neg_c a ha)
  have HNb := Lib.hid (neg_c b hb)
  have HTa := Lib.hid (taken_c a ha hfa)
  have HTb := Lib.hid (taken_c b hb hfb)
  clear ha hb hfa hfb
  go_enter Tryz.func118, Tryz.ntmps118
  go_wp2_with fail
  refine (HTa.out _).mono ?_
  rintro e W1 ⟨m, p, rfl, hm, hp1, hp2, hv, rfl⟩
  go_wp2_with fail
  refine (HTb.out _).mono ?_
  rintro e W1 ⟨n, q, rfl, hn, hq1, hq2, hu, rfl⟩
  go_wp2_with fail
  refine (times_c m n hm hn _).mono ?_
  rintro e W1 ⟨⟨hi, lo, rfl, hx, hlo, hhi⟩, rfl⟩
  have hpq : IntKind.i64.wrap (p + q) = p + q := wrapZ (by omega) (by omega)
  go_wp2_with fail
  refine (laid_c hi lo (p + q) ((p + q + 2200).toNat / 64) ((p + q + 2200).toNat % 64) hhi hlo (by omega) (by omega) (by omega) _).mono ?_
  rintro e W2 ⟨rfl, hb⟩
  obtain ⟨K, hK⟩ : ∃ K, K = 52 := ⟨_, rfl⟩
  have hpK : 64 * ((p + q + 2200).toNat / 64) + (p + q + 2200).toNat % 64 = (p + 1074).toNat + (q + 1074).toNat + K := by omega
  rw [hpK]
  obtain ⟨Z, hZ⟩ : ∃ Z : Int, Z = (((hi * 18446744073709551616 + lo) * 2 ^ ((p + 1074).toNat + (q + 1074).toNat + K) : Nat) : Int) := ⟨_, rfl⟩
  rw [← hZ]
  have HZ := Lib.hid (show (if (sgn double a ^^ sgn double b) then -Z else Z) = prodX a b by rw [hZ, prodK hv hu hx, hK]; rfl)
  have HB2 := Lib.hid (show W2.heap[w.heap.size]? = some (.cells (lim 0) 143) from rowE_keep hb (by rw [← zero_lim]; exact heap_alloc_last w _))
  have HBe := Lib.hid (show Below w.heap.size w W2 from (belowE_new w _).trans (hb.mono (belowE_new w _).size))
  clear hZ hpK hv hu hx hp1 hp2 hq1 hq2 hm hn hb hK hlo hhi hpq HTa HTb
  dsimp only
  rename_i hK
  refine hK _ _ ?_
  refine Go.Great.wpList_allocTo rfl _ rfl (.pointer (some ⟨W2.heap.size, 0, none⟩)) (.cells Tryz.zeroCells143 143) (by kernel_rfl) ?_
  obtain ⟨W3, hW3⟩ : ∃ W3, W3 = W2.alloc (.cells Tryz.zeroCells143 143) := ⟨_, rfl⟩
  obtain ⟨g, hg⟩ : ∃ g, g = W2.heap.size := ⟨_, rfl⟩
  have HO := Lib.hid (show OfS w W3 w.heap.size g 0 by
    rw [hW3, hg]
    exact ⟨rowE_alloc HB2.out, by rw [← zero_lim]; exact heap_alloc_last _ _, HBe.out.new (Nat.le_refl _) _, Nat.le_refl _⟩)
  have hgw : w.heap.size < g := by have := HBe.out.size; have h := HB2.out; rw [hg]; refine Nat.lt_of_not_le fun e => ?_; rw [Array.getElem?_eq_none (by omega)] at h; cases h
  rw [← hW3, ← hg]
  clear hW3 hg HB2 HBe
  refine wpList_store_row rfl 143 _ _ rfl g (lim Z) rfl rfl 143 _ HO.out.x (by rw [lim_size]; kernel_rfl) (by rw [lim_size, lim_size]) (mixL_one _ _ _) ?_
  obtain ⟨V, hV⟩ : ∃ V, V = W3.setRow g (lim Z) := ⟨_, rfl⟩
  have HP := Lib.hid (show OfS w V w.heap.size g Z by
    rw [hV]
    refine ⟨?_, setRow_heap _ _ _ _ _ _ HO.out.x, HO.out.bel.grown setRow_grown HO.out.bel.size (fun j hj => by injection hj with hj; omega), Nat.le_refl _⟩
    rw [setRow_grown.block _ (by have h := HO.out.z; rcases Nat.lt_or_ge w.heap.size W3.heap.size with h1 | h1; exact h1; rw [Array.getElem?_eq_none h1] at h; cases h) (fun e => by injection e; omega)]
    exact HO.out.z)
  rw [← hV]
  clear hV HO hgw
  obtain ⟨sa, hsa⟩ : ∃ sa, sa = sgn double a := ⟨_, rfl⟩
  obtain ⟨sb, hsb⟩ : ∃ sb, sb = sgn double b := ⟨_, rfl⟩
  rw [← hsa] at HNa HZ
  rw [← hsb] at HNb HZ
  clear hsa hsb
  go_wp2_with fail
  refine (HNa.out _).mono ?_
  rintro e W4 ⟨rfl, rfl⟩
  go_wp2_with fail
  refine (HNb.out _).mono ?_
  rintro e W4 ⟨rfl, rfl⟩
  clear HNa HNb
  cases sa
  case false =>
    cases sb
    case false =>
      have HZ' := Lib.hid (show Z = prodX a b from HZ.out)
      clear HZ
      go_upto_region 7 with fail
      refine wp_region_lit ?_
      refine wpList_load_row rfl 143 _ rfl g rfl 143 (lim Z) (0, 0) _ HP.out.x Tryz.underlying143 rfl (by rw [lim_size]; kernel_rfl) ?_
      refine wpList_store_row rfl 143 _ _ rfl w.heap.size (lim Z) rfl rfl 143 _ HP.out.z (by rw [lim_size]; kernel_rfl) (by rw [lim_size, lim_size]) (mixL_one _ _ _) ?_
      obtain ⟨V9, hV9⟩ : ∃ V9, V9 = V.setRow w.heap.size (lim Z) := ⟨_, rfl⟩
      have HR := Lib.hid (show V9.heap[w.heap.size]? = some (.cells (lim Z) 143) by rw [hV9]; exact setRow_heap _ _ _ _ _ _ HP.out.z)
      have HB := Lib.hid (show Below w.heap.size w V9 by rw [hV9]; exact HP.out.bel.grown setRow_grown HP.out.bel.size (fun j hj => by injection hj with hj; omega))
      rw [← hV9]
      clear hV9 HP
      go_wp2
      refine bodyPost_ret (v := .agg (lim Z)) (results_cell_row rfl _ _ w.heap.size 143 (lim Z) (0, 0) _ rfl HR.out Tryz.underlying143 rfl (by rw [lim_size]; kernel_rfl)) rfl ?_
      exact ⟨by rw [HZ'.out], HB.out⟩
    case true =>
      have HZ' := Lib.hid (show -Z = prodX a b from HZ.out)
      clear HZ
      go_upto_region 6 with fail
      refine wp_region_lit ?_
      refine wpList_load_row rfl 143 _ rfl g rfl 143 (lim Z) (0, 0) _ HP.out.x Tryz.underlying143 rfl (by rw [lim_size]; kernel_rfl) ?_
      have HOp := Lib.hid (Opp_c Z V)
      go_wp2_with fail
      refine HOp.out.mono ?_
      rintro e V1 ⟨rfl, hb⟩
      have HP1 := Lib.hid (HP.out.below hb)
      clear hb HP HOp
      dsimp only
      rename_i hK
      refine hK _ _ ?_
      refine wpList_store_row rfl 143 _ _ rfl w.heap.size (lim (-Z)) rfl rfl 143 _ HP1.out.z (by rw [lim_size]; kernel_rfl) (by rw [lim_size, lim_size]) (mixL_one _ _ _) ?_
      obtain ⟨V9, hV9⟩ : ∃ V9, V9 = V1.setRow w.heap.size (lim (-Z)) := ⟨_, rfl⟩
      have HR := Lib.hid (show V9.heap[w.heap.size]? = some (.cells (lim (-Z)) 143) by rw [hV9]; exact setRow_heap _ _ _ _ _ _ HP1.out.z)
      have HB := Lib.hid (show Below w.heap.size w V9 by rw [hV9]; exact HP1.out.bel.grown setRow_grown HP1.out.bel.size (fun j hj => by injection hj with hj; omega))
      rw [← hV9]
      clear hV9 HP1
      go_wp2
      refine bodyPost_ret (v := .agg (lim (-Z))) (results_cell_row rfl _ _ w.heap.size 143 (lim (-Z)) (0, 0) _ rfl HR.out Tryz.underlying143 rfl (by rw [lim_size]; kernel_rfl)) rfl ?_
      exact ⟨by rw [HZ'.out], HB.out⟩
  case true =>
    cases sb
    case false =>
      have HZ' := Lib.hid (show -Z = prodX a b from HZ.out)
      clear HZ
      go_upto_region 6 with fail
      refine wp_region_lit ?_
      refine wpList_load_row rfl 143 _ rfl g rfl 143 (lim Z) (0, 0) _ HP.out.x Tryz.underlying143 rfl (by rw [lim_size]; kernel_rfl) ?_
      have HOp := Lib.hid (Opp_c Z V)
      go_wp2_with fail
      refine HOp.out.mono ?_
      rintro e V1 ⟨rfl, hb⟩
      have HP1 := Lib.hid (HP.out.below hb)
      clear hb HP HOp
      dsimp only
      rename_i hK
      refine hK _ _ ?_
      refine wpList_store_row rfl 143 _ _ rfl w.heap.size (lim (-Z)) rfl rfl 143 _ HP1.out.z (by rw [lim_size]; kernel_rfl) (by rw [lim_size, lim_size]) (mixL_one _ _ _) ?_
      obtain ⟨V9, hV9⟩ : ∃ V9, V9 = V1.setRow w.heap.size (lim (-Z)) := ⟨_, rfl⟩
      have HR := Lib.hid (show V9.heap[w.heap.size]? = some (.cells (lim (-Z)) 143) by rw [hV9]; exact setRow_heap _ _ _ _ _ _ HP1.out.z)
      have HB := Lib.hid (show Below w.heap.size w V9 by rw [hV9]; exact HP1.out.bel.grown setRow_grown HP1.out.bel.size (fun j hj => by injection hj with hj; omega))
      rw [← hV9]
      clear hV9 HP1
      go_wp2
      refine bodyPost_ret (v := .agg (lim (-Z))) (results_cell_row rfl _ _ w.heap.size 143 (lim (-Z)) (0, 0) _ rfl HR.out Tryz.underlying143 rfl (by rw [lim_size]; kernel_rfl)) rfl ?_
      exact ⟨by rw [HZ'.out], HB.out⟩
    case true =>
      have HZ' := Lib.hid (show Z = prodX a b from HZ.out)
      clear HZ
      go_upto_region 7 with fail
      refine wp_region_lit ?_
      refine wpList_load_row rfl 143 _ rfl g rfl 143 (lim Z) (0, 0) _ HP.out.x Tryz.underlying143 rfl (by rw [lim_size]; kernel_rfl) ?_
      refine wpList_store_row rfl 143 _ _ rfl w.heap.size (lim Z) rfl rfl 143 _ HP.out.z (by rw [lim_size]; kernel_rfl) (by rw [lim_size, lim_size]) (mixL_one _ _ _) ?_
      obtain ⟨V9, hV9⟩ : ∃ V9, V9 = V.setRow w.heap.size (lim Z) := ⟨_, rfl⟩
      have HR := Lib.hid (show V9.heap[w.heap.size]? = some (.cells (lim Z) 143) by rw [hV9]; exact setRow_heap _ _ _ _ _ _ HP.out.z)
      have HB := Lib.hid (show Below w.heap.size w V9 by rw [hV9]; exact HP.out.bel.grown setRow_grown HP.out.bel.size (fun j hj => by injection hj with hj; omega))
      rw [← hV9]
      clear hV9 HP
      go_wp2
      refine bodyPost_ret (v := .agg (lim Z)) (results_cell_row rfl _ _ w.heap.size 143 (lim Z) (0, 0) _ rfl HR.out Tryz.underlying143 rfl (by rw [lim_size]; kernel_rfl)) rfl ?_
      exact ⟨by rw [HZ'.out], HB.out⟩
end Go.Proofs.YtandllekeimpgaaGreat
