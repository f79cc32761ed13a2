/- Layer 3: NarrowSteps: the plain law. -/
import Derived.Test.YtmbjaadhkhhaeaaNsP
import Derived.Test.YtmbjaadhkhhaeaaNxt
namespace Go.Proofs.Ytmbjaadhkhhaeaa
open Go.RowKit Fl Ieee
set_option maxRecDepth 20000
theorem wide_fin {x r : Nat} (h : IsWide x r) : isFin double r = isFin single x := by
  have e : ∀ (f : Format) (y : Nat), isFin f y = (!isNaN f y && !isInf f y) := fun f y => by
    unfold isFin isNaN isInf
    rcases Nat.lt_trichotomy (rung f y) f.infRung with h | h | h
    · rw [decide_eq_true h, decide_eq_false (by omega), decide_eq_false (by omega)]; rfl
    · rw [decide_eq_false (by omega), decide_eq_false (by omega), decide_eq_true h]; rfl
    · rw [decide_eq_false (by omega), decide_eq_true h]; rfl
  have h1 : isNaN double r = isNaN single x := by
    have a := isNaN_cn .f64 r
    have b := isNaN_cn .f32 x
    rw [h.1] at a
    exact a.symm.trans ((isNaN_fwide _).trans b)
  rw [e, e, h1, isInf_of_wide h]
theorem wide_eq {x r : Nat} (h : IsWide x r) (hx : fin single x) : r = fwide x := by
  have hn : isNaN single x = false := by unfold fin at hx; unfold isNaN; simp; omega
  have h1 := h.1
  rw [cn_of_not (k := .f32) hn] at h1
  have h2 := (fwide_fin hx).2.1
  have hn2 : isNaN double (fwide x) = false := by unfold fin at h2; unfold isNaN; simp; omega
  by_cases hr : isNaN double r = true
  · rw [cn_of_nan (k := .f64) hr] at h1
    rw [← h1] at hn2
    exact absurd (isNaN_qn .f64) (by rw [show isNaN FloatKind.f64.format (qn .f64) = false from hn2]; decide)
  · rw [cn_of_not (k := .f64) (Bool.eq_false_iff.2 hr)] at h1
    exact h1
/-- A word of a sign and a rung. -/
theorem key_w (s : Bool) {r : Nat} (h : r < 2147483648) : key single (single.word s r) = if s then -(r : Int) else (r : Int) := by
  have hs : r < single.signWeight := by rw [sw32]; exact h
  unfold key
  rw [sgn_word s hs, rung_word s hs]
theorem word_w (s : Bool) (r : Nat) : single.word s r = if s then 2147483648 + r else r := by
  unfold Format.word; rw [sw32]
theorem key_pos {n : Nat} (h : n < 2147483648) : key single n = n := by
  have := key_w false h
  rw [word_w] at this
  simpa using this
theorem key_neg {n : Nat} (h : n < 2147483648) : key single (2147483648 + n) = -(n : Int) := by
  have := key_w true h
  rw [word_w] at this
  simpa using this
theorem key_fin {x : Nat} (hx : fin single x) : -2139095040 < key single x ∧ key single x < 2139095040 := by
  unfold fin at hx
  rw [inf_single] at hx
  unfold key
  split <;> omega
theorem not_nan_fin {x : Nat} (hx : fin single x) : isNaN single x = false := by unfold fin at hx; unfold isNaN; simp; omega
theorem key_up {u : Nat} (hu : u < 4294967296) (hx : fin single u) : key single (nxt u true) = key single u + 1 := by
  obtain ⟨K, hK⟩ : ∃ K, K = key single u := ⟨_, rfl⟩
  obtain ⟨h1, h2⟩ := key_fin hx
  rw [nxt_up hu (not_nan_fin hx) hK]
  rw [← hK] at h1 h2 ⊢
  rw [if_neg (by omega)]
  by_cases h3 : K + 1 = 0
  · rw [if_pos h3, h3]; exact key_neg (n := 0) (by omega)
  · rw [if_neg h3]
    by_cases h4 : K + 1 < 0
    · rw [if_pos h4]
      have e : (2147483648 - (K + 1)).toNat = 2147483648 + (-(K + 1)).toNat := by omega
      rw [e, key_neg (by omega)]; omega
    · rw [if_neg h4, key_pos (by omega)]; omega
theorem key_down {u : Nat} (hu : u < 4294967296) (hx : fin single u) : key single (nxt u false) = key single u - 1 := by
  obtain ⟨K, hK⟩ : ∃ K, K = key single u := ⟨_, rfl⟩
  obtain ⟨h1, h2⟩ := key_fin hx
  rw [nxt_down hu (not_nan_fin hx) hK]
  rw [← hK] at h1 h2 ⊢
  rw [if_neg (by omega)]
  by_cases h4 : K - 1 < 0
  · rw [if_pos h4]
    have e : (2147483648 - (K - 1)).toNat = 2147483648 + (-(K - 1)).toNat := by omega
    rw [e, key_neg (by omega)]; omega
  · rw [if_neg h4, key_pos (by omega)]; omega
theorem nxt_lt {u : Nat} (b : Bool) (hu : u < 4294967296) (hx : fin single u) : nxt u b < 4294967296 := by
  obtain ⟨K, hK⟩ : ∃ K, K = key single u := ⟨_, rfl⟩
  obtain ⟨h1, h2⟩ := key_fin hx
  rw [← hK] at h1 h2
  cases b
  · rw [nxt_down hu (not_nan_fin hx) hK]
    split
    · omega
    · split <;> omega
  · rw [nxt_up hu (not_nan_fin hx) hK]
    split
    · omega
    · split
      · omega
      · split <;> omega
theorem flt_key {x y : Nat} (hx : fin single x) (hy : fin single y) (h : key single x < key single y) : flt .f32 x y = true := by
  have e := flt_def .f32 x y
  have nx : isNaN FloatKind.f32.format x = false := not_nan_fin hx
  have ny : isNaN FloatKind.f32.format y = false := not_nan_fin hy
  rw [nx, ny, decide_eq_true (show key FloatKind.f32.format x < key FloatKind.f32.format y from h)] at e
  rw [e]; rfl
theorem feq_key {x y : Nat} (hx : isNaN single x = false) (hy : isNaN single y = false) (h : key single x = key single y) : feq .f32 x y = true := by
  have e := feq_def .f32 x y
  have nx : isNaN FloatKind.f32.format x = false := hx
  have ny : isNaN FloatKind.f32.format y = false := hy
  rw [nx, ny, decide_eq_true (show key FloatKind.f32.format x = key FloatKind.f32.format y from h)] at e
  rw [e]; rfl
theorem fin_key {x : Nat} (h1 : -2139095040 < key single x) (h2 : key single x < 2139095040) : fin single x := by
  unfold fin
  rw [inf_single]
  unfold key at h1 h2
  by_cases h : sgn single x = true
  · rw [if_pos h] at h1; omega
  · rw [if_neg h] at h2; omega
theorem narrow_bits {m : Nat} (hm : fin double m) (hr : fin single (fnarrow m)) : floatToFloatBits .f64 m .f32 = some (fnarrow m) := by
  obtain ⟨k, e, hr', -, -⟩ := read_fin hm
  have hn : isNaN double m = false := by unfold fin at hm; unfold isNaN; simp; omega
  have e1 : fnarrow m = single.nearest (sgn double m) k e := by
    unfold fnarrow
    rw [hn, hr', if_neg Bool.false_ne_true]
    exact write_num single _ _ _
  rw [e1] at hr ⊢
  have hr2 : FloatKind.decode .f64 m = .number (sgn double m) k e := hr'
  have hni : (FloatKind.decode .f32 (FloatKind.encode .f32 (.number (sgn double m) k e))).isInfinity = false := by
    obtain ⟨m', e', h', -⟩ := read_fin hr
    show (single.read (single.nearest (sgn double m) k e)).isInfinity = false
    rw [h']; rfl
  unfold floatToFloatBits
  rw [if_neg (by decide), hr2]
  simp only [hni]
  rfl
/-- The middle of a number and the next one. -/
theorem mid_steps {u two : Nat} (htwo : Ex two 1 1075) (hu : u < 4294967296) (hx : fin single u) (hU : fin single (nxt u true)) :
    isNaN double (fadd (fwide u) (fwide (nxt u true))) = false ∧ isNaN double (fdiv (fadd (fwide u) (fwide (nxt u true))) two) = false ∧ ∃ r, floatToFloatBits .f64 (fdiv (fadd (fwide u) (fwide (nxt u true))) two) .f32 = some r ∧ (feq .f32 r u = true ∨ feq .f32 r (nxt u true) = true) := by
  obtain ⟨K, hK⟩ : ∃ K, K = key single u := ⟨_, rfl⟩
  obtain ⟨U, hUe⟩ : ∃ U, U = nxt u true := ⟨_, rfl⟩
  have hKU : key single U = K + 1 := by rw [hUe, hK]; exact key_up hu hx
  rw [← hUe] at hU ⊢
  obtain ⟨a1, a2⟩ := key_fin hx
  obtain ⟨b1, b2⟩ := key_fin hU
  have nx := not_nan_fin hx
  have nU := not_nan_fin hU
  rw [hKU] at b1 b2
  rw [← hK] at a1 a2
  by_cases h0 : 0 ≤ K
  · obtain ⟨a, ha⟩ : ∃ a : Nat, K = a := ⟨K.toNat, by omega⟩
    have hra : rung single u = a := by
      unfold key at hK
      split at hK <;> omega
    have hrU : rung single U = a + 1 := by
      unfold key at hKU
      split at hKU <;> omega
    have hsU : sgn single U = false := by
      unfold key at hKU
      split at hKU
      · omega
      · rename_i h; simpa using h
    obtain ⟨c, q, hv, hv1, hc, hq⟩ := val_pair a (by rw [inf_single]; omega)
    have x1 := ex_fwide (E := 925) rfl hx (by rw [hra]; exact hv)
    have x2 := ex_fwide (E := 925) rfl hU (by rw [hrU]; exact hv1)
    have e1 : (if sgn single u then -(c : Int) else c) = c := by
      split
      · rename_i h
        have : a = 0 := by
          unfold key at hK
          rw [if_pos h] at hK
          omega
        rw [this, val_zero] at hv
        rcases Nat.mul_eq_zero.1 hv.symm with h | h
        · rw [h]; rfl
        · exact absurd h (by have := Nat.two_pow_pos q; omega)
      · rfl
    rw [e1] at x1
    rw [hsU, if_neg Bool.false_ne_true] at x2
    have x0 := x1.add x2 (by omega) (by omega)
    have x3 := Ex.half (k := q + 924) x0 htwo (by omega) (by omega)
    have ns := x0.nan
    clear x0
    have e2 : (c : Int) + ((c + 1 : Nat) : Int) = if false then -((2 * c + 1 : Nat) : Int) else ((2 * c + 1 : Nat) : Int) := by
      rw [if_neg Bool.false_ne_true]; omega
    rw [e2] at x3
    have hm := mid_narrow (s := false) (by rw [inf_single]; omega) hv hv1 (E := 924) rfl x3
    obtain ⟨m, hme⟩ : ∃ m, m = fdiv (fadd (fwide u) (fwide U)) two := ⟨_, rfl⟩
    rw [← hme] at x3 hm ⊢
    have k0 := key_w false (r := a) (by omega)
    have k1 := key_w false (r := a + 1) (by omega)
    rw [if_neg Bool.false_ne_true] at k0 k1
    rcases hm with hm | hm
    · have hf : fin single (fnarrow m) := by rw [hm]; exact fin_key (by rw [k0]; omega) (by rw [k0]; omega)
      exact ⟨ns, x3.nan, _, narrow_bits x3.2.1 hf, .inl (feq_key (not_nan_fin hf) nx (by rw [hm, k0, ← hK, ha]))⟩
    · have hf : fin single (fnarrow m) := by rw [hm]; exact fin_key (by rw [k1]; omega) (by rw [k1]; omega)
      exact ⟨ns, x3.nan, _, narrow_bits x3.2.1 hf, .inr (feq_key (not_nan_fin hf) nU (by rw [hm, k1, hKU, ha]; omega))⟩
  · obtain ⟨a, ha⟩ : ∃ a : Nat, K = -((a + 1 : Nat) : Int) := ⟨(-K - 1).toNat, by omega⟩
    have hra : rung single u = a + 1 := by
      unfold key at hK
      split at hK <;> omega
    have hsu : sgn single u = true := by
      unfold key at hK
      split at hK
      · assumption
      · omega
    have hrU : rung single U = a := by
      unfold key at hKU
      split at hKU <;> omega
    obtain ⟨c, q, hv, hv1, hc, hq⟩ := val_pair a (by rw [inf_single]; omega)
    have x1 := ex_fwide (E := 925) rfl hx (by rw [hra]; exact hv1)
    have x2 := ex_fwide (E := 925) rfl hU (by rw [hrU]; exact hv)
    have e1 : (if sgn single U then -(c : Int) else c) = -(c : Int) := by
      split
      · rfl
      · rename_i h
        have : a = 0 := by
          unfold key at hKU
          rw [if_neg h] at hKU
          omega
        rw [this, val_zero] at hv
        rcases Nat.mul_eq_zero.1 hv.symm with h | h
        · rw [h]; rfl
        · exact absurd h (by have := Nat.two_pow_pos q; omega)
    rw [e1] at x2
    rw [hsu, if_pos rfl] at x1
    have x0 := x1.add x2 (by omega) (by omega)
    have x3 := Ex.half (k := q + 924) x0 htwo (by omega) (by omega)
    have ns := x0.nan
    clear x0
    have e2 : -((c + 1 : Nat) : Int) + -(c : Int) = if true then -((2 * c + 1 : Nat) : Int) else ((2 * c + 1 : Nat) : Int) := by
      rw [if_pos rfl]; omega
    rw [e2] at x3
    have hm := mid_narrow (s := true) (by rw [inf_single]; omega) hv hv1 (E := 924) rfl x3
    obtain ⟨m, hme⟩ : ∃ m, m = fdiv (fadd (fwide u) (fwide U)) two := ⟨_, rfl⟩
    rw [← hme] at x3 hm ⊢
    have k0 := key_w true (r := a) (by omega)
    have k1 := key_w true (r := a + 1) (by omega)
    rw [if_pos rfl] at k0 k1
    rcases hm with hm | hm
    · have hf : fin single (fnarrow m) := by rw [hm]; exact fin_key (by rw [k0]; omega) (by rw [k0]; omega)
      exact ⟨ns, x3.nan, _, narrow_bits x3.2.1 hf, .inr (feq_key (not_nan_fin hf) nU (by rw [hm, k0, hKU, ha]; omega))⟩
    · have hf : fin single (fnarrow m) := by rw [hm]; exact fin_key (by rw [k1]; omega) (by rw [k1]; omega)
      exact ⟨ns, x3.nan, _, narrow_bits x3.2.1 hf, .inl (feq_key (not_nan_fin hf) nx (by rw [hm, k1, ← hK, ha]))⟩
theorem ex_two : Ex 4611686018427387904 1 1075 := by
  refine ⟨by decide, ?_, ?_⟩
  · unfold fin; decide +kernel
  · decide +kernel
end Go.Proofs.Ytmbjaadhkhhaeaa
