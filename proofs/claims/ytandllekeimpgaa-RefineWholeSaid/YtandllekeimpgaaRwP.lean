/- Layer 11: what is left of whole numbers is told exactly; both signs turned about change nothing. -/
import Derived.Test.YtandllekeimpgaaRf4
import Derived.Test.YtandllekeimpgaaTsQ
namespace Go.Proofs.Ytandllekeimpgaa
open Fl Ieee
/-- A list whose sum is told exactly. -/
def Sx (L : List Nat) (s : Int) (B : Nat) : Prop := Ex (sumErr L).1 s 1074 ∧ (∀ e ∈ (sumErr L).2, Ex e 0 1074) ∧ s.natAbs ≤ B
def Ez (L : List Nat) : Prop := ∀ e ∈ L, Ex e 0 1074
theorem ex_null : Ex 0 0 1074 := ex_zero (by decide) (by decide)
theorem sx_nil : Sx [] 0 0 := ⟨ex_null, fun e he => (by cases he), Nat.le_refl _⟩
theorem ex0_add {x y : Nat} (hx : Ex x 0 1074) (hy : Ex y 0 1074) : Ex (fadd x y) 0 1074 := (Ex.add hx hy (by decide) (by decide)).at (by decide)
theorem two_ex {x y : Nat} {a b : Int} (hx : Ex x a 1074) (hy : Ex y b 1074) (hb : a.natAbs + b.natAbs < 9007199254740992) : Ex (twoSum x y).1 (a + b) 1074 ∧ Ex (twoSum x y).2 0 1074 := by
  have hs := Ex.add hx hy (by omega) (by decide)
  have ht := (Ex.sub hs hx (by omega) (by decide)).at (show a + b - a = b by omega)
  have hu := (Ex.sub hs ht (by omega) (by decide)).at (show a + b - b = a by omega)
  have hv := (Ex.sub hx hu (by omega) (by decide)).at (show a - a = 0 by omega)
  have hw := (Ex.sub hy ht (by omega) (by decide)).at (show b - b = 0 by omega)
  exact ⟨hs, ex0_add hv hw⟩
theorem Sx.snoc {L : List Nat} {s z : Int} {B b x : Nat} (h : Sx L s B) (hx : Ex x z 1074) (hb : z.natAbs ≤ b) (hB : B + b < 9007199254740992) : Sx (L ++ [x]) (s + z) (B + b) := by
  obtain ⟨h1, h2, h3⟩ := h
  have e : sumErr (L ++ [x]) = sumStep (sumErr L) x := by unfold sumErr; rw [List.foldl_append]; rfl
  obtain ⟨g1, g2⟩ := two_ex h1 hx (by omega)
  unfold Sx
  rw [e]
  refine ⟨g1, fun y hy => ?_, by omega⟩
  rcases List.mem_append.1 hy with hy | hy
  · exact h2 y hy
  · rw [List.mem_singleton.1 hy]; exact g2
theorem Sx.snoc2 {L : List Nat} {s z z' : Int} {B b x y : Nat} (h : Sx L s B) (hx : Ex x z 1074) (hy : Ex y z' 1074) (hb : z.natAbs ≤ b) (hb' : z'.natAbs ≤ b) (hB : B + 2 * b < 9007199254740992) : Sx (L ++ [x, y]) (s + z + z') (B + 2 * b) := by
  have h2 := (h.snoc hx hb (by omega)).snoc hy hb' (by omega)
  have e : L ++ [x, y] = (L ++ [x]) ++ [y] := by rw [List.append_assoc]; rfl
  rw [e, show B + 2 * b = B + b + b by omega]
  exact h2
theorem Ez.snoc2 {L : List Nat} {x y : Nat} (h : Ez L) (hx : Ex x 0 1074) (hy : Ex y 0 1074) : Ez (L ++ [x, y]) := fun e he => by
  rcases List.mem_append.1 he with he | he
  · exact h e he
  · simp only [List.mem_cons, List.not_mem_nil, or_false] at he
    rcases he with rfl | rfl
    · exact hx
    · exact hy
theorem sumL_ex : ∀ (L : List Nat) (t : Nat), Ex t 0 1074 → Ez L → Ex (L.foldl fadd t) 0 1074
  | [], _, ht, _ => ht
  | x :: L, t, ht, h => sumL_ex L (fadd t x) (ex0_add ht (h x List.mem_cons_self)) (fun e he => h e (List.mem_cons_of_mem _ he))
theorem tsum_ex {t e : List Nat} {s : Int} {B : Nat} (h : Sx t s B) (he : Ez e) (hB : B < 9007199254740992) : Ex (tsum t e) s 1074 := by
  unfold tsum sumL
  have h1 := sumL_ex ((sumErr t).2 ++ e) 0 ex_null (fun y hy => by
    rcases List.mem_append.1 hy with hy | hy
    · exact h.2.1 y hy
    · exact he y hy)
  exact (Ex.add h.1 h1 (by have := h.2.2; omega) (by decide)).at (by omega)
theorem pr_ex {x y : Nat} {a b : Int} (hx : Ex x a 1074) (hy : Ex y b 1074) (hb : (a * b).natAbs < 9007199254740992) : Ex (pr x y) (a * b) 1074 := Ex.mul hx hy rfl hb (by decide)
theorem er_ex {x y : Nat} {a b : Int} (hx : Ex x a 1074) (hy : Ex y b 1074) (hb : (a * b).natAbs < 9007199254740992) : Ex (er x y) 0 1074 := by
  have hp := pr_ex hx hy hb
  obtain ⟨K, hK, hO⟩ := one_pow
  have hp2 := hp.2.2
  have hx2 := hx.2.2
  have hy2 := hy.2.2
  rw [← hK] at hp2 hx2 hy2
  have hK106 : 106 ≤ K := by omega
  have hpow : (81129638414606681695789005144064 : Nat) ≤ 2 ^ K := by
    have h1 : (2 : Nat) ^ 106 ≤ 2 ^ K := Nat.pow_le_pow_right (by decide) hK106
    have h2 : (81129638414606681695789005144064 : Nat) = 2 ^ 106 := by decide
    rw [h2]; exact h1
  obtain ⟨P, hP⟩ : ∃ P, P = 2 ^ K := ⟨_, rfl⟩
  rw [← hP] at hp2 hx2 hy2 hpow
  have hOP : one_ double = P := by rw [hO, hP]
  have hP0 : 0 < P := by omega
  clear hK hK106
  have hs : sval double x = 0 ∨ sval double y = 0 ∨ 81129638414606681695789005144064 ≤ (sval double (fmul x y)).natAbs := by
    by_cases ha : a = 0
    · exact .inl (by rw [hx2, ha, Int.zero_mul])
    by_cases hb0 : b = 0
    · exact .inr (.inl (by rw [hy2, hb0, Int.zero_mul]))
    refine .inr (.inr ?_)
    have h1 : sval double (fmul x y) = a * b * (P : Nat) := hp2
    have h2 : 1 ≤ (a * b).natAbs := by
      have : a * b ≠ 0 := Int.mul_ne_zero ha hb0
      omega
    rw [h1, Int.natAbs_mul, Int.natAbs_natCast]
    exact Nat.le_trans hpow (by have := Nat.mul_le_mul_right P h2; omega)
  obtain ⟨h1, h2⟩ := prod_exact hx.2.1 hy.2.1 hp.2.1 hs
  refine ⟨ffma_lt _ _ _, h1, ?_⟩
  have hp3 : sval double (fmul x y) = a * b * (P : Nat) := hp2
  rw [hp3, hx2, hy2, hOP] at h2
  have hPi : (P : Int) ≠ 0 := by omega
  have h3 : (a * b * (P : Int) + sval double (ffma x y (fneg (fmul x y)))) = a * b * (P : Int) := Int.eq_of_mul_eq_mul_right hPi (by rw [h2, Int.mul_assoc, Int.mul_assoc, Int.mul_assoc, Int.mul_left_comm (P : Int) b])
  show sval double (ffma x y (fneg (fmul x y))) = 0 * _
  rw [Int.zero_mul]; omega
theorem prod_le {a b : Int} {A : Nat} (ha : a.natAbs ≤ A) (hb : b.natAbs ≤ A) : (a * b).natAbs ≤ A * A := by rw [Int.natAbs_mul]; exact Nat.mul_le_mul ha hb
/-- What stands, reckoned as the statement does. -/
def wre (P Q U V : Nat → Int) (r : Int) : Nat → Int
  | 0 => r
  | k + 1 => wre P Q U V r k - P k * U k + Q k * V k
def wim (P Q U V : Nat → Int) (r : Int) : Nat → Int
  | 0 => r
  | k + 1 => wim P Q U V r k - P k * V k - Q k * U k
/-- Whole parts. -/
structure Wh (z : C) (p q : Int) : Prop where
  re : Ex z.1 p 1074
  im : Ex z.2 q 1074
theorem colT_ex {R X : Nat → C} {r : C} {P Q U V : Nat → Int} {ri rj : Int} {n : Nat} (hR : ∀ k, k < n → Wh (R k) (P k) (Q k) ∧ (P k).natAbs ≤ 1048576 ∧ (Q k).natAbs ≤ 1048576) (hX : ∀ k, k < n → Wh (X k) (U k) (V k) ∧ (U k).natAbs ≤ 1048576 ∧ (V k).natAbs ≤ 1048576)
    (hr : Wh r ri rj) (hri : ri.natAbs ≤ 2147483648) (hrj : rj.natAbs ≤ 2147483648) (hn : n ≤ 64) :
    ∀ k, k ≤ n → Sx (colT R X r k 0) (wre P Q U V ri k) (2147483648 + k * 2199023255552) ∧ Ez (colT R X r k 1) ∧ Sx (colT R X r k 2) (wim P Q U V rj k) (2147483648 + k * 2199023255552) ∧ Ez (colT R X r k 3)
  | 0, _ => by
    refine ⟨?_, fun e he => (by cases he), ?_, fun e he => (by cases he)⟩
    · have h := sx_nil.snoc hr.re hri (by decide)
      rw [Int.zero_add, Nat.zero_add] at h
      exact h
    · have h := sx_nil.snoc hr.im hrj (by decide)
      rw [Int.zero_add, Nat.zero_add] at h
      exact h
  | k + 1, hk => by
    obtain ⟨h0, h1, h2, h3⟩ := colT_ex hR hX hr hri hrj hn k (by omega)
    obtain ⟨hRw, hP, hQ⟩ := hR k (by omega)
    obtain ⟨hXw, hU, hV⟩ := hX k (by omega)
    have b1 := prod_le hP hU
    have b2 := prod_le hQ hV
    have b3 := prod_le hP hV
    have b4 := prod_le hQ hU
    have e1 := (pr_ex hRw.re hXw.re (by omega)).neg
    have e2 := pr_ex hRw.im hXw.im (by omega)
    have e3 := (pr_ex hRw.re hXw.im (by omega)).neg
    have e4 := (pr_ex hRw.im hXw.re (by omega)).neg
    have z1 := (er_ex hRw.re hXw.re (by omega)).neg.at (show -(0 : Int) = 0 by decide)
    have z2 := er_ex hRw.im hXw.im (by omega)
    have z3 := (er_ex hRw.re hXw.im (by omega)).neg.at (show -(0 : Int) = 0 by decide)
    have z4 := (er_ex hRw.im hXw.re (by omega)).neg.at (show -(0 : Int) = 0 by decide)
    have hB : 2147483648 + (k + 1) * 2199023255552 = 2147483648 + k * 2199023255552 + 2 * 1099511627776 := by omega
    refine ⟨?_, h1.snoc2 z1 z2, ?_, h3.snoc2 z3 z4⟩
    · have h := h0.snoc2 e1 e2 (b := 1099511627776) (by omega) (by omega) (by omega)
      rw [hB]
      have es : wre P Q U V ri (k + 1) = wre P Q U V ri k + -(P k * U k) + Q k * V k := by show _ - _ + _ = _; omega
      rw [es]; exact h
    · have h := h2.snoc2 e3 e4 (b := 1099511627776) (by omega) (by omega) (by omega)
      rw [hB]
      have es : wim P Q U V rj (k + 1) = wim P Q U V rj k + -(P k * V k) + -(Q k * U k) := by show _ - _ - _ = _; omega
      rw [es]; exact h
theorem left_whole {R X : Nat → C} {r : C} {P Q U V : Nat → Int} {ri rj : Int} {n : Nat} (hR : ∀ k, k < n → Wh (R k) (P k) (Q k) ∧ (P k).natAbs ≤ 1048576 ∧ (Q k).natAbs ≤ 1048576) (hX : ∀ k, k < n → Wh (X k) (U k) (V k) ∧ (U k).natAbs ≤ 1048576 ∧ (V k).natAbs ≤ 1048576)
    (hr : Wh r ri rj) (hri : ri.natAbs ≤ 2147483648) (hrj : rj.natAbs ≤ 2147483648) (hn : n ≤ 64) : Wh (leftAt R X r n) (wre P Q U V ri n) (wim P Q U V rj n) := by
  obtain ⟨h0, h1, h2, h3⟩ := colT_ex hR hX hr hri hrj hn n (Nat.le_refl _)
  exact ⟨tsum_ex h0 h1 (by omega), tsum_ex h2 h3 (by omega)⟩
/-- Both signs turned about. -/
theorem ffma_neg_neg {a b z : Nat} (la : a < 18446744073709551616) (lb : b < 18446744073709551616) (ha : fin double a) (hb : fin double b) (hz : fin double z) : ffma (fneg a) (fneg b) z = ffma a b z := by
  obtain ⟨fa, sa, -⟩ := fin_fneg la ha
  obtain ⟨fb, sb, -⟩ := fin_fneg lb hb
  have R1 := ffma_rounds fa fb hz
  have R2 := ffma_rounds ha hb hz
  have na : isNaN double a = false := by unfold isNaN fin at *; simp; omega
  have nb : isNaN double b = false := by unfold isNaN fin at *; simp; omega
  rw [sa, sb, sgn_fneg la na, sgn_fneg lb nb, Int.neg_mul_neg] at R1
  have e : (!sgn double a ^^ !sgn double b) = (sgn double a ^^ sgn double b) := by cases sgn double a <;> cases sgn double b <;> rfl
  rw [e] at R1
  exact Rounds.congr (one_pos double) (one_pos double) rfl R1 R2
theorem er_neg_neg {a b : Nat} (la : a < 18446744073709551616) (lb : b < 18446744073709551616) (ha : fin double a) (hb : fin double b) (hp : fin double (fmul a b)) : er (fneg a) (fneg b) = er a b := by
  unfold er
  rw [fmul_neg_neg la lb]
  exact ffma_neg_neg la lb ha hb (fin_fneg (fmul_lt _ _) hp).1
theorem colT_neg {R X R' X' : Nat → C} {r : C} {P Q U V : Nat → Int} {n : Nat} (hR : ∀ k, k < n → Wh (R k) (P k) (Q k) ∧ (P k).natAbs ≤ 1048576 ∧ (Q k).natAbs ≤ 1048576) (hX : ∀ k, k < n → Wh (X k) (U k) (V k) ∧ (U k).natAbs ≤ 1048576 ∧ (V k).natAbs ≤ 1048576)
    (eR : ∀ k, k < n → R' k = pNeg (R k)) (eX : ∀ k, k < n → X' k = pNeg (X k)) : ∀ k, k ≤ n → ∀ j, colT R' X' r k j = colT R X r k j
  | 0, _, _ => rfl
  | k + 1, hk, j => by
    have ih := colT_neg hR hX eR eX (r := r) k (by omega) j
    obtain ⟨hRw, hP, hQ⟩ := hR k (by omega)
    obtain ⟨hXw, hU, hV⟩ := hX k (by omega)
    have b1 := prod_le hP hU
    have b2 := prod_le hQ hV
    have b3 := prod_le hP hV
    have b4 := prod_le hQ hU
    have p1 : pr (fneg (R k).1) (fneg (X k).1) = pr (R k).1 (X k).1 := fmul_neg_neg hRw.re.1 hXw.re.1
    have p2 : pr (fneg (R k).2) (fneg (X k).2) = pr (R k).2 (X k).2 := fmul_neg_neg hRw.im.1 hXw.im.1
    have p3 : pr (fneg (R k).1) (fneg (X k).2) = pr (R k).1 (X k).2 := fmul_neg_neg hRw.re.1 hXw.im.1
    have p4 : pr (fneg (R k).2) (fneg (X k).1) = pr (R k).2 (X k).1 := fmul_neg_neg hRw.im.1 hXw.re.1
    have e1 := er_neg_neg hRw.re.1 hXw.re.1 hRw.re.2.1 hXw.re.2.1 (pr_ex hRw.re hXw.re (by omega)).2.1
    have e2 := er_neg_neg hRw.im.1 hXw.im.1 hRw.im.2.1 hXw.im.2.1 (pr_ex hRw.im hXw.im (by omega)).2.1
    have e3 := er_neg_neg hRw.re.1 hXw.im.1 hRw.re.2.1 hXw.im.2.1 (pr_ex hRw.re hXw.im (by omega)).2.1
    have e4 := er_neg_neg hRw.im.1 hXw.re.1 hRw.im.2.1 hXw.re.2.1 (pr_ex hRw.im hXw.re (by omega)).2.1
    unfold colT
    rw [ih, eR k (by omega), eX k (by omega)]
    simp only [pNeg, p1, p2, p3, p4, e1, e2, e3, e4]
theorem colT_congr {R X R' X' : Nat → C} {r : C} {n : Nat} (eR : ∀ k, k < n → R' k = R k) (eX : ∀ k, k < n → X' k = X k) : ∀ k, k ≤ n → ∀ j, colT R' X' r k j = colT R X r k j
  | 0, _, _ => rfl
  | k + 1, hk, j => by
    have ih := colT_congr eR eX (r := r) k (by omega) j
    unfold colT
    rw [ih, eR k (by omega), eX k (by omega)]
theorem left_congr {R X R' X' : Nat → C} {r : C} {n : Nat} (eR : ∀ k, k < n → R' k = R k) (eX : ∀ k, k < n → X' k = X k) : leftAt R' X' r n = leftAt R X r n := by
  unfold leftAt
  rw [colT_congr eR eX n (Nat.le_refl _) 0, colT_congr eR eX n (Nat.le_refl _) 1, colT_congr eR eX n (Nat.le_refl _) 2, colT_congr eR eX n (Nat.le_refl _) 3]
theorem left_turned {R X R' X' : Nat → C} {r : C} {P Q U V : Nat → Int} {n : Nat} (hR : ∀ k, k < n → Wh (R k) (P k) (Q k) ∧ (P k).natAbs ≤ 1048576 ∧ (Q k).natAbs ≤ 1048576) (hX : ∀ k, k < n → Wh (X k) (U k) (V k) ∧ (U k).natAbs ≤ 1048576 ∧ (V k).natAbs ≤ 1048576)
    (eR : ∀ k, k < n → R' k = pNeg (R k)) (eX : ∀ k, k < n → X' k = pNeg (X k)) : leftAt R' X' r n = leftAt R X r n := by
  unfold leftAt
  rw [colT_neg hR hX eR eX n (Nat.le_refl _) 0, colT_neg hR hX eR eX n (Nat.le_refl _) 1, colT_neg hR hX eR eX n (Nat.le_refl _) 2, colT_neg hR hX eR eX n (Nat.le_refl _) 3]
end Go.Proofs.Ytandllekeimpgaa
