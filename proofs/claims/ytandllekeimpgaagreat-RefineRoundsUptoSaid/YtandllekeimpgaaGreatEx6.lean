/- The document's product with its error: it is the fused one. -/
import Derived.Test.YtandllekeimpgaaGreatEx5
import Derived.Test.YtandllekeimpgaaGreatTsQ
import Derived.Test.YtandllekeimpgaaGreatS02
import Derived.Test.YtandllekeimpgaaGreatExt
namespace Go.Proofs.YtandllekeimpgaaGreat
open Go.RowKit Fl Ieee
set_option maxRecDepth 20000
theorem kind_fin {x : Nat} : fin double x ↔ kind x ≤ 2 := by
  unfold kind fin
  rw [inf_double]
  split <;> (try split) <;> (try split) <;> (try split) <;> omega
/-- A difference of a finite word and itself. -/
theorem fsub_self_zero {x : Nat} (lx : x < 18446744073709551616) (hx : fin double x) : fsub x x = 0 := by
  obtain ⟨f1, f2, f3⟩ := fin_fneg lx hx
  rw [fsub_eq x lx]
  obtain ⟨b, hb, hr⟩ := add_fin ok_double hx f1
  have e : fadd x (fneg x) = b := by show ((double.add x (fneg x)).getD _) = b; rw [hb]; rfl
  rw [e]
  have hz : sval double x + sval double (fneg x) = 0 := by rw [f2]; omega
  rw [hz, if_pos rfl] at hr
  have hn : isNaN double x = false := by unfold isNaN fin at *; simp; omega
  rw [fneg_of_not hn, sgn_flip (f := double) lx] at hr
  have e1 : (sgn double x && !sgn double x) = false := by cases sgn double x <;> rfl
  rw [e1] at hr
  obtain ⟨r, h1, h2⟩ := hr
  have := rne_nought (by decide) h1
  subst this
  rw [h2]; decide
theorem gap_mono {r s : Nat} (h : r ≤ s) : gap double r ≤ gap double s := Nat.pow_le_pow_right (by decide) (by have := Nat.div_le_div_right (c := double.binade) h; omega)
theorem rne_err {N D r : Nat} (h : Rne double N D r) : 2 * ((N : Int) - (val double r * D : Nat)).natAbs ≤ gap double r * D := by
  obtain ⟨h1, h2⟩ := h
  have e1 : (val double r + val double (r + 1)) * D = 2 * (val double r * D) + gap double r * D := by
    rw [val_succ, ← Nat.add_assoc, Nat.add_mul, Nat.add_mul]; omega
  rw [e1] at h1
  cases r with
  | zero => rw [val_zero, Nat.zero_mul] at h1 ⊢; omega
  | succ q =>
    have h3 := h2 q rfl
    have e2 : (val double q + val double (q + 1)) * D + gap double q * D = 2 * (val double (q + 1) * D) := by
      rw [val_succ, Nat.add_mul, Nat.add_mul]; omega
    have h4 := Nat.mul_le_mul_right D (gap_mono (show q ≤ q + 1 by omega))
    omega
theorem err_bound {a b : Nat} (ha : fin double a) (hb : fin double b) (hp : fin double (fmul a b)) {T K L : Nat} (hT : T = 52) (hK : K = 1126) (hL : L = 3223) :
    (sval double a * sval double b * 2 ^ T - sval double (fmul a b) * 2 ^ K).natAbs < 2 ^ L := by
  obtain ⟨O, hO', hO⟩ := one_pow
  have R1 := fmul_rounds ha hb
  rw [hO] at R1
  have hsv : sval double (fmul a b) = if (sgn double a ^^ sgn double b) then -(val double (rung double (fmul a b)) : Int) else (val double (rung double (fmul a b)) : Int) := by unfold sval; rw [R1.sgn]
  have hAB : sval double a * sval double b = if (sgn double a ^^ sgn double b) then -((val double (rung double a) * val double (rung double b) : Nat) : Int) else ((val double (rung double a) * val double (rung double b) : Nat) : Int) := (sgn_mul _ _ _ _).symm
  obtain ⟨r, hr, hb'⟩ := R1.rung
  have hrr : rung double (fmul a b) = r := by unfold fin at hp; omega
  rw [hrr] at hsv
  have hri : r < double.infRung := by unfold fin at hp; omega
  rw [← vals_prod] at hr
  obtain ⟨N, hN⟩ : ∃ N, N = val double (rung double a) * val double (rung double b) := ⟨_, rfl⟩
  rw [← hN] at hr hAB
  have he := rne_err hr
  have hg : gap double r ≤ 2 ^ (L - 2 - T - O) := by
    unfold gap
    refine Nat.pow_le_pow_right (by decide) ?_
    have : double.binade = 4503599627370496 := by decide
    rw [inf_double] at hri
    rw [this]; omega
  have eKT : K = O + T := by omega
  have pT := Nat.two_pow_pos T
  have pO := Nat.two_pow_pos O
  have hL2 : 2 ^ (L - 2 - T - O) * 2 ^ O * 2 ^ T * 2 = 2 ^ (L - 1) := by
    rw [← Nat.pow_add, ← Nat.pow_add, ← Nat.pow_succ]; congr 1; omega
  have hL3 : 2 ^ L = 2 ^ (L - 1) * 2 := by rw [← Nat.pow_succ]; congr 1; omega
  have hL4 := Nat.two_pow_pos (L - 1)
  have eV : sval double a * sval double b * 2 ^ T - sval double (fmul a b) * 2 ^ K = (if (sgn double a ^^ sgn double b) then -((N : Int) - (val double r * 2 ^ O : Nat)) else ((N : Int) - (val double r * 2 ^ O : Nat))) * 2 ^ T := by
    rw [hsv, hAB, eKT, Int.pow_add, ← Int.mul_assoc, ← Int.sub_mul, Int.natCast_mul (val double r), Int.natCast_pow]
    congr 1
    cases (sgn double a ^^ sgn double b)
    · simp
    · simp [Int.neg_mul]; omega
  clear hT hK hL hO' eKT
  rw [eV, Int.natAbs_mul, Int.natAbs_pow]
  have eN : (if (sgn double a ^^ sgn double b) then -((N : Int) - (val double r * 2 ^ O : Nat)) else ((N : Int) - (val double r * 2 ^ O : Nat))).natAbs = ((N : Int) - (val double r * 2 ^ O : Nat)).natAbs := by split <;> omega
  rw [eN, hL3, ← hL2]
  generalize ((N : Int) - (val double r * 2 ^ O : Nat)).natAbs = E at *
  have h5 : E ≤ 2 ^ (L - 2 - T - O) * 2 ^ O := Nat.le_trans (by omega) (Nat.mul_le_mul_right _ hg)
  have h6 := Nat.mul_le_mul_right (2 ^ T) h5
  have h7 : 0 < 2 ^ (L - 2 - T - O) * 2 ^ O * 2 ^ T := Nat.mul_pos (Nat.mul_pos (Nat.two_pow_pos _) pO) pT
  show E * 2 ^ T < _
  omega
def RetRRb (v : Nat × Nat) (w : World) (e : Ending) (w' : World) : Prop :=
  ∃ x y, e = .returned (.tuple #[.float .f64 x, .float .f64 y]) ∧ (cn .f64 x, cn .f64 y) = v ∧ x < 18446744073709551616 ∧ y < 18446744073709551616 ∧ Below w.heap.size w w'
theorem cn_fin {x : Nat} (h : fin double x) : cn .f64 x = x := cn_of_not (k := .f64) (decide_eq_false (by unfold fin at h; show ¬ double.infRung < rung double x; omega))
theorem fin_cnX {x : Nat} : fin double (cn .f64 x) ↔ fin double x := by
  have h := isFin_cn .f64 x
  unfold isFin at h
  unfold fin
  constructor
  · intro h1; have := h.symm.trans (decide_eq_true h1); exact of_decide_eq_true this
  · intro h1; have := h.trans (decide_eq_true h1); exact of_decide_eq_true this
/-- The error where the product is infinite: its opposite. -/
theorem ffma_over {a b : Nat} (ha : fin double a) (hb : fin double b) (hp : ¬fin double (fmul a b)) : ffma a b (fneg (fmul a b)) = fneg (fmul a b) := by
  obtain ⟨c, hc, hr⟩ := mul_fin ok_double ha hb
  have e : fmul a b = c := by show ((double.mul a b).getD _) = c; rw [hc]; rfl
  rw [e] at hp ⊢
  obtain ⟨m, i, hra, -, -⟩ := read_fin ha
  obtain ⟨n, j, hrb, -, -⟩ := read_fin hb
  have hcl : c < 18446744073709551616 := hr.lt
  obtain ⟨r, h1, h2⟩ := hr.rung
  have hri : rung double c = double.infRung := by unfold fin at hp; omega
  have hcn : isNaN double c = false := by unfold isNaN; exact decide_eq_false (by omega)
  rw [fneg_of_not hcn]
  have hfl : rung double (Fl.flip double c) = double.infRung := by rw [rung_flip (f := double) hcl]; exact hri
  have hrd := read_inf ok_double hfl
  show ((double.fma a b (Fl.flip double c)).getD _) = _
  unfold Format.fma
  rw [hra, hrb, hrd]
  show (double.write (.infinity (sgn double (Fl.flip double c)))) = _
  have := word_split (f := double) (x := Fl.flip double c) (flip_lt (f := double) hcl)
  rw [hfl] at this
  rw [this]
  have hi := infRung_lt double
  rw [sgn_word _ hi]
  rfl
theorem product_odd {a b : Nat} (h : ¬(fin double a ∧ fin double b)) : (double.read a).product (double.read b) = none ∨ ∃ s, (double.read a).product (double.read b) = some (.infinity s) := by
  rcases kinds double a with ha | ha | ha
  · obtain ⟨m, i, hra, -, -⟩ := read_fin ha
    rcases kinds double b with hb | hb | hb
    · exact absurd ⟨ha, hb⟩ h
    · rw [hra, read_inf ok_double hb]
      by_cases hm : m = 0
      · left; simp [Datum.product, hm]
      · right; simp [Datum.product, hm]
    · rw [hra, read_nan ok_double hb]; left; simp [Datum.product]
  · rw [read_inf ok_double ha]
    rcases kinds double b with hb | hb | hb
    · obtain ⟨n, j, hrb, -, -⟩ := read_fin hb
      rw [hrb]
      by_cases hm : n = 0
      · left; simp [Datum.product, hm]
      · right; simp [Datum.product, hm]
    · rw [read_inf ok_double hb]; right; simp [Datum.product]
    · rw [read_nan ok_double hb]; left; simp [Datum.product]
  · rw [read_nan ok_double ha]; left; simp [Datum.product]
/-- The error where a part is not finite: none. -/
theorem ffma_odd {a b : Nat} (h : ¬(fin double a ∧ fin double b)) : ffma a b (fneg (fmul a b)) = fsub (fmul a b) (fmul a b) := by
  rcases product_odd h with hp | ⟨s, hp⟩
  · have e1 : fmul a b = qn .f64 := by
      show ((double.mul a b).getD _) = _
      unfold Format.mul; rw [hp]; rfl
    have e2 : ∀ z, ffma a b z = qn .f64 := fun z => by
      show ((double.fma a b z).getD _) = _
      unfold Format.fma; rw [hp]; rfl
    rw [e2, e1, fsub_nan_l qn_nan]
  · obtain ⟨c, hc⟩ : ∃ c, c = double.write (.infinity s) := ⟨_, rfl⟩
    have e1 : fmul a b = c := by
      show ((double.mul a b).getD _) = _
      unfold Format.mul; rw [hp, hc]; rfl
    have hi := infRung_lt double
    have hc2 : c = double.word s double.infRung := by rw [hc]; rfl
    have hcl : c < 18446744073709551616 := by rw [hc2]; exact word_lt (f := double) _ hi
    have hcr : rung double c = double.infRung := by rw [hc2, rung_word _ hi]
    have hcs : sgn double c = s := by rw [hc2, sgn_word _ hi]
    have hcn : isNaN double c = false := by unfold isNaN; exact decide_eq_false (by omega)
    have hr1 := read_inf ok_double hcr
    have hr2 := read_inf ok_double (x := Fl.flip double c) (by rw [rung_flip (f := double) hcl]; exact hcr)
    rw [sgn_flip (f := double) hcl] at hr2
    rw [hcs] at hr1 hr2
    rw [e1, fneg_of_not hcn]
    have e3 : fsub c c = qn .f64 := by
      have e : floatBits .sub .f64 c c = double.add c (Fl.flip double c) := sub_eq (f := double) hcl
      show fop .sub .f64 c c = _
      unfold fop; rw [e, Format.add, hr1, hr2]; cases s <;> rfl
    rw [e3]
    show ((double.fma a b (Fl.flip double c)).getD _) = _
    unfold Format.fma
    rw [hp, hr2]
    cases s <;> rfl
theorem Odd_over (a b : Nat) (ha : a < 18446744073709551616) (hb : b < 18446744073709551616) (fa : kind a ≤ 2) (fb : kind b ≤ 2) (w : World) : Calls Tryz.prog 116 #[.float .f64 a, .float .f64 b] w (RetR (fneg (fmul (cn .f64 a) (cn .f64 b))) w) := by
  have HKa := Lib.hid (RKind_c a ha)
  have HKb := Lib.hid (RKind_c b hb)
  obtain ⟨ka, hka⟩ : ∃ ka, ka = kind a := ⟨_, rfl⟩
  obtain ⟨kb, hkb⟩ : ∃ kb, kb = kind b := ⟨_, rfl⟩
  rw [← hka] at fa HKa
  rw [← hkb] at fb HKb
  have fa' : (ka : Int) ≤ 2 := by omega
  have fb' : (kb : Int) ≤ 2 := by omega
  clear hka hkb
  go_enter Tryz.func116, Tryz.ntmps116
  go_wp2_with fail
  refine upon_mul _ _ _ _ ?_
  intro r1 n1 h1
  go_wp2_with fail
  refine (HKa.out _).mono ?_
  rintro e W1 ⟨rfl, rfl⟩
  go_wp2_with fail
  refine (HKb.out _).mono ?_
  rintro e W1 ⟨rfl, rfl⟩
  go_wp2
  go_ret
  exact closeR (by rw [negFloat_flip, cn_flip h1.2, h1.1]) (flip_lt64 h1.2)
theorem Odd_odd (a b : Nat) (ha : a < 18446744073709551616) (hb : b < 18446744073709551616) (fab : ¬(kind a ≤ 2 ∧ kind b ≤ 2)) (w : World) : Calls Tryz.prog 116 #[.float .f64 a, .float .f64 b] w (RetR (fsub (fmul (cn .f64 a) (cn .f64 b)) (fmul (cn .f64 a) (cn .f64 b))) w) := by
  have HKa := Lib.hid (RKind_c a ha)
  have HKb := Lib.hid (RKind_c b hb)
  obtain ⟨ka, hka⟩ : ∃ ka, ka = kind a := ⟨_, rfl⟩
  obtain ⟨kb, hkb⟩ : ∃ kb, kb = kind b := ⟨_, rfl⟩
  rw [← hka, ← hkb] at fab
  rw [← hka] at HKa
  rw [← hkb] at HKb
  clear hka hkb
  by_cases fa : ka ≤ 2
  · have fa' : (ka : Int) ≤ 2 := by omega
    have fb' : ¬ (kb : Int) ≤ 2 := by omega
    clear fab fa
    go_enter Tryz.func116, Tryz.ntmps116
    go_wp2_with fail
    refine upon_mul _ _ _ _ ?_
    intro r1 n1 h1
    go_wp2_with fail
    refine (HKa.out _).mono ?_
    rintro e W1 ⟨rfl, rfl⟩
    go_wp2_with fail
    refine (HKb.out _).mono ?_
    rintro e W1 ⟨rfl, rfl⟩
    go_wp2_with fail
    refine upon_mul _ _ _ _ ?_
    intro r2 n2 h2
    go_wp2_with fail
    refine upon_sub _ _ _ _ ?_
    intro r3 n3 h3
    go_wp2
    go_ret
    exact closeR (by rw [h3.1, h2.1, h1.1]) h3.2
  · have fa' : ¬ (ka : Int) ≤ 2 := by omega
    clear fab fa HKb
    go_enter Tryz.func116, Tryz.ntmps116
    go_wp2_with fail
    refine upon_mul _ _ _ _ ?_
    intro r1 n1 h1
    go_wp2_with fail
    refine (HKa.out _).mono ?_
    rintro e W1 ⟨rfl, rfl⟩
    go_wp2_with fail
    refine upon_mul _ _ _ _ ?_
    intro r2 n2 h2
    go_wp2_with fail
    refine upon_sub _ _ _ _ ?_
    intro r3 n3 h3
    go_wp2
    go_ret
    exact closeR (by rw [h3.1, h2.1, h1.1]) h3.2
theorem kind_cn (x : Nat) : kind x ≤ 2 ↔ kind (cn .f64 x) ≤ 2 := by rw [← kind_fin, ← kind_fin, fin_cnX]
theorem RTwoProd_c (a b : Nat) (ha : a < 18446744073709551616) (hb : b < 18446744073709551616) (w : World) : Calls Tryz.prog 112 #[.float .f64 a, .float .f64 b] w (RetRRb (twoProd (cn .f64 a) (cn .f64 b)) w) := by
  have HKa := Lib.hid (RKind_c a ha)
  have HKb := Lib.hid (RKind_c b hb)
  have HA := Lib.hid ha
  have HB := Lib.hid hb
  obtain ⟨ka, hka⟩ : ∃ ka, ka = kind a := ⟨_, rfl⟩
  obtain ⟨kb, hkb⟩ : ∃ kb, kb = kind b := ⟨_, rfl⟩
  rw [← hka] at HKa
  rw [← hkb] at HKb
  have HEa := Lib.hid hka
  have HEb := Lib.hid hkb
  clear ha hb hka hkb
  by_cases fa : ka ≤ 2
  · by_cases fb : kb ≤ 2
    · have fa' : ¬ (ka : Int) > 2 := by omega
      have fb' : ¬ (kb : Int) > 2 := by omega
      have HFa := Lib.hid (show fin double a from kind_fin.2 (by rw [← HEa.out]; exact fa))
      have HFb := Lib.hid (show fin double b from kind_fin.2 (by rw [← HEb.out]; exact fb))
      have ca := cn_fin HFa.out
      have cb := cn_fin HFb.out
      rw [ca, cb]
      have HCa := Lib.hid ca
      have HCb := Lib.hid cb
      clear fa fb ca cb
      go_enter Tryz.func112, Tryz.ntmps112
      go_wp2_with fail
      refine upon_mul _ _ _ _ ?_
      intro r1 n1 h1
      have hp1 : cn .f64 r1 = fmul a b := by rw [h1.1, HCa.out, HCb.out]
      have HP1 := Lib.hid hp1
      have HL1 := Lib.hid h1.2
      have HKp := Lib.hid (RKind_c r1 h1.2)
      obtain ⟨kp, hkp⟩ : ∃ kp, kp = kind r1 := ⟨_, rfl⟩
      rw [← hkp] at HKp
      have HEp := Lib.hid hkp
      clear hkp hp1 h1
      go_wp2_with fail
      refine (HKa.out _).mono ?_
      rintro e W1 ⟨rfl, rfl⟩
      go_wp2_with fail
      refine (HKb.out _).mono ?_
      rintro e W1 ⟨rfl, rfl⟩
      go_wp2_with fail
      refine (HKp.out _).mono ?_
      rintro e W1 ⟨rfl, rfl⟩
      by_cases fp : kp ≤ 2
      · have fp' : ¬ (kp : Int) > 2 := by omega
        have hFp : fin double r1 := kind_fin.2 (by rw [← HEp.out]; exact fp)
        have hcp : cn .f64 r1 = r1 := cn_fin hFp
        have hr1 : r1 = fmul a b := by rw [← hcp]; exact HP1.out
        have HR := Lib.hid hr1
        have HFp := Lib.hid hFp
        have HPr := Lib.hid (Product_c a b HA.out HB.out HFa.out HFb.out)
        have HOf := Lib.hid (OfX_c r1 HL1.out hFp)
        have HLs := Lib.hid (Less_c (prodX a b) (ofX r1))
        obtain ⟨L, hLL⟩ : ∃ L, L = 3223 := ⟨_, rfl⟩
        have HBd := Lib.hid (And.intro (show (prodX a b - ofX r1).natAbs < 2 ^ L by rw [hr1]; exact err_bound HFa.out HFb.out (by rw [← hr1]; exact hFp) rfl rfl hLL) (Nat.le_of_eq hLL))
        clear hLL
        clear fp hFp hcp hr1
        go_wp2_with fail
        refine (HPr.out _).mono ?_
        rintro e W2 ⟨rfl, hb2⟩
        have HB2 := Lib.hid ((below_drewN (Below.refl w.heap.size w) _).trans (hb2.mono (by simp)))
        clear hb2 HPr
        go_wp2_with fail
        refine (HOf.out _).mono ?_
        rintro e W3 ⟨rfl, hb2⟩
        have HB3 := Lib.hid (HB2.out.trans (hb2.mono HB2.out.size))
        clear hb2 HOf HB2
        go_wp2_with fail
        refine (HLs.out _).mono ?_
        rintro e W4 ⟨rfl, hb2⟩
        have HB4 := Lib.hid (HB3.out.trans (hb2.mono HB3.out.size))
        clear hb2 HLs HB3
        go_wp2_with fail
        refine upon_mul _ _ _ _ ?_
        intro r2 n2 h2
        go_wp2_with fail
        refine upon_sub _ _ _ _ ?_
        intro r3 n3 h3
        have hr2 : r2 = fmul a b := by
          have h5 : cn .f64 r2 = fmul a b := by rw [h2.1, HCa.out, HCb.out]
          exact cn_onlyX h5 (by
            have := HFp.out; rw [HR.out] at this
            unfold isNaN fin at *; exact decide_eq_false (by omega))
        have hr3 : r3 = 0 := by
          have h5 : cn .f64 r3 = 0 := by
            rw [h3.1, hr2, ← HR.out, cn_fin HFp.out]
            exact fsub_self_zero HL1.out HFp.out
          exact cn_onlyX h5 (by decide)
        have hl3 := h3.2
        clear h2 h3 hr2
        subst hr3
        have HRo := Lib.hid (Round_c (prodX a b - ofX r1) 0 (by decide) HBd.out.2 HBd.out.1)
        go_wp2_with fail
        refine (HRo.out _).mono ?_
        rintro e W5 ⟨y, rfl, hyl, hy, hb2⟩
        have HB5 := Lib.hid ((below_drewN HB4.out _).trans (hb2.mono (by simpa using HB4.out.size)))
        have HY := Lib.hid hy
        clear hb2 hy HB4 HRo HBd
        go_wp2
        go_ret2
        have e1 : y = ffma a b (fneg (fmul a b)) := by
          have hy := HY.out
          rw [HR.out] at hy
          exact ffma_roundsE HFa.out HFb.out (by rw [← HR.out]; exact HFp.out) rfl rfl hy
        refine ⟨_, _, rfl, ?_, HL1.out, hyl, HB5.out⟩
        rw [HP1.out, e1, cn_ffma]
        rfl
      · have fp' : (kp : Int) > 2 := by omega
        have HFp := Lib.hid (show ¬ fin double (fmul a b) from fun h => by
          rw [← HP1.out] at h
          have h2 := kind_fin.1 (fin_cnX.1 h)
          rw [← HEp.out] at h2; omega)
        clear fp
        have HOd := Lib.hid (Odd_over a b HA.out HB.out (kind_fin.1 HFa.out) (kind_fin.1 HFb.out))
        rw [HCa.out, HCb.out] at HOd
        go_wp2_with fail
        refine (HOd.out _).mono ?_
        rintro e W2 ⟨y, n, rfl, hy, hyl, rfl⟩
        have HY := Lib.hid hy
        clear hy
        go_wp2
        go_ret2
        refine ⟨_, _, rfl, ?_, HL1.out, hyl, below_drewN (Below.refl _ _) _⟩
        rw [HP1.out, HY.out, ← ffma_over HFa.out HFb.out HFp.out]
        rfl
    · have fa' : ¬ (ka : Int) > 2 := by omega
      have fb' : (kb : Int) > 2 := by omega
      have HF := Lib.hid (show ¬(kind a ≤ 2 ∧ kind b ≤ 2) by rw [← HEa.out, ← HEb.out]; omega)
      clear fa fb
      go_enter Tryz.func112, Tryz.ntmps112
      go_wp2_with fail
      refine upon_mul _ _ _ _ ?_
      intro r1 n1 h1
      have HP1 := Lib.hid h1
      clear h1
      go_wp2_with fail
      refine (HKa.out _).mono ?_
      rintro e W1 ⟨rfl, rfl⟩
      go_wp2_with fail
      refine (HKb.out _).mono ?_
      rintro e W1 ⟨rfl, rfl⟩
      have HOd := Lib.hid (Odd_odd a b HA.out HB.out HF.out)
      go_wp2_with fail
      refine (HOd.out _).mono ?_
      rintro e W2 ⟨y, n, rfl, hy, hyl, rfl⟩
      have HY := Lib.hid hy
      clear hy
      go_wp2
      go_ret2
      refine ⟨_, _, rfl, ?_, HP1.out.2, hyl, below_drewN (Below.refl _ _) _⟩
      rw [HP1.out.1, HY.out, ← ffma_odd (fun h => HF.out ⟨(kind_cn a).2 (kind_fin.1 h.1), (kind_cn b).2 (kind_fin.1 h.2)⟩)]
      rfl
  · have fa' : (ka : Int) > 2 := by omega
    have HF := Lib.hid (show ¬(kind a ≤ 2 ∧ kind b ≤ 2) by rw [← HEa.out, ← HEb.out]; omega)
    clear fa HKb
    go_enter Tryz.func112, Tryz.ntmps112
    go_wp2_with fail
    refine upon_mul _ _ _ _ ?_
    intro r1 n1 h1
    have HP1 := Lib.hid h1
    clear h1
    go_wp2_with fail
    refine (HKa.out _).mono ?_
    rintro e W1 ⟨rfl, rfl⟩
    have HOd := Lib.hid (Odd_odd a b HA.out HB.out HF.out)
    go_wp2_with fail
    refine (HOd.out _).mono ?_
    rintro e W2 ⟨y, n, rfl, hy, hyl, rfl⟩
    have HY := Lib.hid hy
    clear hy
    go_wp2
    go_ret2
    refine ⟨_, _, rfl, ?_, HP1.out.2, hyl, below_drewN (Below.refl _ _) _⟩
    rw [HP1.out.1, HY.out, ← ffma_odd (fun h => HF.out ⟨(kind_cn a).2 (kind_fin.1 h.1), (kind_cn b).2 (kind_fin.1 h.2)⟩)]
    rfl
end Go.Proofs.YtandllekeimpgaaGreat
