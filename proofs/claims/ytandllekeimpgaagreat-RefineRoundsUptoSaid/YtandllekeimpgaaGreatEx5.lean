/- Exact numbers of 72 limbs: rounding; the document's product with its error. -/
import Derived.Test.YtandllekeimpgaaGreatEx4
import Derived.Test.YtandllekeimpgaaGreatRdP
import Derived.Test.YtandllekeimpgaaGreatExt
import Derived.Deep.WholeRow
import Derived.Deep.DeepCutAuto
import Derived.Great.Walk
namespace Go.Proofs.YtandllekeimpgaaGreat
open Go.RowKit Fl Ieee
set_option maxRecDepth 20000
theorem below_sign {a : Int} {L : Nat} (hL : L ≤ 4607) (h : a.natAbs < 2 ^ L) : belowX a = decide (a < 0) := by
  unfold belowX limb
  obtain ⟨k, hk⟩ : ∃ k, k = 64 * 71 := ⟨_, rfl⟩
  rw [← hk]
  obtain ⟨M, hM⟩ : ∃ M : Nat, M = 2 ^ k := ⟨_, rfl⟩
  have hM0 : 0 < M := by rw [hM]; exact Nat.two_pow_pos _
  have h0 : a.natAbs < M * 9223372036854775808 := by
    refine Nat.lt_of_lt_of_le h ?_
    rw [hM, show (9223372036854775808 : Nat) = 2 ^ 63 by decide, ← Nat.pow_add]
    exact Nat.pow_le_pow_right (by decide) (by omega)
  have h1 : a < ((M * 9223372036854775808 : Nat) : Int) := by omega
  have h2 : -((M * 9223372036854775808 : Nat) : Int) ≤ a := by omega
  rw [← hM]
  clear hM hk h h0 hL
  have hd := Int.mul_ediv_add_emod a M
  have m1 := Int.emod_nonneg a (b := (M : Int)) (by omega)
  have m2 := Int.emod_lt_of_pos a (b := (M : Int)) (by omega)
  rw [Int.natCast_mul] at h1 h2
  have q1 : a / M < 9223372036854775808 := Int.ediv_lt_of_lt_mul (by omega) (by rw [Int.mul_comm]; exact h1)
  have q2 : -9223372036854775808 ≤ a / M := (Int.le_ediv_iff_mul_le (by omega)).2 (by rw [Int.neg_mul, Int.mul_comm]; exact h2)
  have q3 : 0 ≤ a ↔ 0 ≤ a / M := ⟨fun h => Int.ediv_nonneg h (by omega), fun h => by
    have := Int.mul_nonneg (show (0 : Int) ≤ M by omega) h
    omega⟩
  generalize a / (M : Int) = q at *
  by_cases hn : a < 0
  · rw [decide_eq_true hn]; exact decide_eq_true (by omega)
  · rw [decide_eq_false hn]; exact decide_eq_false (by omega)
section
variable {P : Program}
/-- A whole array is loaded where a guard wants it. -/
theorem wpList_load_rowW {ops : Array Oper} {rest : List Oper} {o : Oper} {a : Act} {w : World} {Q : Exit → Act → World → Prop} (hw : Region.wanted o (yielded ops a.tmps) = true) (ty : TypeId) (x : Operand) (ho : o.op = .load ty x)
    (g : Nat) (hx : a.eval x = .pointer (some ⟨g, 0, none⟩)) (t : TypeId) (cs : Array Value) (fr : Nat × Nat) (d : TypeDesc) (hg : w.heap[g]? = some (.cells cs t fr))
    (hu : P.underlying ty = some d) (hd : (match d with | .struct _ | .array _ _ => true | _ => false) = true) (hi : (P.info? ty).map (·.size) = some cs.size)
    (h : wpList P ops Q rest (a.put o.dst (.agg cs)) w) : wpList P ops Q (o :: rest) a w := by
  unfold wpList
  rw [if_pos hw]
  exact .inl (wp_load_row ty x ho g hx t cs fr d hg hu hd hi h)
end
/-- The number whose bits are asked lies in the parameter's row. -/
structure RoS (w V : World) (N : Int) : Prop where
  x : V.heap[w.heap.size]? = some (.cells (lim N) 143)
  bel : Below w.heap.size w V
theorem RoS.below {w V V' : World} {N : Int} (h : RoS w V N) (hb : Below V.heap.size V V') : RoS w V' N := ⟨rowE_keep hb h.x, h.bel.trans (hb.mono h.bel.size)⟩
theorem RoS.setRow {w V : World} {N M : Int} (h : RoS w V N) : RoS w (V.setRow w.heap.size (lim M)) M := ⟨setRow_heap _ _ _ _ _ _ h.x, h.bel.grown setRow_grown h.bel.size (fun j hj => by injection hj with hj; omega)⟩
theorem bit_nat (N i : Nat) : bitZ (N : Int) i = ((N / 2 ^ i % 2 : Nat) : Int) := by
  unfold bitZ
  rw [← Int.natCast_ediv]; omega
theorem near_units {m : Nat} (hm0 : 0 < m) (hm : m ≤ 9007199254740992) : FloatKind.f64.nearest (m : Int) < 18446744073709551616 ∧ fin double (FloatKind.f64.nearest (m : Int)) ∧ sgn double (FloatKind.f64.nearest (m : Int)) = false ∧ val double (rung double (FloatKind.f64.nearest (m : Int))) = m * one_ double := by
  by_cases h : m = 9007199254740992
  · subst h
    have e : FloatKind.f64.nearest ((9007199254740992 : Nat) : Int) = 4845873199050653696 := by decide +kernel
    rw [e]
    refine ⟨by decide, by unfold fin; decide +kernel, by decide +kernel, by decide +kernel⟩
  · obtain ⟨h1, h2, h3⟩ := ex_nearest (z := (m : Int)) (by omega)
    generalize FloatKind.f64.nearest (m : Int) = x at *
    obtain ⟨K, hK, hO⟩ := one_pow
    rw [← hK] at h3
    have h4 : sval double x = ((m * one_ double : Nat) : Int) := by rw [h3, hO, Int.natCast_mul]
    have hp : 0 < m * one_ double := Nat.mul_pos hm0 onep
    have sg : sgn double x = false := by
      cases h : sgn double x with
      | false => rfl
      | true => unfold sval at h4; rw [h, if_pos rfl] at h4; omega
    refine ⟨h1, h2, sg, ?_⟩
    unfold sval at h4
    rw [sg, if_neg (by decide)] at h4
    exact Int.ofNat_inj.1 h4
theorem near_zero : FloatKind.f64.nearest ((0 : Nat) : Int) = 0 := by decide +kernel
/-- The float of what is cut, brought to its place: it is what is told. -/
theorem round_word {N d K : Nat} (hK : K = 1126) (hd : d ≤ 2044) (hhi : N < 9007199254740992 * 2 ^ (K + d)) (hlo : d = 0 ∨ 4503599627370496 * 2 ^ (K + d) ≤ N) :
    ∃ r, r < double.infRung ∧ Rne double N (2 ^ K) r ∧ FloatKind.f64.nearest (cutM N (K + d) : Int) < 18446744073709551616 ∧ fin double (FloatKind.f64.nearest (cutM N (K + d) : Int)) ∧
      (rung double (FloatKind.f64.nearest (cutM N (K + d) : Int)) ≠ 0 → (d : Int) - 1074 + expo (FloatKind.f64.nearest (cutM N (K + d) : Int)) ≤ 2046) ∧ ldW (FloatKind.f64.nearest (cutM N (K + d) : Int)) ((d : Int) - 1074) = double.word false r := by
  have hr := rne_cut (N := N) (d := d) (K := K) (by omega) hhi hlo
  obtain ⟨m1, m2⟩ := cutM_bounds hhi hlo
  have hv := val_units (d := d) m1 m2
  obtain ⟨M, hM⟩ : ∃ M, M = cutM N (K + d) := ⟨_, rfl⟩
  rw [← hM] at hr m1 m2 hv ⊢
  by_cases h0 : M = 0
  · have hd0 : d = 0 := by omega
    subst h0 hd0
    rw [near_zero]
    refine ⟨0, by rw [inf_double]; decide, by simpa using hr, by decide, by unfold fin; decide +kernel, fun h => absurd (by decide) h, ?_⟩
    unfold ldW; rw [if_pos (by decide)]; decide
  · obtain ⟨x1, x2, x3, x4⟩ := near_units (Nat.pos_of_ne_zero h0) m1
    obtain ⟨y1, r, y2, y3, y4⟩ := ldW_units x3 x4 (Nat.pos_of_ne_zero h0) m1 hd
    have e : r = d * double.binade + M := val_inj (f := double) (by rw [y4, hv])
    exact ⟨r, y3, by rw [e]; exact hr, x1, x2, y1, y2⟩
theorem rest_succ (N k : Nat) : (if N % 2 ^ (k + 1) = 0 then 0 else 1) = (if N % 2 ^ k = 0 then 0 else 1) ||| (N / 2 ^ k % 2) := by
  have h := Nat.mod_mul (a := 2 ^ k) (b := 2) (x := N)
  rw [Nat.pow_succ, h]
  have hp := Nat.two_pow_pos k
  rcases (show N / 2 ^ k % 2 = 0 ∨ N / 2 ^ k % 2 = 1 by omega) with e | e <;> rw [e]
  · rw [Nat.mul_zero, Nat.add_zero, Nat.or_zero]
  · rw [Nat.mul_one, if_neg (by omega)]
    split <;> rfl
theorem half_succ (N k : Nat) : N / 2 ^ k = 2 * (N / 2 ^ (k + 1)) + N / 2 ^ k % 2 := by
  rw [Nat.pow_succ, ← Nat.div_div_eq_div_mul]; omega
def RetRd (a : Int) (no : Nat) (w : World) (e : Ending) (w' : World) : Prop := ∃ y, e = .returned (.float .f64 y) ∧ y < 18446744073709551616 ∧ RoundsE a no y ∧ Below w.heap.size w w'
theorem Round_c (a : Int) (no : Nat) (hno : no < 18446744073709551616) {L : Nat} (hL : L ≤ 3223) (hb : a.natAbs < 2 ^ L) (w : World) : Calls Tryz.prog 117 #[.agg (lim a), .float .f64 no] w (RetRd a no w) := by
  have h0 : RoS w (w.alloc (.cells (lim a) 143)) a := ⟨heap_alloc_last w _, belowE_new w _⟩
  have hs := below_sign (show L ≤ 4607 by omega) hb
  have HBl := Lib.hid (Below_c a)
  rw [hs] at HBl
  obtain ⟨N, hN⟩ : ∃ N : Nat, N = a.natAbs := ⟨_, rfl⟩
  obtain ⟨sg, hsg⟩ : ∃ sg, sg = decide (a < 0) := ⟨_, rfl⟩
  rw [← hsg] at HBl
  have HA := Lib.hid (show a = (if sg then -(N : Int) else (N : Int)) by rw [hsg]; by_cases h : a < 0 <;> simp [h] <;> omega)
  have HS := Lib.hid hsg
  rw [← hN] at hb
  have HNb := Lib.hid (And.intro hL hb)
  obtain ⟨W0, hW0⟩ : ∃ W0, W0 = w.alloc (.cells (lim a) 143) := ⟨_, rfl⟩
  rw [← hW0] at h0
  have H0 := Lib.hid h0
  have HW := Lib.hid hW0
  clear hs hsg hN hb hL h0 hW0
  go_enter Tryz.func117, Tryz.ntmps117
  go_upto_region 1 with fail
  rw [← HW.out]
  clear HW
  refine wp_region_lit ?_
  refine wpList_load_row rfl 143 _ rfl w.heap.size rfl 143 (lim a) (0, 0) _ H0.out.x Tryz.underlying143 rfl (by rw [lim_size]; kernel_rfl) ?_
  go_wp2_with fail
  refine (HBl.out _).mono ?_
  rintro e W1 ⟨rfl, hb⟩
  have H1 := Lib.hid (H0.out.below hb)
  clear hb H0 HBl
  go_upto_if 16 with fail
  go_cut [] (fun wx => RoS w wx N)
  case first =>
    cases sg
    case false =>
      go_wp2
      go_meet
      case rel =>
        have h := HA.out
        simp only [Bool.false_eq_true, if_false] at h
        rw [← h]; exact H1.out
    case true =>
      go_upto_region 3 with fail
      refine wp_region_lit ?_
      refine wpList_load_row rfl 143 _ rfl w.heap.size rfl 143 (lim a) (0, 0) _ H1.out.x Tryz.underlying143 rfl (by rw [lim_size]; kernel_rfl) ?_
      have HOp := Lib.hid (Opp_c a W1)
      go_wp2_with fail
      refine HOp.out.mono ?_
      rintro e W2 ⟨rfl, hb⟩
      have H2 := Lib.hid (H1.out.below hb)
      clear hb H1 HOp
      dsimp only
      rename_i hK
      refine hK _ _ ?_
      refine wpList_store_row rfl 143 _ _ rfl w.heap.size (lim (-a)) rfl rfl 143 _ H2.out.x (by rw [lim_size]; kernel_rfl) (by rw [lim_size, lim_size]) (mixL_one _ _ _) ?_
      have H3 := Lib.hid (H2.out.setRow (M := -a))
      obtain ⟨W3, hW3⟩ : ∃ W3, W3 = W2.setRow w.heap.size (lim (-a)) := ⟨_, rfl⟩
      rw [← hW3] at H3 ⊢
      clear hW3 H2
      go_wp2
      go_meet
      case rel =>
        have h := HA.out
        simp only [if_true] at h
        rw [show (N : Int) = -a by omega]; exact H3.out
  case rest =>
  have H2 := Lib.hid hcut
  rename World => W2
  clear hcut H1
  obtain ⟨hL, hb⟩ := HNb.out
  obtain ⟨T, hT⟩ : ∃ T : Nat, T = 4608 := ⟨_, rfl⟩
  have H4 := Lib.hid (show N < 2 ^ T from Nat.lt_of_lt_of_le hb (Nat.pow_le_pow_right (by decide) (by omega)))
  have HT := Lib.hid hT
  clear hL hb hT
  go_wp2
  go_loopw [6] (fun iv wr => ∃ t : Nat, t ≤ 4608 ∧ iv = .int .i64 ((t : Int) - 1) ∧ Hid (N < 2 ^ t) ∧ Hid (RoS w wr N)) (fun iv _ => (intOf iv + 1).toNat)
  case atStart => exact ⟨T, by have := HT.out; omega, by rw [HT.out]; rfl, H4, H2⟩
  case round =>
    obtain ⟨t, ht, rfl, HNt, HR⟩ := hrel
    clear H2 H4 HT
    rename World => wr
    by_cases ht0 : t = 0
    · subst ht0
      go_wp2
      go_ret
      have hN0 : N = 0 := by have := HNt.out; rw [Nat.pow_zero] at this; omega
      have ha := HA.out
      have ha0 : a = 0 := by rw [ha, hN0]; cases sg <;> rfl
      exact ⟨no, rfl, hno, ⟨fun _ => rfl, fun h => absurd ha0 h⟩, HR.out.bel⟩
    · obtain ⟨s, rfl⟩ : ∃ s, t = s + 1 := ⟨t - 1, by omega⟩
      have es : ((s + 1 : Nat) : Int) - 1 = (s : Int) := by omega
      rw [es]
      have hs : s < 4608 := by omega
      clear ht ht0 es
      go_upto_region 5 with fail
      refine wp_region_lit ?_
      refine Go.Great.wpList_readTo rfl _ rfl (.int .i64 (s : Nat)) (by kernel_rfl) ?_
      refine Go.Great.wpList_readTo rfl _ rfl (.bool true) (by kernel_rfl) ?_
      refine Go.Great.wpList_readTo rfl _ rfl (.bool true) (by kernel_rfl) ?_
      refine wpList_load_rowW (by kernel_rfl) 143 _ rfl w.heap.size rfl 143 (lim (N : Int)) (0, 0) _ HR.out.x Tryz.underlying143 rfl (by rw [lim_size]; kernel_rfl) ?_
      have HBi := Lib.hid (bit_c (N : Int) s hs wr)
      rw [bit_nat] at HBi
      obtain ⟨bt, hbt⟩ : ∃ bt, bt = N / 2 ^ s % 2 := ⟨_, rfl⟩
      have hb2 : bt = 0 ∨ bt = 1 := by rw [hbt]; omega
      have HBt := Lib.hid hbt
      rw [← hbt] at HBi
      clear hbt
      go_wp2_with fail
      refine HBi.out.mono ?_
      rintro e W5 ⟨rfl, hb⟩
      have HR5 := Lib.hid (HR.out.below hb)
      clear hb HR HBi
      rcases hb2 with rfl | rfl
      · go_wp2
        go_roundw
        case rel =>
          refine ⟨s, by omega, by go_num, ?_, HR5⟩
          have h1 := HBt.out
          have h2 := HNt.out
          rw [Nat.pow_succ] at h2
          have h3 : N / 2 ^ s < 2 := (Nat.div_lt_iff_lt_mul (Nat.two_pow_pos s)).2 (by rw [Nat.mul_comm]; exact h2)
          have h4 : N / 2 ^ s = 0 := by generalize N / 2 ^ s = q at *; omega
          exact Lib.hid (by rcases (Nat.div_eq_zero_iff).1 h4 with h | h; (have := Nat.two_pow_pos s; omega); exact h)
        case measure => simp [intOf]
      · have HLo := Lib.hid (show 2 ^ s ≤ N from by
          have h1 := HBt.out
          rcases Nat.lt_or_ge N (2 ^ s) with h | h
          · rw [Nat.div_eq_of_lt h] at h1; cases h1
          · exact h)
        clear HBt
        obtain ⟨hL, hNL⟩ := HNb.out
        have hsL : s < L := by
          rcases Nat.lt_or_ge s L with h | h
          · exact h
          · have h1 := HLo.out
            have h2 := Nat.pow_le_pow_right (show 0 < 2 by decide) h
            omega
        obtain ⟨K, hK⟩ : ∃ K : Nat, K = 1126 := ⟨_, rfl⟩
        obtain ⟨d, hd⟩ : ∃ d : Nat, d = s - 1178 := ⟨_, rfl⟩
        obtain ⟨low, hlow⟩ : ∃ low : Nat, low = K + d := ⟨_, rfl⟩
        have emax : max ((s : Int) - 52) 1126 = (low : Int) := by omega
        have hd2 : d ≤ 2044 := by omega
        have hHi : N < 9007199254740992 * 2 ^ (K + d) := by
          refine Nat.lt_of_lt_of_le HNt.out ?_
          rw [show (9007199254740992 : Nat) = 2 ^ 53 by decide, ← Nat.pow_add]
          exact Nat.pow_le_pow_right (by decide) (by omega)
        have hLow : d = 0 ∨ 4503599627370496 * 2 ^ (K + d) ≤ N := by
          by_cases h : d = 0
          · exact .inl h
          · right
            refine Nat.le_trans ?_ HLo.out
            rw [show (4503599627370496 : Nat) = 2 ^ 52 by decide, ← Nat.pow_add]
            exact Nat.pow_le_pow_right (by decide) (by omega)
        have HHi := Lib.hid hHi
        have HRW := Lib.hid (round_word hK hd2 hHi hLow)
        have HKd := Lib.hid (show low = K + d ∧ K = 1126 ∧ d ≤ 2044 from ⟨hlow, hK, hd2⟩)
        have hl1 : 1126 ≤ low := by omega
        have hl2 : low ≤ 3170 := by omega
        have hsn : ¬ (s : Int) < 0 := by omega
        have HN1 := Lib.hid (show N / 2 ^ (s + 1) = 0 from Nat.div_eq_of_lt HNt.out)
        have hsl : s < low + 53 := by omega
        clear hL hNL hsL hK hd hlow hd2 hHi hLow HNt HNb
        go_upto_region 12 with fail
        go_loopw [8, 9] (fun mv iv wx => ∃ c : Nat, c ≤ s + 1 ∧ (low ≤ c ∨ c = s + 1) ∧ iv = .int .i64 ((c : Int) - 1) ∧ mv = .int .u64 ((N / 2 ^ c : Nat) : Int) ∧ Hid (RoS w wx N)) (fun _ iv _ => (intOf iv + 1).toNat)
        case atStart => exact ⟨s + 1, Nat.le_refl _, .inr rfl, by go_num, by rw [HN1.out]; rfl, HR5⟩
        case round =>
          obtain ⟨c, hc, hc2, rfl, rfl, HR6⟩ := hrel
          clear HR5
          rename World => wx
          obtain ⟨m, hm⟩ : ∃ m, m = N / 2 ^ c := ⟨_, rfl⟩
          rw [← hm]
          by_cases hcl : low < c
          · obtain ⟨b, rfl⟩ : ∃ b, c = b + 1 := ⟨c - 1, by omega⟩
            have eb : ((b + 1 : Nat) : Int) - 1 = (b : Int) := by omega
            rw [eb]
            have hbl : (low : Int) ≤ b := by omega
            obtain ⟨bt, hbt⟩ : ∃ bt, bt = N / 2 ^ b % 2 := ⟨_, rfl⟩
            have hb2 : bt < 2 := by rw [hbt]; omega
            have hm53 : m < 9007199254740992 := by
              rw [hm]
              refine (Nat.div_lt_iff_lt_mul (Nat.two_pow_pos _)).2 (Nat.lt_of_lt_of_le HHi.out (Nat.mul_le_mul_left _ (Nat.pow_le_pow_right (by decide) ?_)))
              have := HKd.out.1; omega
            have HMm := Lib.hid (show N / 2 ^ b = 2 * m + bt by rw [hm, hbt]; exact half_succ N b)
            have HBi := Lib.hid (bit_c (N : Int) b (by omega) wx)
            rw [bit_nat, ← hbt] at HBi
            obtain ⟨m2, hm2⟩ : ∃ m2, m2 = 2 * m := ⟨_, rfl⟩
            have w1 : IntKind.u64.wrap (2 * (m : Int)) = (m2 : Int) := by rw [u64_wrap]; omega
            obtain ⟨m3, hm3⟩ : ∃ m3, m3 = m2 + bt := ⟨_, rfl⟩
            have w2 : IntKind.u64.wrap ((m2 : Int) + (bt : Int)) = (m3 : Int) := by rw [u64_wrap]; omega
            have HM3 := Lib.hid (show N / 2 ^ b = m3 by rw [HMm.out, hm3, hm2])
            have hbs : b ≤ s := by omega
            clear hm hbt hm2 hm3 HMm hc hc2 hcl eb
            go_upto_region 14 with fail
            refine wp_region_lit ?_
            refine Go.Great.wpList_readTo rfl _ rfl (.int .u64 (m : Nat)) (by kernel_rfl) ?_
            refine Go.Great.wpList_readTo rfl _ rfl (.int .u64 (IntKind.u64.wrap (2 * (m : Int)))) (by kernel_rfl) ?_
            rw [w1]
            refine wpList_load_row rfl 143 _ rfl w.heap.size rfl 143 (lim (N : Int)) (0, 0) _ HR6.out.x Tryz.underlying143 rfl (by rw [lim_size]; kernel_rfl) ?_
            go_wp2_with fail
            refine HBi.out.mono ?_
            rintro e W6 ⟨rfl, hb⟩
            have HR7 := Lib.hid (HR6.out.below hb)
            clear hb HR6 HBi
            go_wp2
            go_roundw
            case rel => exact ⟨b, by omega, .inl (by omega), by go_num, by rw [HM3.out], HR7⟩
            case measure => simp [intOf]
          · have hcl2 : ¬ (low : Int) ≤ (c : Int) - 1 := by omega
            obtain ⟨l1, hl⟩ : ∃ l1 : Nat, low = l1 + 1 := ⟨low - 1, by omega⟩
            have el1 : (low : Int) - 1 = (l1 : Int) := by omega
            have HMl := Lib.hid (show m = N / 2 ^ low by
              rw [hm]
              rcases hc2 with h | h
              · rw [show c = low by omega]
              · rw [h, HN1.out]
                refine (Nat.div_eq_of_lt (Nat.lt_of_lt_of_le (m := 2 ^ (s + 1)) ?_ (Nat.pow_le_pow_right (by decide) (by omega)))).symm
                have h1 := HN1.out
                rcases (Nat.div_eq_zero_iff).1 h1 with h2 | h2
                · have := Nat.two_pow_pos (s + 1); omega
                · exact h2)
            obtain ⟨hf, hhf⟩ : ∃ hf, hf = N / 2 ^ l1 % 2 := ⟨_, rfl⟩
            have hf2 : hf = 0 ∨ hf = 1 := by rw [hhf]; omega
            have HHf := Lib.hid hhf
            have HBi := Lib.hid (bit_c (N : Int) l1 (by omega) wx)
            rw [bit_nat, ← hhf] at HBi
            have hl3 : l1 ≤ 3170 := by omega
            have HLl := Lib.hid hl
            have hm53 : m < 9007199254740992 := by
              rw [HMl.out]
              refine (Nat.div_lt_iff_lt_mul (Nat.two_pow_pos _)).2 ?_
              rw [HKd.out.1]; exact HHi.out
            clear hm hc hc2 hcl hhf
            go_upto_region 15 with fail
            refine wp_region_lit ?_
            refine wpList_load_row rfl 143 _ rfl w.heap.size rfl 143 (lim (N : Int)) (0, 0) _ HR6.out.x Tryz.underlying143 rfl (by rw [lim_size]; kernel_rfl) ?_
            go_wp2_with fail
            refine HBi.out.mono ?_
            rintro e W6 ⟨rfl, hb⟩
            have HR7 := Lib.hid (HR6.out.below hb)
            clear hb HR6 HBi hl
            go_upto_region 18 with fail
            go_loopw [11, 12] (fun rv iv wy => ∃ k : Nat, k ≤ l1 ∧ iv = .int .i64 (k : Nat) ∧ rv = .int .u64 ((if N % 2 ^ k = 0 then 0 else 1 : Nat) : Int) ∧ Hid (RoS w wy N)) (fun _ iv _ => l1 - (intOf iv).toNat)
            case atStart => exact ⟨0, Nat.zero_le _, rfl, by rw [Nat.pow_zero, Nat.mod_one]; rfl, HR7⟩
            case round =>
              obtain ⟨k, hk, rfl, rfl, HR8⟩ := hrel
              clear HR7
              rename World => wy
              obtain ⟨r, hr⟩ : ∃ r : Nat, r = if N % 2 ^ k = 0 then 0 else 1 := ⟨_, rfl⟩
              have hr2 : r = 0 ∨ r = 1 := by rw [hr]; split <;> simp
              rw [← hr]
              have HRr := Lib.hid hr
              by_cases hkl : k < l1
              · obtain ⟨bt, hbt⟩ : ∃ bt, bt = N / 2 ^ k % 2 := ⟨_, rfl⟩
                have HBi := Lib.hid (bit_c (N : Int) k (by omega) wy)
                rw [bit_nat, ← hbt] at HBi
                obtain ⟨r2, hr3⟩ : ∃ r2, r2 = r ||| bt := ⟨_, rfl⟩
                have w1 : bits .or .u64 (r : Int) (bt : Int) = (r2 : Int) := by rw [hr3]; exact u64_or_nat r bt (by omega) (by rw [hbt]; omega)
                have HR2 := Lib.hid (show r2 = if N % 2 ^ (k + 1) = 0 then 0 else 1 by rw [hr3, hr, hbt]; exact (rest_succ N k).symm)
                have hkl' : (k : Int) < (l1 : Int) := by omega
                clear hr hbt hr3 hr2
                go_upto_region 20 with fail
                refine wp_region_lit ?_
                refine Go.Great.wpList_readTo rfl _ rfl (.int .u64 (r : Nat)) (by kernel_rfl) ?_
                refine wpList_load_row rfl 143 _ rfl w.heap.size rfl 143 (lim (N : Int)) (0, 0) _ HR8.out.x Tryz.underlying143 rfl (by rw [lim_size]; kernel_rfl) ?_
                go_wp2_with fail
                refine HBi.out.mono ?_
                rintro e W6 ⟨rfl, hb⟩
                have HR9 := Lib.hid (HR8.out.below hb)
                clear hb HR8 HBi
                go_wp2
                go_roundw
                case rel => exact ⟨k + 1, by omega, by go_num, by rw [HR2.out], HR9⟩
                case measure => simp [intOf]; omega
              · have hkl' : ¬ (k : Int) < (l1 : Int) := by omega
                have HRk := Lib.hid (show r = if N % 2 ^ l1 = 0 then 0 else 1 by rw [HRr.out, show k = l1 by omega])
                clear hr hkl hk HRr
                go_upto_region 21 with fail
                obtain ⟨up, hup⟩ : ∃ up, up = decide (hf = 1 ∧ (r = 1 ∨ m % 2 = 1)) := ⟨_, rfl⟩
                have HUp := Lib.hid hup
                obtain ⟨M, hM⟩ : ∃ M, M = cutM N (K + d) := ⟨_, rfl⟩
                have HM := Lib.hid (show M = m + if up then 1 else 0 by
                  rw [hM, hup]
                  unfold cutM
                  rw [← HKd.out.1, show low - 1 = l1 by have := HLl.out; omega, ← HMl.out, ← HHf.out, HRk.out]
                  congr 1
                  simp only [decide_eq_true_eq]
                  congr 1
                  by_cases h : N % 2 ^ l1 = 0 <;> simp [h])
                rw [← hM] at HRW
                clear hup hM
                go_cut [72] (fun sv wz => sv = .bool up ∧ wz = wy)
                case first =>
                  obtain ⟨mp, hmp⟩ : ∃ mp, mp = m % 2 := ⟨_, rfl⟩
                  have hmp2 : mp = 0 ∨ mp = 1 := by omega
                  have emp : (m : Int) % 2 = (mp : Int) := by omega
                  rw [← hmp] at HUp
                  clear hmp
                  rcases hf2 with rfl | rfl <;> rcases hr2 with rfl | rfl <;> rcases hmp2 with rfl | rfl
                  all_goals
                    have hu := HUp.out
                    simp at hu
                    subst hu
                    go_wp2
                    go_meet
                    case rel => exact ⟨rfl, rfl⟩
                case rest =>
                obtain ⟨rfl, rfl⟩ := hcut
                rename World => wy
                go_upto_if 72 with fail
                go_cut [8] (fun mv wz => mv = .int .u64 (M : Nat) ∧ wz = wy)
                case first =>
                  cases up
                  · go_wp2
                    go_meet
                    case rel => exact ⟨by rw [HM.out]; rfl, rfl⟩
                  · go_wp2
                    go_meet
                    case rel => exact ⟨by rw [HM.out]; rfl, rfl⟩
                case rest =>
                obtain ⟨rfl, rfl⟩ := hcut
                rename World => wy
                obtain ⟨q, q1, q2, q3, q4, q5, q6⟩ := HRW.out
                have HQ := Lib.hid (And.intro q1 q2)
                have HLd := Lib.hid (show Calls Tryz.prog 24 #[.float .f64 (floatOfInt .f64 (M : Int)), .int .i64 ((d : Int) - 1074)] wy (RetR (double.word false q) wy) by
                  rw [← q6]; exact Ldexp_any (FloatKind.f64.nearest (M : Int)) ((d : Int) - 1074) q3 q4 q5 (by omega) wy)
                have elow : (l1 : Int) + 1 - 2200 = (d : Int) - 1074 := by have := HKd.out; have := HLl.out; omega
                clear q1 q2 q3 q4 q5 q6 HRW
                go_wp2_with fail
                refine HLd.out.mono ?_
                rintro e W7 ⟨y, n, rfl, hy, hyl, rfl⟩
                have hq := HQ.out.1
                have hys : y = double.word false q := by
                  have hqn : isNaN double (double.word false q) = false := by
                    have h1 := infRung_lt double
                    unfold isNaN; rw [rung_word false (by omega)]; exact decide_eq_false (by omega)
                  exact cn_onlyX hy hqn
                have hN0 : N ≠ 0 := by have h1 := HLo.out; have h2 := Nat.two_pow_pos s; omega
                have HE := Lib.hid (show RoundsE a no (double.word sg q) from by
                  have ha := HA.out
                  have ha0 : a ≠ 0 := by rw [ha]; cases sg <;> simp <;> omega
                  refine ⟨fun h => absurd h ha0, fun _ => ?_⟩
                  rw [← HS.out, show a.natAbs = N by rw [ha]; cases sg <;> simp]
                  refine ⟨q, by rw [← HKd.out.2.1]; exact HQ.out.2, ?_⟩
                  rw [Nat.min_eq_left (Nat.le_of_lt hq)])
                have HR10 := Lib.hid (HR8.out.bel)
                have HF := Lib.hid (show Fl.flip double (double.word false q) = double.word true q ∧ double.word true q < 18446744073709551616 from by
                  have h1 := infRung_lt double
                  refine ⟨?_, word_lt (f := double) _ (by omega)⟩
                  rw [flip_eq (f := double) (by rw [← hys]; exact hyl), sgn_word false (by omega), rung_word false (by omega)]
                  rfl)
                subst hys
                clear HR8 hy
                cases sg
                · go_wp2
                  go_ret
                  exact ⟨_, rfl, hyl, HE.out, below_drewN HR10.out _⟩
                · go_wp2
                  go_ret
                  exact ⟨_, ret_float HF.out.1, HF.out.2, HE.out, below_drewN HR10.out _⟩
end Go.Proofs.YtandllekeimpgaaGreat
