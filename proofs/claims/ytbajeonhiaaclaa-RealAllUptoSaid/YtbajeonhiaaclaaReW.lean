/- Layer 1, RealExact: the walk. -/
import Derived.Test.YtbajeonhiaaclaaEx6
import Derived.Test.YtbajeonhiaaclaaS03
import Derived.Test.YtbajeonhiaaclaaS02
import Derived.Test.YtbajeonhiaaclaaExt
import Derived.ChangeKeysEq
import Derived.Laws.StructEq
namespace Go.Proofs.Ytbajeonhiaaclaa
open Go.RowKit Fl Ieee
set_option maxRecDepth 20000
attribute [local go_sem] Fl.order_self Fl.order_self' Fl.order_eq Fl.order_ne Fl.order_lt Fl.order_gt Fl.fle_fold Fl.fge_fold
theorem eqItems_lim (a : Int) (d : Nat) (w : World) : ∀ is : List Nat, (∀ i ∈ is, i < 72) → (Op.eqItems (d + 1) 36 1 (lim a) (lim a) is).run Try.prog w = .ok true w
  | [], _ => rfl
  | i :: is, h => by
    have hx := lim_at (a := a) (h i (by simp))
    have hp : (part 36 (lim a) (i * 1)).run Try.prog w = .ok (.int .u64 (limb a i)) w := run_part_plain w (by kernel_rfl) (by rw [Nat.mul_one]; exact hx)
    have hq : (Op.equalIn (d + 1) 36 (.int .u64 (limb a i)) (.int .u64 (limb a i))).run Try.prog w = .ok true w := by
      rw [run_equalIn_int w d 36 .u64 .u64 _ _ Try.underlying36]; simp
    simp only [Op.eqItems, Sem.run_bind, hp, hq, Result.andThen_ok, Bool.not_true, Bool.false_eq_true, if_false]
    exact eqItems_lim a d w is (fun j hj => h j (by simp [hj]))
theorem equal_lim (a : Int) (w : World) : (Op.equalIn 10000 53 (.agg (lim a)) (.agg (lim a))).run Try.prog w = .ok true w := by
  obtain ⟨i, hi⟩ := (show ∃ i, Try.prog.info? 36 = some i from ⟨_, rfl⟩)
  rw [run_equalIn_array w 9999 (t := 53) (e := 36) (n := 72) (i := i) _ _ Try.underlying53 hi]
  rw [show Try.prog.cellsOf 36 = 1 by kernel_rfl]
  exact eqItems_lim a 9998 w _ (fun j hj => List.mem_range.1 hj)
theorem nofin {x : Nat} (h : isInf double x = false) (h' : isNaN double x = false) : fin double x := by
  have h1 := of_decide_eq_false h
  have h2 := of_decide_eq_false h'
  unfold fin; omega
theorem fin_no {x : Nat} (h : fin double x) : isInf double x = false ∧ isNaN double x = false := by
  unfold fin at h
  exact ⟨decide_eq_false (by omega), decide_eq_false (by omega)⟩
theorem Exact1 (a b : Nat) (ha : a < 18446744073709551616) (hb : b < 18446744073709551616) (w : World) :
    Calls Try.prog 6 #[.int .u64 (a : Nat), .int .u64 (b : Nat)] w fun e w' => e = .returned (.bool true) ∧ Below w.heap.size w w' := by
  have HA := Lib.hid ha
  have HB := Lib.hid hb
  have HIa := Lib.hid (mIsInf_c a ha)
  have HIb := Lib.hid (mIsInf_c b hb)
  obtain ⟨ia, hia⟩ : ∃ ia, ia = isInf double a := ⟨_, rfl⟩
  obtain ⟨ib, hib⟩ : ∃ ib, ib = isInf double b := ⟨_, rfl⟩
  obtain ⟨na, hna⟩ : ∃ na, na = isNaN double a := ⟨_, rfl⟩
  obtain ⟨nb, hnb⟩ : ∃ nb, nb = isNaN double b := ⟨_, rfl⟩
  rw [← hia] at HIa
  rw [← hib] at HIb
  have na' : isNaN FloatKind.f64.format a = na := hna.symm
  have nb' : isNaN FloatKind.f64.format b = nb := hnb.symm
  have HF := Lib.hid (show (ia || ib || na || nb) = false → fin double a ∧ fin double b from fun h => by
    simp only [Bool.or_eq_false_iff] at h
    exact ⟨nofin (by rw [← hia]; exact h.1.1.1) (by rw [← hna]; exact h.1.2), nofin (by rw [← hib]; exact h.1.1.2) (by rw [← hnb]; exact h.2)⟩)
  clear ha hb hia hib hna hnb
  go_enter Try.func6, Try.ntmps6
  go_wp2_with fail
  refine (awake_c _).mono ?_
  rintro e W1 ⟨rfl, hb1⟩
  have HB1 := Lib.hid hb1
  clear hb1
  go_wp2_with fail
  refine (floatw_c a HA.out _).mono ?_
  rintro e W2 ⟨rfl, rfl⟩
  go_wp2_with fail
  refine (floatw_c b HB.out _).mono ?_
  rintro e W2 ⟨rfl, rfl⟩
  go_wp2_with fail
  refine (TwoSum_c a b _).mono ?_
  rintro e W2 ⟨s, er, n1, rfl, g1, bs, be, rfl⟩
  have G1 := Lib.hid g1
  have BS := Lib.hid bs
  have BE := Lib.hid be
  clear g1 bs be
  go_wp2_with fail
  refine (TwoProd_c a b _).mono ?_
  rintro e W2 ⟨p, f, n2, rfl, g2, bp, bf, rfl⟩
  have G2 := Lib.hid g2
  have BP := Lib.hid bp
  have BF := Lib.hid bf
  clear g2 bp bf
  have HB2 := Lib.hid (below_drewN HB1.out (n1 + n2))
  go_upto_region 5 with fail
  obtain ⟨W2, hW2⟩ : ∃ W2, W2 = W1.drewN (n1 + n2) := ⟨_, rfl⟩
  rw [← hW2] at HB2 ⊢
  clear hW2 HB1
  go_cut [44] (fun sv wz => sv = .bool (ia || ib || na || nb) ∧ wz = W2)
  case first =>
    cases ia
    case true =>
      go_wp2_with fail
      refine (HIa.out _).mono ?_
      rintro e W3 ⟨rfl, rfl⟩
      go_wp2
      go_meet
      case rel => exact ⟨rfl, rfl⟩
    case false =>
      cases ib
      case true =>
        go_wp2_with fail
        refine (HIa.out _).mono ?_
        rintro e W3 ⟨rfl, rfl⟩
        go_wp2_with fail
        refine (HIb.out _).mono ?_
        rintro e W3 ⟨rfl, rfl⟩
        go_wp2
        go_meet
        case rel => exact ⟨rfl, rfl⟩
      case false =>
        cases na <;> cases nb
        all_goals
          go_wp2_with fail
          refine (HIa.out _).mono ?_
          rintro e W3 ⟨rfl, rfl⟩
          go_wp2_with fail
          refine (HIb.out _).mono ?_
          rintro e W3 ⟨rfl, rfl⟩
          go_wp2
          go_meet
          case rel => exact ⟨rfl, rfl⟩
  case rest =>
  obtain ⟨rfl, rfl⟩ := hcut
  rename World => W2
  clear HIa HIb
  obtain ⟨bad, hbad⟩ : ∃ bad, bad = (ia || ib || na || nb) := ⟨_, rfl⟩
  rw [← hbad] at HF ⊢
  clear hbad na' nb'
  cases bad
  case true =>
    go_wp2
    go_ret
    exact ⟨rfl, HB2.out⟩
  case false =>
  have hfa := (HF.out rfl).1
  have hfb := (HF.out rfl).2
  have g1 := G1.out
  have g2 := G2.out
  rw [cn_fin hfa, cn_fin hfb] at g1 g2
  have HFa := Lib.hid hfa
  have HFb := Lib.hid hfb
  have G1' := Lib.hid g1
  have G2' := Lib.hid g2
  clear G1 G2 g1 g2 hfa hfb HF
  have hAa := Lib.hid (mAbs_c a HA.out)
  have hAb := Lib.hid (mAbs_c b HB.out)
  have HIe := Lib.hid (mIsInf_c er BE.out)
  obtain ⟨ra, hra⟩ : ∃ ra, ra = rung double a := ⟨_, rfl⟩
  obtain ⟨rb, hrb⟩ : ∃ rb, rb = rung double b := ⟨_, rfl⟩
  rw [← hra] at hAa
  rw [← hrb] at hAb
  obtain ⟨la, hla⟩ : ∃ la, la = decide (ra ≤ 9209861237972664320) := ⟨_, rfl⟩
  obtain ⟨lb, hlb⟩ : ∃ lb, lb = decide (rb ≤ 9209861237972664320) := ⟨_, rfl⟩
  have hfla : fle .f64 ra 9209861237972664320 = la := by rw [hla]; exact fle_rungs (by have := HFa.out; unfold fin at this; omega) (by rw [inf_double]; decide)
  have hflb : fle .f64 rb 9209861237972664320 = lb := by rw [hlb]; exact fle_rungs (by have := HFb.out; unfold fin at this; omega) (by rw [inf_double]; decide)
  have HEx := Lib.hid (show la = true → lb = true → s = fadd a b ∧ fin double s ∧ fin double er ∧ ofX s + ofX er = ofX a + ofX b from fun h1 h2 => by
    rw [h1] at hla
    rw [h2] at hlb
    have h3 := of_decide_eq_true hla.symm
    have h4 := of_decide_eq_true hlb.symm
    have sv : ∀ x, (sval double x).natAbs = val double (rung double x) := fun x => by unfold sval; split <;> omega
    obtain ⟨t1, t2, t3, -⟩ := twoSum_exact HA.out HB.out HFa.out HFb.out (by rw [sv, ← hra]; exact val_le h3) (by rw [sv, ← hrb]; exact val_le h4)
    have e1 : s = (twoSum a b).1 := cn_only' (congrArg Prod.fst G1'.out) (fin_no t1).2
    have e2 : er = (twoSum a b).2 := cn_only' (congrArg Prod.snd G1'.out) (fin_no t2).2
    rw [e1, e2]
    refine ⟨rfl, t1, t2, ?_⟩
    unfold ofX
    rw [← Int.add_mul, ← Int.add_mul, t3])
  clear hra hrb hla hlb G1'
  go_upto_region 7 with fail
  go_cut [82] (fun sv wz => sv = .bool false ∧ Hid (Below w.heap.size w wz))
  case first =>
    cases la
    case false =>
      go_wp2_with fail
      refine (hAa.out _).mono ?_
      rintro e W3 ⟨rfl, rfl⟩
      go_wp2
      go_meet
      case rel => exact ⟨rfl, HB2⟩
    case true =>
      cases lb
      case false =>
        go_wp2_with fail
        refine (hAa.out _).mono ?_
        rintro e W3 ⟨rfl, rfl⟩
        go_wp2_with fail
        refine (hAb.out _).mono ?_
        rintro e W3 ⟨rfl, rfl⟩
        go_wp2
        go_meet
        case rel => exact ⟨rfl, HB2⟩
      case true =>
        obtain ⟨es, fs, fe, hx⟩ := HEx.out rfl rfl
        have f1 : isNaN FloatKind.f64.format er = false := (fin_no fe).2
        have f2 := (fin_no fe).1
        rw [f2] at HIe
        have f3 : isNaN FloatKind.f64.format s = false := (fin_no fs).2
        have HOs := Lib.hid (Of_c s BS.out fs)
        have HOe := Lib.hid (Of_c er BE.out fe)
        have HOa := Lib.hid (Of_c a HA.out HFa.out)
        have HOb := Lib.hid (Of_c b HB.out HFb.out)
        have HP1 := Lib.hid (Plus_c (ofX s) (ofX er))
        have HP2 := Lib.hid (Plus_c (ofX a) (ofX b))
        rw [hx] at HP1
        obtain ⟨E, hE⟩ : ∃ E, E = ofX a + ofX b := ⟨_, rfl⟩
        rw [← hE] at HP1 HP2
        have heq := equal_lim E
        have HEs := Lib.hid es
        clear hx hE es fs fe f2 HEx
        go_wp2_with fail
        refine (hAa.out _).mono ?_
        rintro e W3 ⟨rfl, rfl⟩
        go_wp2_with fail
        refine (hAb.out _).mono ?_
        rintro e W3 ⟨rfl, rfl⟩
        go_wp2_with fail
        refine (HIe.out _).mono ?_
        rintro e W3 ⟨rfl, rfl⟩
        go_wp2_with fail
        refine upon_add _ _ _ _ ?_
        intro r1 n1 h1
        have hr : r1 = s := by
          have h5 : cn .f64 r1 = s := by rw [h1.1, cn_fin HFa.out, cn_fin HFb.out, HEs.out]
          exact cn_only' h5 f3
        clear h1
        subst hr
        have HB3 := Lib.hid (below_drewN HB2.out n1)
        go_wp2_with fail
        refine (HOs.out _).mono ?_
        rintro e W3 ⟨rfl, hb⟩
        have HB4 := Lib.hid (HB3.out.trans (hb.mono HB3.out.size))
        clear hb HB3
        go_wp2_with fail
        refine (HOe.out _).mono ?_
        rintro e W4 ⟨rfl, hb⟩
        have HB5 := Lib.hid (HB4.out.trans (hb.mono HB4.out.size))
        clear hb HB4
        go_wp2_with fail
        refine (HP1.out _).mono ?_
        rintro e W5 ⟨rfl, hb⟩
        have HB6 := Lib.hid (HB5.out.trans (hb.mono HB5.out.size))
        clear hb HB5
        go_wp2_with fail
        refine (HOa.out _).mono ?_
        rintro e W6 ⟨rfl, hb⟩
        have HB7 := Lib.hid (HB6.out.trans (hb.mono HB6.out.size))
        clear hb HB6
        go_wp2_with fail
        refine (HOb.out _).mono ?_
        rintro e W7 ⟨rfl, hb⟩
        have HB8 := Lib.hid (HB7.out.trans (hb.mono HB7.out.size))
        clear hb HB7
        go_wp2_with fail
        refine (HP2.out _).mono ?_
        rintro e W8 ⟨rfl, hb⟩
        have HB9 := Lib.hid (HB8.out.trans (hb.mono HB8.out.size))
        clear hb HB8
        go_wp2
        go_meet
        case rel => exact ⟨rfl, HB9⟩
  case rest =>
  obtain ⟨rfl, HB3⟩ := hcut
  rename World => W3
  clear HB2 HEx HIe hAa hAb hfla hflb
  have hIp := Lib.hid (mIsInf_c p BP.out)
  have hAp := Lib.hid (mAbs_c p BP.out)
  obtain ⟨ip, hip⟩ : ∃ ip, ip = isInf double p := ⟨_, rfl⟩
  rw [← hip] at hIp
  have hpc : cn .f64 p = fmul a b := congrArg Prod.fst G2'.out
  have hpn : isNaN double p = false := by
    refine (isNaN_cn .f64 p).symm.trans ?_
    rw [hpc]
    show isNaN double (fmul a b) = false
    obtain ⟨r, hr, hb⟩ := (fmul_rounds HFa.out HFb.out).rung
    unfold isNaN; exact decide_eq_false (by omega)
  have hpe : p = fmul a b := by rw [← hpc]; exact (cn_of_not (k := .f64) hpn).symm
  obtain ⟨rp, hrp⟩ : ∃ rp, rp = rung double p := ⟨_, rfl⟩
  rw [← hrp] at hAp
  have hrpi : rp ≤ double.infRung := by have := of_decide_eq_false hpn; omega
  obtain ⟨lp, hlp⟩ : ∃ lp, lp = decide (rp < 247697979505377280) := ⟨_, rfl⟩
  have hflp : flt .f64 rp 247697979505377280 = lp := by rw [hlp]; exact flt_rungs hrpi (by rw [inf_double]; decide)
  obtain ⟨xa, hxa⟩ : ∃ xa, xa = feq .f64 a 0 := ⟨_, rfl⟩
  obtain ⟨xb, hxb⟩ : ∃ xb, xb = feq .f64 b 0 := ⟨_, rfl⟩
  have fxa : feq .f64 a 0 = xa := hxa.symm
  have fxb : feq .f64 b 0 = xb := hxb.symm
  have HPx := Lib.hid (show (ip || (lp && !xa && !xb)) = false → fin double p ∧ fin double f ∧ ofX p + ofX f = prodX a b from fun h => by
    simp only [Bool.or_eq_false_iff] at h
    have hfp : fin double p := nofin (by rw [← hip]; exact h.1) hpn
    have z0 : ∀ x, feq .f64 x 0 = true → sval double x = 0 := fun x hx => by
      rw [feq_zero] at hx
      simp only [Bool.and_eq_true, decide_eq_true_eq] at hx
      have hx2 : rung double x = 0 := hx.2
      unfold sval; rw [hx2, val_zero]; split <;> rfl
    have h3 : sval double a = 0 ∨ sval double b = 0 ∨ 81129638414606681695789005144064 ≤ (sval double (fmul a b)).natAbs := by
      cases xa with
      | true => exact .inl (z0 a fxa)
      | false =>
        cases xb with
        | true => exact .inr (.inl (z0 b fxb))
        | false =>
          right; right
          have h4 : lp = false := by simpa using h.2
          rw [h4] at hlp
          have h5 := of_decide_eq_false hlp.symm
          have h6 := val_le (f := double) (show 247697979505377280 ≤ rp by omega)
          have h7 : val double 247697979505377280 = 81129638414606681695789005144064 := by decide +kernel
          rw [← hpe]
          have sv : (sval double p).natAbs = val double (rung double p) := by unfold sval; split <;> omega
          rw [sv, ← hrp]; omega
    obtain ⟨t1, t2⟩ := prod_exact HFa.out HFb.out (by rw [← hpe]; exact hfp) h3
    have hfe : f = ffma a b (fneg (fmul a b)) := cn_only' (congrArg Prod.snd G2'.out) (fin_no t1).2
    refine ⟨hfp, by rw [hfe]; exact t1, ?_⟩
    rw [← hfe, ← hpe] at t2
    unfold ofX prodX
    rw [← t2]
    obtain ⟨O, hO', hO⟩ := one_pow
    rw [hO]
    obtain ⟨K, hK⟩ : ∃ K, K = 1126 := ⟨_, rfl⟩
    obtain ⟨T, hT⟩ : ∃ T, T = 52 := ⟨_, rfl⟩
    rw [← hK, ← hT, show K = O + T by omega, ← Int.add_mul, Int.natCast_pow, Int.pow_add, Int.mul_assoc]
    rfl)
  have HPe := Lib.hid hpe
  have HPc := Lib.hid hpc
  clear hip hpc hpn hpe hrp hrpi hlp hxa hxb G2'
  go_upto_region 9 with fail
  go_cut [97] (fun sv wz => sv = .bool (ip || (lp && !xa && !xb)) ∧ wz = W3)
  case first =>
    cases ip
    case true =>
      go_wp2_with fail
      refine (hIp.out _).mono ?_
      rintro e W4 ⟨rfl, rfl⟩
      go_wp2
      go_meet
      case rel => exact ⟨rfl, rfl⟩
    case false =>
      cases lp <;> cases xa <;> cases xb
      all_goals
        go_wp2_with fail
        refine (hIp.out _).mono ?_
        rintro e W4 ⟨rfl, rfl⟩
        go_wp2_with fail
        refine (hAp.out _).mono ?_
        rintro e W4 ⟨rfl, rfl⟩
        go_wp2
        go_meet
        case rel => exact ⟨rfl, rfl⟩
  case rest =>
  obtain ⟨rfl, rfl⟩ := hcut
  rename World => W3
  clear hIp hAp hflp fxa fxb
  obtain ⟨out, hout⟩ : ∃ out, out = (ip || (lp && !xa && !xb)) := ⟨_, rfl⟩
  rw [← hout] at HPx ⊢
  clear hout
  cases out
  case true =>
    go_wp2
    go_ret
    exact ⟨rfl, HB3.out⟩
  case false =>
  obtain ⟨fp, ff, hx⟩ := HPx.out rfl
  have f1 : isNaN FloatKind.f64.format f = false := (fin_no ff).2
  have f2 := (fin_no ff).1
  have f3 : isNaN FloatKind.f64.format p = false := (fin_no fp).2
  have HIf := Lib.hid (mIsInf_c f BF.out)
  rw [f2] at HIf
  have HOp := Lib.hid (Of_c p BP.out fp)
  have HOf := Lib.hid (Of_c f BF.out ff)
  have HP1 := Lib.hid (Plus_c (ofX p) (ofX f))
  have HPr := Lib.hid (Product_c a b HA.out HB.out HFa.out HFb.out)
  rw [hx] at HP1
  have heq := equal_lim (prodX a b)
  clear hx fp ff f2 HPx
  go_wp2_with fail
  refine (HIf.out _).mono ?_
  rintro e W4 ⟨rfl, rfl⟩
  go_wp2_with fail
  refine upon_mul _ _ _ _ ?_
  intro r1 n1 h1
  have hr : r1 = p := by
    have h5 : cn .f64 r1 = p := by rw [h1.1, cn_fin HFa.out, cn_fin HFb.out, HPe.out]
    exact cn_only' h5 f3
  clear h1
  subst hr
  have HB4 := Lib.hid (below_drewN HB3.out n1)
  go_wp2_with fail
  refine (HOp.out _).mono ?_
  rintro e W4 ⟨rfl, hb⟩
  have HB5 := Lib.hid (HB4.out.trans (hb.mono HB4.out.size))
  clear hb HB4
  go_wp2_with fail
  refine (HOf.out _).mono ?_
  rintro e W5 ⟨rfl, hb⟩
  have HB6 := Lib.hid (HB5.out.trans (hb.mono HB5.out.size))
  clear hb HB5
  go_wp2_with fail
  refine (HP1.out _).mono ?_
  rintro e W6 ⟨rfl, hb⟩
  have HB7 := Lib.hid (HB6.out.trans (hb.mono HB6.out.size))
  clear hb HB6
  go_wp2_with fail
  refine (HPr.out _).mono ?_
  rintro e W7 ⟨rfl, hb⟩
  have HB8 := Lib.hid (HB7.out.trans (hb.mono HB7.out.size))
  clear hb HB7
  go_wp2
  go_ret
  exact ⟨rfl, HB8.out⟩
end Go.Proofs.Ytbajeonhiaaclaa
