/- Layer 31: what refuses solutions. -/
import Derived.Test.YtpfjidijecgjcaaAdD
import Derived.Deep.DeepCutAuto
namespace Go.Proofs.Ytpfjidijecgjcaa
open Go.RowKit Fl Ieee
set_option maxRecDepth 20000
attribute [local go_sem] run_store_float run_store_complex
/-- A solution: omega, volts, amperes. -/
structure SolM where
  om : Nat
  vs : List C
  ys : List C
/-- A solution's values. -/
def SolAt (w : World) (B : Nat) (s : SolM) (x1 x2 : Value) : Prop :=
  ∃ A1 c1 A2 c2, x1 = .slice A1 s.vs.length c1 ∧ x2 = .slice A2 s.ys.length c2 ∧ Reads w B A1 (nums s.vs) ∧ Reads w B A2 (nums s.ys) ∧ (A1 = none → c1 = 0) ∧ (A2 = none → c2 = 0)
/-- Solutions in memory. -/
def SolsAt (w : World) (B : Nat) (v : Value) (S : List SolM) : Prop :=
  ∃ A c, v = .slice A S.length c ∧ ∀ (i : Nat) (s : SolM), S[i]? = some s → ∃ g x1 x2, A = some ⟨g, 0, none⟩ ∧ g < B ∧ w.cell? ⟨g, i * 3, none⟩ = some (.float .f64 s.om) ∧ w.cell? ⟨g, i * 3 + 1, none⟩ = some x1 ∧ w.cell? ⟨g, i * 3 + 2, none⟩ = some x2 ∧ SolAt w B s x1 x2
theorem SolAt.below {w w' : World} {B : Nat} {s : SolM} {x1 x2 : Value} (h : SolAt w B s x1 x2) (hb : Below B w w') : SolAt w' B s x1 x2 := by
  obtain ⟨A1, c1, A2, c2, h1, h2, h3, h4, h5⟩ := h
  exact ⟨A1, c1, A2, c2, h1, h2, h3.below hb, h4.below hb, h5⟩
theorem SolsAt.below {w w' : World} {B : Nat} {v : Value} {S : List SolM} (h : SolsAt w B v S) (hb : Below B w w') : SolsAt w' B v S := by
  obtain ⟨A, c, hv, h⟩ := h
  refine ⟨A, c, hv, fun i s hs => ?_⟩
  obtain ⟨g, x1, x2, hA, hlt, h0, h1, h2, h3⟩ := h i s hs
  exact ⟨g, x1, x2, hA, hlt, (hb.cell (p := ⟨g, i * 3, none⟩) hlt).trans h0, (hb.cell (p := ⟨g, i * 3 + 1, none⟩) hlt).trans h1, (hb.cell (p := ⟨g, i * 3 + 2, none⟩) hlt).trans h2, h3.below hb⟩
theorem SolsAt.more {w : World} {B B' : Nat} {v : Value} {S : List SolM} (h : SolsAt w B v S) (hB : B ≤ B') : SolsAt w B' v S := by
  obtain ⟨A, c, hv, h⟩ := h
  refine ⟨A, c, hv, fun i s hs => ?_⟩
  obtain ⟨g, x1, x2, hA, hlt, h0, h1, h2, A1, c1, A2, c2, h3, h4, h5, h6, h7⟩ := h i s hs
  exact ⟨g, x1, x2, hA, Nat.lt_of_lt_of_le hlt hB, h0, h1, h2, A1, c1, A2, c2, h3, h4, h5.more hB, h6.more hB, h7⟩
theorem SolsAt.at_ {w : World} {B : Nat} {A : Option Addr} {n c : Nat} {S : List SolM} (h : SolsAt w B (.slice A n c) S) {i : Nat} {s : SolM} (hs : S[i]? = some s) :
    ∃ g x1 x2, A = some ⟨g, 0, none⟩ ∧ g < B ∧ w.cell? ⟨g, i * 3, none⟩ = some (.float .f64 s.om) ∧ w.cell? ⟨g, i * 3 + 1, none⟩ = some x1 ∧ w.cell? ⟨g, i * 3 + 2, none⟩ = some x2 ∧ SolAt w B s x1 x2 := by
  obtain ⟨A', c', he, hall⟩ := h
  injection he with e1 e2 e3
  subst e1
  exact hall i s hs
def longS (s : SolM) : Bool := decide (64 < s.vs.length) || decide (64 < s.ys.length)
def badS (s : SolM) : Bool := !(isFin double s.om && (s.vs ++ s.ys).all pFinite)
def wrongV (S : List SolM) : Int := if S.any longS then 3 else if S.any badS then 5 else 0
def RetErr (x : Int) (w : World) (e : Ending) (w' : World) : Prop := e = .returned (.int .i64 x) ∧ Below w.heap.size w w'
/-- What is narrowed to what is finite. -/
def Nar1 (z : C) : Prop := ltC z ∧ (pFinite z = true → ∃ a b, floatToFloatBits .f64 z.1 .f32 = some a ∧ floatToFloatBits .f64 z.2 .f32 = some b ∧ fin single a ∧ fin single b)
theorem ToX_c {a b r s : Nat} (ha : floatToFloatBits .f64 a .f32 = some r) (hb : floatToFloatBits .f64 b .f32 = some s) (w : World) :
    Calls Try.prog 50 #[.complex .f64 a b] w fun e w' => e = .returned (.complex .f32 r s) ∧ w = w' := by
  have h1 := fun W => run_convert_float_float (P := Try.prog) W 36 90 .f64 .f32 a r (by kernel_rfl) Try.underlying90 ha
  have h2 := fun W => run_convert_float_float (P := Try.prog) W 36 90 .f64 .f32 b s (by kernel_rfl) Try.underlying90 hb
  clear ha hb
  go_enter Try.func50, Try.ntmps50
  go_wp2
  go_ret
  exact ⟨rfl, rfl⟩
theorem BackF_c {a b : Nat} (ha : fin single a) (hb : fin single b) (w : World) :
    Calls Try.prog 57 #[.complex .f32 a b] w fun e w' => e = .returned (.complex .f64 (fwide a) (fwide b)) ∧ w = w' := by
  have h1 := fun W => run_convert_float_float (P := Try.prog) W 90 36 .f32 .f64 a _ (by kernel_rfl) Try.underlying36 (fwide_fin ha).1
  have h2 := fun W => run_convert_float_float (P := Try.prog) W 90 36 .f32 .f64 b _ (by kernel_rfl) Try.underlying36 (fwide_fin hb).1
  clear ha hb
  go_enter Try.func57, Try.ntmps57
  go_wp2
  go_ret
  exact ⟨rfl, rfl⟩
theorem finite_c (x : Nat) (hx : x < 18446744073709551616) (w : World) : Calls Try.prog 73 #[.float .f64 x] w fun e w' => e = .returned (.bool (isFin double x)) ∧ w = w' := by
  have hk : Hid (decide ((kind x : Int) < 3) = isFin double x) := by
    show decide ((kind x : Int) < 3) = isFin double x
    unfold isFin kind
    rw [inf_double]
    split <;> (try split) <;> (try split) <;> (try split) <;> simp <;> omega
  go_enter Try.func73, Try.ntmps73
  go_wp2_with fail
  refine (Kind_c x hx w).mono ?_
  rintro e w' ⟨rfl, rfl⟩
  go_wp2
  go_ret
  exact ⟨by rw [← hk.out]; rfl, rfl⟩
theorem wrong3 {S : List SolM} {s : SolM} (h : s ∈ S) (hl : longS s = true) : wrongV S = 3 := by
  unfold wrongV
  rw [if_pos (List.any_eq_true.2 ⟨s, h, hl⟩)]
theorem any_long {S : List SolM} {n : Nat} (hN : n = S.length) (h : ∀ j s, j < n → S[j]? = some s → longS s = false) : S.any longS = false := by
  rw [List.any_eq_false]
  intro s hs
  obtain ⟨j, hj⟩ := List.mem_iff_getElem?.1 hs
  rw [h j s (by rw [hN]; exact lt_of_some hj) hj]
  decide
theorem wrong5 {S : List SolM} {s : SolM} (h0 : S.any longS = false) (h : s ∈ S) (hl : badS s = true) : wrongV S = 5 := by
  unfold wrongV
  rw [h0, if_neg (by decide), if_pos (List.any_eq_true.2 ⟨s, h, hl⟩)]
theorem wrong0 {S : List SolM} {n : Nat} (h0 : S.any longS = false) (hN : n = S.length) (h : ∀ j s, j < n → S[j]? = some s → badS s = false) : wrongV S = 0 := by
  unfold wrongV
  have h1 : S.any badS = false := by
    rw [List.any_eq_false]
    intro s hs
    obtain ⟨j, hj⟩ := List.mem_iff_getElem?.1 hs
    rw [h j s (by rw [hN]; exact lt_of_some hj) hj]
    decide
  rw [h0, h1]; rfl
theorem badS_om {s : SolM} (h : isFin double s.om = false) : badS s = true := by unfold badS; rw [h]; rfl
theorem badS_num {s : SolM} {z : C} (h : z ∈ s.vs ++ s.ys) (hf : pFinite z = false) : badS s = true := by
  unfold badS
  have : (s.vs ++ s.ys).all pFinite = false := by
    rw [List.all_eq_false]
    exact ⟨z, h, by rw [hf]; decide⟩
  rw [this]; simp
theorem badS_no {s : SolM} {n : Nat} {l : List C} (hl : l = s.vs ++ s.ys) (hn : n = l.length) (h : isFin double s.om = true) (hf : ∀ j z, j < n → l[j]? = some z → pFinite z = true) : badS s = false := by
  unfold badS
  have : (s.vs ++ s.ys).all pFinite = true := by
    rw [List.all_eq_true]
    intro z hz
    rw [← hl] at hz
    obtain ⟨j, hj⟩ := List.mem_iff_getElem?.1 hz
    exact hf j z (by rw [hn]; exact lt_of_some hj) hj
  rw [h, this]; rfl
set_option maxHeartbeats 1600000 in
theorem wrong_c (S : List SolM) (v : Value) (w : World) (h : SolsAt w w.heap.size v S) (hn : S.length ≤ 1000000) (hom : ∀ s ∈ S, s.om < 18446744073709551616) (hz : ∀ s ∈ S, ∀ z ∈ s.vs ++ s.ys, Nar1 z) (hl : ∀ s ∈ S, s.vs.length ≤ 100000 ∧ s.ys.length ≤ 100000) :
    Calls Try.prog 40 #[v] w (RetErr (wrongV S) w) := by
  have HS := Lib.hid h
  obtain ⟨A, c, rfl, -⟩ := h
  obtain ⟨n, hN⟩ : ∃ n, n = S.length := ⟨_, rfl⟩
  rw [← hN]
  have hn1 : n ≤ 1000000 := by omega
  rw [← hN] at HS
  have HN := Lib.hid hN
  have HZ := Lib.hid hz
  have HOm := Lib.hid hom
  have HLl := Lib.hid hl
  clear hN hz hom hl hn
  go_enter Try.func40, Try.ntmps40
  go_wp2
  go_loopw [12] (fun iv wr => ∃ i : Nat, i ≤ n ∧ iv = .int .i64 (i : Nat) ∧ Hid (Below w.heap.size w wr) ∧ Hid (∀ j s, j < i → S[j]? = some s → longS s = false)) (fun iv _ => n - (intOf iv).toNat)
  case atStart => exact ⟨0, Nat.zero_le _, rfl, Lib.hid (Below.refl _ _), Lib.hid (fun j s hj => by omega)⟩
  case round =>
    obtain ⟨i, hi, rfl, HB, HL⟩ := hrel
    rename World => wr
    by_cases hin : i < n
    · have hin' : (i : Int) < n := by omega
      obtain ⟨s, hs⟩ := some_of_lt (l := S) (k := i) (by rw [← HN.out]; exact hin)
      obtain ⟨g, x1, x2, hA, hlt, h0, h1, h2, h3⟩ := (HS.out.below HB.out).at_ hs
      subst hA
      obtain ⟨A1, c1, A2, c2, rfl, rfl, -, -, -, -⟩ := h3
      have HSi := Lib.hid hs
      have HBn := Lib.hid (HB.out.trans ((below_new wr (.cells #[.float .f64 s.om, .slice A1 s.vs.length c1, .slice A2 s.ys.length c2] 39)).mono HB.out.size))
      clear hs hi
      obtain ⟨p, hp⟩ : ∃ p, p = s.vs.length := ⟨_, rfl⟩
      obtain ⟨q, hq⟩ : ∃ q, q = s.ys.length := ⟨_, rfl⟩
      have HPq := Lib.hid (And.intro hp hq)
      rw [← hp] at h1
      rw [← hq] at h2
      rw [← hp, ← hq] at HBn
      clear hp hq
      by_cases h6 : 64 < (p : Int)
      · have HLi := Lib.hid (show longS s = true from by unfold longS; rw [decide_eq_true (show 64 < s.vs.length by have := HPq.out.1; omega)]; rfl)
        go_wp2
        go_ret
        exact ⟨by rw [wrong3 (List.mem_of_getElem? HSi.out) HLi.out]; rfl, HBn.out⟩
      · by_cases h7 : 64 < (q : Int)
        · have HLi := Lib.hid (show longS s = true from by unfold longS; rw [decide_eq_true (show 64 < s.ys.length by have := HPq.out.2; omega)]; simp)
          go_wp2
          go_ret
          exact ⟨by rw [wrong3 (List.mem_of_getElem? HSi.out) HLi.out]; rfl, HBn.out⟩
        · have HLi := Lib.hid (show longS s = false from by
            unfold longS
            rw [decide_eq_false (show ¬ 64 < s.vs.length by have := HPq.out.1; omega), decide_eq_false (show ¬ 64 < s.ys.length by have := HPq.out.2; omega)]; rfl)
          go_wp2
          go_roundw
          case rel => exact ⟨i + 1, hin, by go_num, HBn, Lib.hid (fun j t hj ht => by
            rcases Nat.lt_or_ge j i with h | h
            · exact HL.out j t h ht
            · have e : j = i := by omega
              subst e
              rw [HSi.out] at ht
              rw [← Option.some.inj ht]; exact HLi.out)⟩
          case measure => simp [intOf]; omega
    · have e : i = n := by omega
      subst e
      have HAl := Lib.hid (any_long HN.out HL.out)
      have HBl := HB
      clear hi HL HB
      go_wp2
      go_loopw [5, 29] (fun ov kv wk => ∃ k : Nat, k ≤ i ∧ ov = .int .i64 0 ∧ kv = .int .i64 (k : Nat) ∧ Hid (Below w.heap.size w wk) ∧ Hid (∀ j s, j < k → S[j]? = some s → badS s = false)) (fun _ kv _ => i - (intOf kv).toNat)
      case atStart => exact ⟨0, Nat.zero_le _, rfl, rfl, HBl, Lib.hid (fun j s hj => by omega)⟩
      case round =>
        obtain ⟨k, hk, rfl, rfl, HB, HL⟩ := hrel
        rename World => wk
        by_cases hki : k < i
        · have hki' : (k : Int) < i := by omega
          obtain ⟨s, hs⟩ := some_of_lt (l := S) (k := k) (by rw [← HN.out]; exact hki)
          obtain ⟨g, x1, x2, hA, hlt, h0, h1, h2, h3⟩ := (HS.out.below HB.out).at_ hs
          subst hA
          obtain ⟨A1, c1, A2, c2, rfl, rfl, h4, h5, h6, h7⟩ := h3
          have HSk := Lib.hid (List.mem_of_getElem? hs)
          have homs := HOm.out s HSk.out
          obtain ⟨W1, hW1⟩ : ∃ W1, W1 = wk.alloc (.cells #[.float .f64 s.om, .slice A1 s.vs.length c1, .slice A2 s.ys.length c2] 39) := ⟨_, rfl⟩
          have hbw : Below wk.heap.size wk W1 := by rw [hW1]; exact below_new _ _
          have HB1 := Lib.hid (HB.out.trans (hbw.mono HB.out.size))
          have HR1 := Lib.hid ((h4.below (hbw.mono HB.out.size)).more HB1.out.size)
          have HR2 := Lib.hid ((h5.below (hbw.mono HB.out.size)).more HB1.out.size)
          have HNm := Lib.hid (fun V (hV : Below W1.heap.size W1 V) => numbers_c s.om A1 A2 s.vs s.ys c1 c2 V (((HR1.out.below hV)).more hV.size) (((HR2.out.below hV)).more hV.size) h6 h7 (HLl.out s HSk.out).1 (HLl.out s HSk.out).2)
          have HSi := Lib.hid hs
          have HFo := Lib.hid (finite_c s.om homs)
          clear h4 h5 h6 h7 hs hk hbw homs
          go_wp2_with fail
          refine (HFo.out _).mono ?_
          rintro e w' ⟨rfl, rfl⟩
          cases hf : isFin double s.om
          · have HF := Lib.hid hf
            clear hf
            go_wp2
            go_ret
            exact ⟨by rw [wrong5 HAl.out HSk.out (badS_om HF.out)]; rfl, by rw [← hW1]; exact HB1.out⟩
          · have HF := Lib.hid hf
            clear hf
            go_wp2_with fail
            rw [← hW1]
            clear hW1
            refine (HNm.out W1 (Below.refl _ _)).mono ?_
            rintro e W2 ⟨v, rfl, hown, hb2⟩
            obtain ⟨A3, c3, rfl, hr3, -, -⟩ := own_reads hown
            have HB2 := Lib.hid (HB1.out.trans (hb2.mono HB1.out.size))
            have HR3 := Lib.hid hr3
            obtain ⟨l, hll⟩ : ∃ l, l = s.vs ++ s.ys := ⟨_, rfl⟩
            have HLs := Lib.hid hll
            rw [← hll] at HR3 ⊢
            obtain ⟨m, hm⟩ : ∃ m, m = l.length := ⟨_, rfl⟩
            rw [← hm]
            have HM := Lib.hid hm
            have hm1 : m ≤ 200000 := by
              have := HLl.out s HSk.out
              rw [hm, hll, List.length_append]; omega
            clear hown hb2 hr3 hll hm h0 h1 h2 hlt HNm HFo HR1 HR2
            go_wp2
            go_loopw [5, 40] (fun ov jv wj => ∃ j : Nat, j ≤ m ∧ ov = .int .i64 0 ∧ jv = .int .i64 (j : Nat) ∧ Hid (Below W2.heap.size W2 wj) ∧ Hid (∀ j' z, j' < j → l[j']? = some z → pFinite z = true)) (fun _ jv _ => m - (intOf jv).toNat)
            case atStart => exact ⟨0, Nat.zero_le _, rfl, rfl, Lib.hid (Below.refl _ _), Lib.hid (fun j s hj => by omega)⟩
            case round =>
              obtain ⟨j, hj, rfl, rfl, HBj, HLj⟩ := hrel
              rename World => wj
              by_cases hjm : j < m
              · have hjm' : (j : Int) < m := by omega
                obtain ⟨z, hzj⟩ := some_of_lt (l := l) (k := j) (by rw [← HM.out]; exact hjm)
                obtain ⟨ad, hA3, hab, hcz⟩ := (HR3.out.below HBj.out).at_ (k := j) (u := .complex .f64 z.1 z.2) (by simp [nums, hzj])
                subst hA3
                have hzm : z ∈ s.vs ++ s.ys := by rw [← HLs.out]; exact List.mem_of_getElem? hzj
                have HZj := Lib.hid (And.intro hzm (HZ.out s HSk.out z hzm))
                have HFi := Lib.hid (fun V => (show Calls Try.prog 74 #[.complex .f64 z.1 z.2] V (RetB (pFinite z) V) from by
                  have h := Finite_c z.1 z.2 HZj.out.2.1.1 HZj.out.2.1.2 V
                  rw [show pFinite (cn .f64 z.1, cn .f64 z.2) = pFinite z from by unfold pFinite; exact congr (congrArg and (isFin_cn .f64 z.1)) (isFin_cn .f64 z.2)] at h
                  exact h))
                have HZi := Lib.hid hzj
                clear hj hzj hzm hab
                go_wp2_with fail
                refine (HFi.out _).mono ?_
                rintro e w' ⟨d1, rfl, rfl⟩
                have HBd := Lib.hid (below_drewN HBj.out d1)
                cases hf : pFinite z
                · have HF := Lib.hid hf
                  clear hf
                  go_wp2
                  go_ret
                  exact ⟨by rw [wrong5 HAl.out HSk.out (badS_num HZj.out.1 HF.out)]; rfl, HB2.out.trans (HBd.out.mono HB2.out.size)⟩
                · have HF := Lib.hid hf
                  obtain ⟨a, b, ha, hb, fa, fb⟩ := HZj.out.2.2 hf
                  have HTo := Lib.hid (fun V => ToX_c ha hb V)
                  have HBa := Lib.hid (fun V => BackF_c fa fb V)
                  have HFb := Lib.hid (fun V => (show Calls Try.prog 74 #[.complex .f64 (fwide a) (fwide b)] V (RetB true V) from by
                    have h := Finite_c (fwide a) (fwide b) (fwide_fin fa).2.2.2.2 (fwide_fin fb).2.2.2.2 V
                    rw [show pFinite (cn .f64 (fwide a), cn .f64 (fwide b)) = true from by
                      show (isFin double (cn .f64 (fwide a)) && isFin double (cn .f64 (fwide b))) = true
                      rw [show isFin double (cn .f64 (fwide a)) = true from (isFin_cn .f64 _).trans (decide_eq_true (fwide_fin fa).2.1), show isFin double (cn .f64 (fwide b)) = true from (isFin_cn .f64 _).trans (decide_eq_true (fwide_fin fb).2.1)]
                      rfl] at h
                    exact h))
                  clear hf ha hb fa fb
                  go_wp2_with fail
                  refine (HTo.out _).mono ?_
                  rintro e w' ⟨rfl, rfl⟩
                  go_wp2_with fail
                  refine (HBa.out _).mono ?_
                  rintro e w' ⟨rfl, rfl⟩
                  go_wp2_with fail
                  refine (HFb.out _).mono ?_
                  rintro e w' ⟨d2, rfl, rfl⟩
                  have HBe := Lib.hid (below_drewN HBj.out (d1 + d2))
                  go_wp2
                  go_roundw
                  case rel => exact ⟨j + 1, hjm, rfl, by go_num, HBe, Lib.hid (fun j' t hj ht => by
                    rcases Nat.lt_or_ge j' j with h | h
                    · exact HLj.out j' t h ht
                    · have e : j' = j := by omega
                      subst e
                      rw [HZi.out] at ht
                      rw [← Option.some.inj ht]; exact HF.out)⟩
                  case measure => simp [intOf]; omega
              · have e : j = m := by omega
                subst e
                have HBo := Lib.hid (badS_no HLs.out HM.out HF.out HLj.out)
                have HB3 := Lib.hid (HB2.out.trans (HBj.out.mono HB2.out.size))
                clear hj HLj HBj
                go_wp2
                go_roundw
                case rel => exact ⟨k + 1, hki, rfl, by go_num, HB3, Lib.hid (fun j' t hj ht => by
                  rcases Nat.lt_or_ge j' k with h | h
                  · exact HL.out j' t h ht
                  · have e : j' = k := by omega
                    subst e
                    rw [HSi.out] at ht
                    rw [← Option.some.inj ht]; exact HBo.out)⟩
                case measure => simp [intOf]; omega
        · have e : k = i := by omega
          subst e
          have HW0 := Lib.hid (wrong0 HAl.out HN.out HL.out)
          clear hk HL
          go_wp2
          go_ret
          exact ⟨by rw [HW0.out]; rfl, HB.out⟩
end Go.Proofs.Ytpfjidijecgjcaa
