/- Layer 31: the document's writer. -/
import Derived.Test.YtpfjidijecgjcaaAeR
import Derived.Deep.DeepCutAuto
namespace Go.Proofs.Ytpfjidijecgjcaa
open Go.RowKit Fl Ieee
set_option maxRecDepth 20000
attribute [local go_sem] run_store_float run_store_complex
theorem nums_take {l : List C} {k : Nat} {z : C} (h : l[k]? = some z) : nums (l.take (k + 1)) = nums (l.take k) ++ [.complex .f64 z.1 z.2] := by
  have hk := lt_of_some h
  have e : l[k] = z := by rw [List.getElem?_eq_getElem hk] at h; exact Option.some.inj h
  rw [List.take_succ_eq_append_getElem hk, e]
  simp [nums]
set_option maxHeartbeats 1600000 in
theorem rnumbers_c (om : Nat) (A1 A2 : Option Addr) (l m : List C) (c1 c2 : Nat) (w : World) (h1 : Reads w w.heap.size A1 (nums l)) (h2 : Reads w w.heap.size A2 (nums m)) (hl : l.length ≤ 100000) (hm : m.length ≤ 100000) :
    Calls Try.prog 53 #[.agg #[.float .f64 om, .slice A1 l.length c1, .slice A2 m.length c2]] w (RetOwn (l ++ m) w) := by
  obtain ⟨i0, hi0, hz0, hz1, hz2⟩ := info_parts infoNum
  obtain ⟨X, hX⟩ : ∃ X, X = w.alloc (.cells #[.float .f64 om, .slice A1 l.length c1, .slice A2 m.length c2] 39) := ⟨_, rfl⟩
  have hXs : X.heap.size = w.heap.size + 1 := by rw [hX]; simp
  have hwX : Below w.heap.size w X := by rw [hX]; exact below_new _ _
  obtain ⟨n, hN⟩ : ∃ n, n = l.length := ⟨_, rfl⟩
  obtain ⟨q, hQ⟩ : ∃ q, q = m.length := ⟨_, rfl⟩
  have HC := Lib.hid (fun V (hV : Below X.heap.size X V) => (show V.cell? ⟨w.heap.size, 1, none⟩ = some (.slice A1 n c1) ∧ V.cell? ⟨w.heap.size, 2, none⟩ = some (.slice A2 q c2) from by
    have hb : V.heap[w.heap.size]? = X.heap[w.heap.size]? := hV.block _ (by rw [hXs]; exact Nat.lt_succ_self _)
    have hr : V.heap[w.heap.size]? = some (.cells #[.float .f64 om, .slice A1 l.length c1, .slice A2 m.length c2] 39) := by rw [hb, hX, heap_alloc_new]
    rw [hN, hQ]
    exact ⟨by rw [cell_of_row _ _ 1 _ _ _ hr]; rfl, by rw [cell_of_row _ _ 2 _ _ _ hr]; rfl⟩))
  have H1 := Lib.hid (h1.below hwX)
  have H2 := Lib.hid (h2.below hwX)
  have HXs := Lib.hid (And.intro hXs hwX)
  have HNQ := Lib.hid (And.intro hN hQ)
  rw [← hN, ← hQ] at hX ⊢
  rw [← hN] at hl
  rw [← hQ] at hm
  clear h1 h2 hXs hwX hN hQ
  go_enter Try.func53, Try.ntmps53
  go_upto_region 1 with fail
  rw [← hX]
  clear hX
  go_wp2
  go_loopw [3, 4] (fun lv kv wr => ∃ k : Nat, k ≤ n ∧ kv = .int .i64 (k : Nat) ∧ Hid (wr.ownsRow X.heap.size 60 1 lv k (nums (l.take k))) ∧ Hid (Below X.heap.size X wr)) (fun _ kv _ => n - (intOf kv).toNat)
  case atStart => exact ⟨0, Nat.zero_le _, rfl, Lib.hid (World.ownsRow_nil _ _ _ _), Lib.hid (Below.refl _ _)⟩
  case round =>
    obtain ⟨k, hk, rfl, HO, HB⟩ := hrel
    rename World => wr
    obtain ⟨q1, q2⟩ := HC.out _ HB.out
    by_cases hkn : k < n
    · have hkn' : (k : Int) < n := by omega
      obtain ⟨z, hz⟩ := some_of_lt (l := l) (k := k) (by rw [← HNQ.out.1]; exact hkn)
      obtain ⟨ad, rfl, hab, hcz⟩ := (H1.out.below (HB.out.mono HXs.out.2.size)).at_ (k := k) (u := .complex .f64 z.1 z.2) (by simp [nums, hz])
      have HZ := Lib.hid hz
      have HSz := Lib.hid (show k + 1 ≤ maxLen ∧ (k + 1) * 16 ≤ 140737488355328 from by unfold maxLen; omega)
      clear hz hab hk
      go_wp2_with (at_builtin; refine wpList_append_stays _ rfl (.tmp 13) (.tmp 19) 37 rfl X.heap.size 60 i0 (.complex .f64 0 0) 16 Try.underlying37 hi0 hz0 hz1 hz2 rfl _ _ _ rfl (HO.out.alloc _) ⟨wr.heap.size, 0, none⟩ 1 1 [.complex .f64 z.1 z.2] rfl rfl (cell_one_new _ _ _) (by intro u hu; simp at hu; subst hu; rfl) HSz.out.1 HSz.out.2 (Nat.le_trans HB.out.size (below_new _ _).size) ?_; intro v' w2 hown1 hgrow1 hat1)
      have HB3 := Lib.hid ((HB.out.trans ((below_new wr (.cells #[.complex .f64 z.1 z.2] 60)).mono HB.out.size)).grown hgrow1 (Nat.le_trans HB.out.size (below_new _ _).size) (fun k hk => (HO.out.lt k hk).1))
      have HO3 := Lib.hid (show w2.ownsRow X.heap.size 60 1 v' (k + 1) (nums (l.take (k + 1))) from by
        rw [nums_take HZ.out]; exact hown1)
      clear hown1 hgrow1 hat1 q1 q2 hcz
      go_roundw
      case rel => exact ⟨k + 1, hkn, by go_num, HO3, HB3⟩
      case measure => simp [intOf]; omega
    · have e : k = n := by omega
      subst e
      have HO1 := Lib.hid (show wr.ownsRow X.heap.size 60 1 u3 k (nums l) from by
        have h := HO.out
        rw [List.take_of_length_le (by rw [← HNQ.out.1]; exact Nat.le_refl _)] at h
        exact h)
      have HB1 := HB
      clear hk HO HB
      go_wp2
      go_loopw [3, 5] (fun lv jv wj => ∃ j : Nat, j ≤ q ∧ jv = .int .i64 (j : Nat) ∧ Hid (wj.ownsRow X.heap.size 60 1 lv (k + j) (nums (l ++ m.take j))) ∧ Hid (Below X.heap.size X wj)) (fun _ jv _ => q - (intOf jv).toNat)
      case atStart => exact ⟨0, Nat.zero_le _, rfl, by simpa using HO1, HB1⟩
      case round =>
        obtain ⟨j, hj, rfl, HO, HB⟩ := hrel
        rename World => wj
        clear q1 q2
        obtain ⟨q1, q2⟩ := HC.out _ HB.out
        by_cases hjq : j < q
        · have hjq' : (j : Int) < q := by omega
          obtain ⟨z, hz⟩ := some_of_lt (l := m) (k := j) (by rw [← HNQ.out.2]; exact hjq)
          obtain ⟨ad, rfl, hab, hcz⟩ := (H2.out.below (HB.out.mono HXs.out.2.size)).at_ (k := j) (u := .complex .f64 z.1 z.2) (by simp [nums, hz])
          have HZ := Lib.hid hz
          have HSz := Lib.hid (show k + j + 1 ≤ maxLen ∧ (k + j + 1) * 16 ≤ 140737488355328 from by unfold maxLen; omega)
          clear hz hab hj
          go_wp2_with (at_builtin; refine wpList_append_stays _ rfl (.tmp 28) (.tmp 34) 37 rfl X.heap.size 60 i0 (.complex .f64 0 0) 16 Try.underlying37 hi0 hz0 hz1 hz2 rfl _ _ _ rfl (HO.out.alloc _) ⟨wj.heap.size, 0, none⟩ 1 1 [.complex .f64 z.1 z.2] rfl rfl (cell_one_new _ _ _) (by intro u hu; simp at hu; subst hu; rfl) HSz.out.1 HSz.out.2 (Nat.le_trans HB.out.size (below_new _ _).size) ?_; intro v' w2 hown1 hgrow1 hat1)
          have HB3 := Lib.hid ((HB.out.trans ((below_new wj (.cells #[.complex .f64 z.1 z.2] 60)).mono HB.out.size)).grown hgrow1 (Nat.le_trans HB.out.size (below_new _ _).size) (fun k hk => (HO.out.lt k hk).1))
          have HO3 := Lib.hid (show w2.ownsRow X.heap.size 60 1 v' (k + (j + 1)) (nums (l ++ m.take (j + 1))) from by
            have er : nums (l ++ m.take (j + 1)) = nums (l ++ m.take j) ++ [.complex .f64 z.1 z.2] := by
              have h := nums_take HZ.out
              unfold nums at h ⊢
              rw [List.map_append, h, List.map_append, List.append_assoc]
            rw [er]; exact hown1)
          clear hown1 hgrow1 hat1 q1 q2 hcz
          go_roundw
          case rel => exact ⟨j + 1, hjq, by go_num, HO3, HB3⟩
          case measure => simp [intOf]; omega
        · have e : j = q := by omega
          subst e
          have HO2 := Lib.hid (show wj.ownsRow X.heap.size 60 1 u3 (k + j) (nums (l ++ m)) from by
            have h := HO.out
            rw [List.take_of_length_le (by rw [← HNQ.out.2]; exact Nat.le_refl _)] at h
            exact h)
          clear hj
          go_wp2
          go_ret
          exact ⟨u3, rfl, by rw [List.length_append, ← HNQ.out.1, ← HNQ.out.2]; exact own_base HO2.out HXs.out.2.size, HXs.out.2.trans (HB.out.mono HXs.out.2.size)⟩
theorem short_c {a r : Nat} (ha : floatToFloatBits .f64 a .f32 = some r) (w : World) :
    Calls Try.prog 82 #[.float .f64 a] w fun e w' => e = .returned (.float .f32 r) ∧ w = w' := by
  have h1 := fun W => run_convert_float_float (P := Try.prog) W 36 90 .f64 .f32 a r (by kernel_rfl) Try.underlying90 ha
  clear ha
  go_enter Try.func82, Try.ntmps82
  go_wp2
  go_ret
  exact ⟨rfl, rfl⟩
theorem rToX_c {a b r s : Nat} (ha : floatToFloatBits .f64 a .f32 = some r) (hb : floatToFloatBits .f64 b .f32 = some s) (w : World) :
    Calls Try.prog 54 #[.complex .f64 a b] w fun e w' => e = .returned (.complex .f32 r s) ∧ w = w' := by
  have H1 := Lib.hid (short_c ha)
  have H2 := Lib.hid (short_c hb)
  clear ha hb
  go_enter Try.func54, Try.ntmps54
  go_wp2_with fail
  refine (H1.out _).mono ?_
  rintro e w' ⟨rfl, rfl⟩
  go_wp2_with fail
  refine (H2.out _).mono ?_
  rintro e w' ⟨rfl, rfl⟩
  go_wp2
  go_ret
  exact ⟨rfl, rfl⟩
theorem rBackF_c {a b : Nat} (ha : fin single a) (hb : fin single b) (w : World) :
    Calls Try.prog 62 #[.complex .f32 a b] w fun e w' => e = .returned (.complex .f64 (fwide a) (fwide b)) ∧ w = w' := by
  have h1 := fun W => run_convert_float_float (P := Try.prog) W 90 36 .f32 .f64 a _ (by kernel_rfl) Try.underlying36 (fwide_fin ha).1
  have h2 := fun W => run_convert_float_float (P := Try.prog) W 90 36 .f32 .f64 b _ (by kernel_rfl) Try.underlying36 (fwide_fin hb).1
  clear ha hb
  go_enter Try.func62, Try.ntmps62
  go_wp2
  go_ret
  exact ⟨rfl, rfl⟩
theorem rfin_c (x : Nat) (hx : x < 18446744073709551616) (hf : isFin double x = true) (w : World) :
    Calls Try.prog 93 #[.float .f64 x] w (RetB true w) := by
  go_enter Try.func93, Try.ntmps93
  go_wp2_with fail
  refine upon_sub _ _ _ _ ?_
  intro r1 n1 h1
  have f1 := fin_of_sub hx h1
  rw [hf] at f1
  clear hf
  have HF := Lib.hid f1
  clear f1
  go_wp2
  go_ret; exact closeB HF.out
theorem rLost_c {z : C} (hz : Nar1 z) (hf : pFinite z = true) (w : World) :
    Calls Try.prog 81 #[.complex .f64 z.1 z.2] w fun e w' => ∃ v d, e = .returned (.tuple #[v, .int .i64 0]) ∧ w' = w.drewN d := by
  obtain ⟨a, b, ha, hb, fa, fb⟩ := hz.2 hf
  obtain ⟨x, y⟩ := z
  have hff : isFin double x = true ∧ isFin double y = true := by
    have h := hf
    unfold pFinite at h
    rw [Bool.and_eq_true] at h
    exact h
  have HF1 := Lib.hid (rfin_c x hz.1.1 hff.1)
  have HF2 := Lib.hid (rfin_c y hz.1.2 hff.2)
  have HT := Lib.hid (fun V => rToX_c ha hb V)
  have HBk := Lib.hid (fun V => rBackF_c fa fb V)
  have HF3 := Lib.hid (rfin_c (fwide a) (fwide_fin fa).2.2.2.2 (decide_eq_true (fwide_fin fa).2.1))
  have HF4 := Lib.hid (rfin_c (fwide b) (fwide_fin fb).2.2.2.2 (decide_eq_true (fwide_fin fb).2.1))
  clear hz hf ha hb fa fb hff
  show Calls Try.prog 81 #[.complex .f64 x y] w _
  go_enter Try.func81, Try.ntmps81
  go_wp2_with fail
  refine (HF1.out _).mono ?_
  rintro e w' ⟨d1, rfl, rfl⟩
  go_wp2_with fail
  refine (HF2.out _).mono ?_
  rintro e w' ⟨d2, rfl, rfl⟩
  go_wp2_with fail
  refine (HT.out _).mono ?_
  rintro e w' ⟨rfl, rfl⟩
  go_wp2_with fail
  refine (HBk.out _).mono ?_
  rintro e w' ⟨rfl, rfl⟩
  go_wp2_with fail
  refine (HF3.out _).mono ?_
  rintro e w' ⟨d3, rfl, rfl⟩
  go_wp2_with fail
  refine (HF4.out _).mono ?_
  rintro e w' ⟨d4, rfl, rfl⟩
  go_wp2_with fail
  refine upon_sub _ _ _ _ ?_
  intro r11 n11 h11
  go_wp2_with fail
  refine upon_sub _ _ _ _ ?_
  intro r12 n12 h12
  clear h11 h12
  go_wp2
  go_ret2
  exact ⟨_, _, rfl, rfl⟩
def rwV (S : List SolM) : Int := if 4096 < S.length then 3 else wrongV S
theorem badS_fin {s : SolM} (h : badS s = false) : ∀ z ∈ s.vs ++ s.ys, pFinite z = true := by
  unfold badS at h
  rw [Bool.not_eq_false', Bool.and_eq_true, List.all_eq_true] at h
  exact h.2
theorem kind_big (x : Nat) : ((kind x : Int) > 2) ↔ isFin double x = false := by
  unfold isFin kind
  rw [inf_double]
  split <;> (try split) <;> (try split) <;> (try split) <;> simp <;> omega
set_option maxHeartbeats 4000000 in
theorem rwrong_c (S : List SolM) (v : Value) (w : World) (h : SolsAt w w.heap.size v S) (hn : S.length ≤ 1000000) (hom : ∀ s ∈ S, s.om < 18446744073709551616) (hz : ∀ s ∈ S, ∀ z ∈ s.vs ++ s.ys, Nar1 z) (hl : ∀ s ∈ S, s.vs.length ≤ 100000 ∧ s.ys.length ≤ 100000) :
    Calls Try.prog 51 #[v] w (RetErr (rwV S) w) := by
  have HS := Lib.hid h
  obtain ⟨A, c, rfl, -⟩ := h
  obtain ⟨n, hN⟩ : ∃ n, n = S.length := ⟨_, rfl⟩
  rw [← hN]
  have hn1 : n ≤ 1000000 := by omega
  rw [← hN] at HS
  have HN := Lib.hid hN
  have HZ := Lib.hid hz
  have HOm := Lib.hid hom
  have HLl := Lib.hid hl
  clear hN hz hom hl hn
  by_cases h40 : (n : Int) > 4096
  · have HR := Lib.hid (show rwV S = 3 from by unfold rwV; rw [if_pos (by have := HN.out; omega)])
    go_enter Try.func51, Try.ntmps51
    go_wp2
    go_ret
    exact ⟨by rw [HR.out]; rfl, Below.refl _ _⟩
  have HR := Lib.hid (show rwV S = wrongV S from by unfold rwV; rw [if_neg (by have := HN.out; omega)])
  go_enter Try.func51, Try.ntmps51
  go_wp2
  go_loopw [3] (fun iv wr => ∃ i : Nat, i ≤ n ∧ iv = .int .i64 (i : Nat) ∧ w = wr ∧ Hid (∀ j s, j < i → S[j]? = some s → longS s = false)) (fun iv _ => n - (intOf iv).toNat)
  case atStart => exact ⟨0, Nat.zero_le _, rfl, rfl, Lib.hid (fun j s hj => by omega)⟩
  case round =>
    obtain ⟨i, hi, rfl, rfl, HL⟩ := hrel
    by_cases hin : i < n
    · have hin' : (i : Int) < n := by omega
      obtain ⟨s, hs⟩ := some_of_lt (l := S) (k := i) (by rw [← HN.out]; exact hin)
      obtain ⟨g, x1, x2, hA, hlt, h0, h1, h2, h3⟩ := HS.out.at_ hs
      subst hA
      obtain ⟨A1, c1, A2, c2, rfl, rfl, -, -, -, -⟩ := h3
      have HSi := Lib.hid hs
      clear hs hi h0
      obtain ⟨p, hp⟩ : ∃ p, p = s.vs.length := ⟨_, rfl⟩
      obtain ⟨q, hq⟩ : ∃ q, q = s.ys.length := ⟨_, rfl⟩
      have HPq := Lib.hid (And.intro hp hq)
      rw [← hp] at h1
      rw [← hq] at h2
      clear hp hq
      by_cases h6 : 64 < (p : Int)
      · have HLi := Lib.hid (show longS s = true from by unfold longS; rw [decide_eq_true (show 64 < s.vs.length by have := HPq.out.1; omega)]; rfl)
        go_wp2
        go_ret
        exact ⟨by rw [HR.out, wrong3 (List.mem_of_getElem? HSi.out) HLi.out]; rfl, Below.refl _ _⟩
      · by_cases h7 : 64 < (q : Int)
        · have HLi := Lib.hid (show longS s = true from by unfold longS; rw [decide_eq_true (show 64 < s.ys.length by have := HPq.out.2; omega)]; simp)
          go_wp2
          go_ret
          exact ⟨by rw [HR.out, wrong3 (List.mem_of_getElem? HSi.out) HLi.out]; rfl, Below.refl _ _⟩
        · have HLi := Lib.hid (show longS s = false from by
            unfold longS
            rw [decide_eq_false (show ¬ 64 < s.vs.length by have := HPq.out.1; omega), decide_eq_false (show ¬ 64 < s.ys.length by have := HPq.out.2; omega)]; rfl)
          go_wp2
          go_roundw
          case rel => exact ⟨i + 1, hin, by go_num, trivial, Lib.hid (fun j t hj ht => by
            rcases Nat.lt_or_ge j i with h | h
            · exact HL.out j t h ht
            · have e : j = i := by omega
              subst e
              rw [HSi.out] at ht
              rw [← Option.some.inj ht]; exact HLi.out)⟩
          case measure => simp [intOf]; omega
    · have e : i = n := by omega
      subst e
      have HAl := Lib.hid (any_long HN.out HL.out)
      clear hi HL
      go_wp2
      go_loopw [4] (fun kv wk => ∃ k : Nat, k ≤ i ∧ kv = .int .i64 (k : Nat) ∧ Hid (Below w.heap.size w wk) ∧ Hid (∀ j s, j < k → S[j]? = some s → badS s = false)) (fun kv _ => i - (intOf kv).toNat)
      case atStart => exact ⟨0, Nat.zero_le _, rfl, Lib.hid (Below.refl _ _), Lib.hid (fun j s hj => by omega)⟩
      case round =>
        obtain ⟨k, hk, rfl, HB, HL⟩ := hrel
        rename World => wk
        by_cases hki : k < i
        · have hki' : (k : Int) < i := by omega
          obtain ⟨s, hs⟩ := some_of_lt (l := S) (k := k) (by rw [← HN.out]; exact hki)
          obtain ⟨g, x1, x2, hA, hlt, h0, h1, h2, h3⟩ := (HS.out.below HB.out).at_ hs
          subst hA
          obtain ⟨A1, c1, A2, c2, rfl, rfl, h4, h5, h6, h7⟩ := h3
          have HSk := Lib.hid (List.mem_of_getElem? hs)
          have HNm := Lib.hid (rnumbers_c s.om A1 A2 s.vs s.ys c1 c2 wk (h4.more HB.out.size) (h5.more HB.out.size) (HLl.out s HSk.out).1 (HLl.out s HSk.out).2)
          have HSi := Lib.hid hs
          have HKd := Lib.hid (RKind_c s.om (HOm.out s HSk.out))
          have HCe := Lib.hid (fun V (hV : Below wk.heap.size wk V) => (show V.cell? ⟨g, k * 3, none⟩ = some (.float .f64 s.om) from (hV.cell (p := ⟨g, k * 3, none⟩) (Nat.lt_of_lt_of_le hlt HB.out.size)).trans h0))
          clear h4 h5 h6 h7 hs hk
          go_wp2_with fail
          refine HNm.out.mono ?_
          rintro e W2 ⟨v, rfl, hown, hb2⟩
          obtain ⟨A3, c3, rfl, hr3, -, -⟩ := own_reads hown
          have HB2 := Lib.hid (HB.out.trans (hb2.mono HB.out.size))
          have HR3 := Lib.hid hr3
          have q0 := HCe.out W2 hb2
          obtain ⟨l, hll⟩ : ∃ l, l = s.vs ++ s.ys := ⟨_, rfl⟩
          have HLs := Lib.hid hll
          rw [← hll] at HR3 ⊢
          obtain ⟨m, hm⟩ : ∃ m, m = l.length := ⟨_, rfl⟩
          rw [← hm]
          have HM := Lib.hid hm
          have hm1 : m ≤ 200000 := by
            have := HLl.out s HSk.out
            rw [hm, hll, List.length_append]; omega
          clear hown hb2 hr3 hll hm h0 h1 h2 hlt HNm
          go_wp2_with fail
          refine (HKd.out _).mono ?_
          rintro e w' ⟨rfl, rfl⟩
          cases hf : isFin double s.om
          · have HF := Lib.hid hf
            have hk2 := (kind_big s.om).2 hf
            clear hf
            go_wp2
            go_ret
            exact ⟨by rw [HR.out, wrong5 HAl.out HSk.out (badS_om HF.out)]; rfl, HB2.out⟩
          · have HF := Lib.hid hf
            have hk2 : ¬ ((kind s.om : Int) > 2) := fun h => by rw [(kind_big s.om).1 h] at hf; cases hf
            clear hf
            go_wp2
            clear hk2 q0
            go_loopw [6] (fun jv wj => ∃ j : Nat, j ≤ m ∧ jv = .int .i64 (j : Nat) ∧ Hid (Below W2.heap.size W2 wj) ∧ Hid (∀ j' z, j' < j → l[j']? = some z → pFinite z = true)) (fun jv _ => m - (intOf jv).toNat)
            case atStart => exact ⟨0, Nat.zero_le _, rfl, Lib.hid (Below.refl _ _), Lib.hid (fun j s hj => by omega)⟩
            case round =>
              obtain ⟨j, hj, rfl, HBj, HLj⟩ := hrel
              rename World => wj
              by_cases hjm : j < m
              · have hjm' : (j : Int) < m := by omega
                obtain ⟨z, hzj⟩ := some_of_lt (l := l) (k := j) (by rw [← HM.out]; exact hjm)
                obtain ⟨ad, hA3, hab, hcz⟩ := (HR3.out.below HBj.out).at_ (k := j) (u := .complex .f64 z.1 z.2) (by simp [nums, hzj])
                subst hA3
                have hzm : z ∈ s.vs ++ s.ys := by rw [← HLs.out]; exact List.mem_of_getElem? hzj
                have HZj := Lib.hid (And.intro hzm (HZ.out s HSk.out z hzm))
                have HFi := Lib.hid (fun V => (show Calls Try.prog 80 #[.complex .f64 z.1 z.2] V (RetB (pFinite z) V) from by
                  have h := rFinite_c z.1 z.2 HZj.out.2.1.1 HZj.out.2.1.2 V
                  rw [show pFinite (cn .f64 z.1, cn .f64 z.2) = pFinite z from by unfold pFinite; exact congr (congrArg and (isFin_cn .f64 z.1)) (isFin_cn .f64 z.2)] at h
                  exact h))
                have HZi := Lib.hid hzj
                clear hj hzj hzm hab
                go_wp2_with fail
                refine (HFi.out _).mono ?_
                rintro e w' ⟨d1, rfl, rfl⟩
                have HBd := Lib.hid (below_drewN HBj.out d1)
                cases hf : pFinite z
                · have HF := Lib.hid hf
                  clear hf
                  go_wp2
                  go_ret
                  exact ⟨by rw [HR.out, wrong5 HAl.out HSk.out (badS_num HZj.out.1 HF.out)]; rfl, HB2.out.trans (HBd.out.mono HB2.out.size)⟩
                · have HF := Lib.hid hf
                  clear hf
                  go_wp2
                  go_roundw
                  case rel => exact ⟨j + 1, hjm, by go_num, HBd, Lib.hid (fun j' t hj ht => by
                    rcases Nat.lt_or_ge j' j with h | h
                    · exact HLj.out j' t h ht
                    · have e : j' = j := by omega
                      subst e
                      rw [HZi.out] at ht
                      rw [← Option.some.inj ht]; exact HF.out)⟩
                  case measure => simp [intOf]; omega
              · have e : j = m := by omega
                subst e
                have HBad := Lib.hid (badS_no HLs.out HM.out HF.out HLj.out)
                have HBk := Lib.hid (HB2.out.trans (HBj.out.mono HB2.out.size))
                clear hj
                go_wp2
                go_roundw
                case rel => exact ⟨k + 1, hki, by go_num, HBk, Lib.hid (fun j' t hj ht => by
                  rcases Nat.lt_or_ge j' k with h | h
                  · exact HL.out j' t h ht
                  · have e : j' = k := by omega
                    subst e
                    rw [HSi.out] at ht
                    rw [← Option.some.inj ht]; exact HBad.out)⟩
                case measure => simp [intOf]; omega
        · have e : k = i := by omega
          subst e
          have HOk := Lib.hid (wrong0 HAl.out HN.out HL.out)
          have HGd := Lib.hid HL.out
          clear hk HL
          go_wp2
          go_loopw [7] (fun tv wt => ∃ t : Nat, t ≤ k ∧ tv = .int .i64 (t : Nat) ∧ Hid (Below w.heap.size w wt)) (fun tv _ => k - (intOf tv).toNat)
          case atStart => exact ⟨0, Nat.zero_le _, rfl, HB⟩
          case round =>
            clear HB
            obtain ⟨t, ht, rfl, HB⟩ := hrel
            rename World => wt
            by_cases htk : t < k
            · have htk' : (t : Int) < k := by omega
              obtain ⟨s, hs⟩ := some_of_lt (l := S) (k := t) (by rw [← HN.out]; exact htk)
              obtain ⟨g, x1, x2, hA, hlt, h0, h1, h2, h3⟩ := (HS.out.below HB.out).at_ hs
              subst hA
              obtain ⟨A1, c1, A2, c2, rfl, rfl, h4, h5, h6, h7⟩ := h3
              have HSk := Lib.hid (List.mem_of_getElem? hs)
              have HBs := Lib.hid (badS_fin (HGd.out t s htk hs))
              have HNm := Lib.hid (rnumbers_c s.om A1 A2 s.vs s.ys c1 c2 wt (h4.more HB.out.size) (h5.more HB.out.size) (HLl.out s HSk.out).1 (HLl.out s HSk.out).2)
              clear h4 h5 h6 h7 hs ht hlt
              go_wp2_with fail
              refine HNm.out.mono ?_
              rintro e W2 ⟨v, rfl, hown, hb2⟩
              obtain ⟨A3, c3, rfl, hr3, -, -⟩ := own_reads hown
              have HB2 := Lib.hid (HB.out.trans (hb2.mono HB.out.size))
              have HR3 := Lib.hid hr3
              obtain ⟨l, hll⟩ : ∃ l, l = s.vs ++ s.ys := ⟨_, rfl⟩
              have HLs := Lib.hid hll
              rw [← hll] at HR3 ⊢
              obtain ⟨m, hm⟩ : ∃ m, m = l.length := ⟨_, rfl⟩
              rw [← hm]
              have HM := Lib.hid hm
              have hm1 : m ≤ 200000 := by
                have := HLl.out s HSk.out
                rw [hm, hll, List.length_append]; omega
              clear hown hb2 hr3 hll hm h0 h1 h2 HNm
              go_wp2
              go_loopw [9] (fun jv wj => ∃ j : Nat, j ≤ m ∧ jv = .int .i64 (j : Nat) ∧ Hid (Below W2.heap.size W2 wj)) (fun jv _ => m - (intOf jv).toNat)
              case atStart => exact ⟨0, Nat.zero_le _, rfl, Lib.hid (Below.refl _ _)⟩
              case round =>
                obtain ⟨j, hj, rfl, HBj⟩ := hrel
                rename World => wj
                by_cases hjm : j < m
                · have hjm' : (j : Int) < m := by omega
                  obtain ⟨z, hzj⟩ := some_of_lt (l := l) (k := j) (by rw [← HM.out]; exact hjm)
                  obtain ⟨ad, hA3, hab, hcz⟩ := (HR3.out.below HBj.out).at_ (k := j) (u := .complex .f64 z.1 z.2) (by simp [nums, hzj])
                  subst hA3
                  have hzm : z ∈ s.vs ++ s.ys := by rw [← HLs.out]; exact List.mem_of_getElem? hzj
                  have HLo := Lib.hid (rLost_c (HZ.out s HSk.out z hzm) (HBs.out z hzm))
                  clear hj hzj hzm hab
                  go_wp2_with fail
                  refine (HLo.out _).mono ?_
                  rintro e w' ⟨lv, d1, rfl, rfl⟩
                  have HBd := Lib.hid (below_drewN HBj.out d1)
                  go_wp2
                  go_roundw
                  case rel => exact ⟨j + 1, hjm, by go_num, HBd⟩
                  case measure => simp [intOf]; omega
                · have e : j = m := by omega
                  subst e
                  have HBk := Lib.hid (HB2.out.trans (HBj.out.mono HB2.out.size))
                  clear hj
                  go_wp2
                  go_roundw
                  case rel => exact ⟨t + 1, htk, by go_num, HBk⟩
                  case measure => simp [intOf]; omega
            · have e : t = k := by omega
              subst e
              clear ht
              go_wp2
              go_ret
              exact ⟨by rw [HR.out, HOk.out]; rfl, HB.out⟩
end Go.Proofs.Ytpfjidijecgjcaa
