/- Layer 12, InverseScaled: what is told of a matrix and of 2^i times it (plain law). -/
import Derived.Test.YtajdfbjjgjpicaaScQ
import Derived.Test.YtajdfbjjgjpicaaIV2
import Derived.Test.YtajdfbjjgjpicaaOFF
namespace Fl
open Ieee Go
theorem flt_sval {x y : Nat} (hx : fin double x) (hy : fin double y) : flt .f64 x y = decide (sval double x < sval double y) := by
  unfold flt
  rw [show FloatKind.f64.format = double from rfl, order_fin hx hy]
  unfold compare instOrdInt
  simp only [compareOfLessAndEq]
  by_cases h : sval double x < sval double y
  · simp [h]
  · by_cases h2 : sval double x = sval double y
    · simp [h2]
    · simp [h, h2]
namespace Pr
variable {i a b c d x y u v : Nat}
theorem flt (h : Pr i a b x y) (h2 : Pr i c d u v) : Fl.flt .f64 y v = Fl.flt .f64 x u := by
  rw [flt_sval h.2.2.1.2.1 h2.2.2.1.2.1, flt_sval h.2.2.1.1 h2.2.2.1.1, decide_eq_decide, h.2.2.1.2.2, h2.2.2.1.2.2]
  have hp : (0 : Int) < ((2 ^ i : Nat) : Int) := by have := Nat.two_pow_pos i; omega
  exact Int.mul_lt_mul_right hp
theorem nan (h : Pr i a b x y) : isNaN double x = false ∧ isNaN double y = false := by
  have h1 := h.2.2.1.1
  have h2 := h.2.2.1.2.1
  unfold fin at h1 h2; unfold isNaN
  simp; omega
theorem nought (i a b : Nat) : Pr i a b 0 0 := by
  have z : sval double 0 = 0 := zero_rung.2 (by decide)
  have f : fin double 0 := fin_of_rung0 (by decide)
  exact ⟨by decide, by decide, ⟨f, f, by rw [z]; simp⟩, f, .inl z, by rw [z]; simp⟩
/-- The sizes. -/
theorem size (h : Pr i a b x y) : Pr i a b (rung double x) (rung double y) ∧ 0 ≤ sval double (rung double x) := by
  obtain ⟨-, -, s, bd⟩ := h
  have hx := s.1
  have hy := s.2.1
  have e1 : sval double (rung double x) = ((sval double x).natAbs : Int) := by
    rw [sval_pos (by unfold fin at hx; omega), abs_sval]
  have e2 : sval double (rung double y) = ((sval double y).natAbs : Int) := by
    rw [sval_pos (by unfold fin at hy; omega), abs_sval]
  refine ⟨⟨rung_lt64' _, rung_lt64' _, ⟨fin_rung hx, fin_rung hy, ?_⟩, fin_rung hx, ?_, ?_⟩, by rw [e1]; omega⟩
  · rw [e1, e2, s.abs]; simp
  · rw [e1]; rcases bd.2.1 with h | h
    · left; omega
    · right; simpa using h
  · rw [e1]; simpa using bd.2.2
/-- A sum of two that are not below nought. -/
theorem addN {h' : Nat} (h : Pr i a b x y) (h2 : Pr i a d u v) (p1 : 0 ≤ sval double x) (p2 : 0 ≤ sval double u) (ha : 106 ≤ a) (hb : b + 1 ≤ h') (hd : d + 1 ≤ h') (hh : h' + i ≤ 2097) (haa : a ≤ 2097) :
    Pr i a h' (fadd x u) (fadd y v) ∧ 0 ≤ sval double (fadd x u) := by
  have s := h.2.2.1.add h2.2.2.1 h.2.2.2 h2.2.2.2 (l := a - 52) (k := h' - 1) (by omega) (by omega) (by omega) (by omega) (by omega) (by omega) (by omega)
  have bd := h.2.2.2.add h2.2.2.2 (l := a - 52) (h := h') (by omega) (by omega) hb hd (by omega) (by omega)
  obtain ⟨r, sg, h1, h3, hs⟩ := add_sval h.2.2.1.1 h2.2.2.1.1
  have hr := fin_of_eq h1 bd.1
  have e : min r double.infRung = r := by omega
  have hpos : 0 ≤ sval double (fadd x u) := by
    rw [h1, e, sval_word sg (Nat.le_of_lt hr)]
    by_cases h0 : sval double x + sval double u = 0
    · rw [h0] at h3
      have : r = 0 := rne_zero Nat.one_pos h3
      subst this; rw [val_zero]; cases sg <;> simp
    · have : sg = false := by rw [hs h0]; exact decide_eq_false (by omega)
      subst this; simp
  refine ⟨⟨fadd_lt _ _, fadd_lt _ _, s, bd.1, ?_, bd.2.2⟩, hpos⟩
  by_cases h0 : sval double x = 0 ∧ sval double u = 0
  · left
    rw [h1, e, sval_word sg (Nat.le_of_lt hr)]
    rw [h0.1, h0.2] at h3
    have : r = 0 := rne_zero Nat.one_pos h3
    subst this; rw [val_zero]; cases sg <;> simp
  · right
    rw [h1, natAbs_word hr]
    refine rne_lo Nat.one_pos h3 haa ?_
    rcases h.2.2.2.2.1 with g | g
    · rcases h2.2.2.2.2.1 with g' | g'
      · exact absurd ⟨g, g'⟩ h0
      · omega
    · omega
end Pr
end Fl
namespace Go.Proofs.Ytajdfbjjgjpicaa
open Go.RowKit Fl Ieee
set_option maxRecDepth 20000
theorem ent_pair {n i a b : Nat} {l l' : List C} (h : ∀ r j, r < n → j < n → Rp i a b (matE l n r j) (matE l' n r j)) {r j : Nat} (hr : r < n) (hj : j < n) :
    Pr i a b (pSize1 (ent l n r j)) (pSize1 (ent l' n r j)) ∧ 0 ≤ sval double (pSize1 (ent l n r j)) := by
  have hp := h r j hr hj
  have e1 : ent l n r j = matE l n r j := fin_cn hp.finx
  have e2 : ent l' n r j = matE l' n r j := fin_cn hp.finy
  rw [e1, e2, hp.size.1, hp.size.2]
  exact hp.re.size
theorem colSum_pair {n i a b : Nat} {l l' : List C} (h : ∀ r j, r < n → j < n → Rp i a b (matE l n r j) (matE l' n r j)) (hn : n ≤ 3) (ha : 106 ≤ a) (haa : a ≤ 2097) (hh : b + 3 + i ≤ 2097) {j : Nat} (hj : j < n) :
    ∀ m, m ≤ n → Pr i a (b + m) (colSum l n j m) (colSum l' n j m) ∧ 0 ≤ sval double (colSum l n j m)
  | 0, _ => ⟨Pr.nought _ _ _, by show 0 ≤ sval double 0; rw [zero_rung.2 (by decide)]; exact Int.le_refl _⟩
  | m + 1, hm => by
    obtain ⟨h1, h2⟩ := colSum_pair h hn ha haa hh hj m (by omega)
    obtain ⟨h3, h4⟩ := ent_pair h (r := m) (by omega) hj
    exact h1.addN h3 h2 h4 ha (by omega) (by omega) (by omega) haa
theorem great_pair {i a b : Nat} {xs ys : List Nat} (h : ∀ (k x : Nat), xs[k]? = some x → ∃ y : Nat, ys[k]? = some y ∧ Pr i a b x y) (hl : xs.length = ys.length) : ∀ k, (great xs k).1 = (great ys k).1 ∧ Pr i a b (great xs k).2 (great ys k).2
  | 0 => ⟨rfl, Pr.nought _ _ _⟩
  | k + 1 => by
    obtain ⟨h1, h2⟩ := great_pair h hl k
    unfold great
    cases hx : xs[k]? with
    | none =>
      have hy : ys[k]? = none := by
        rw [List.getElem?_eq_none_iff] at hx ⊢; omega
      rw [hy]; exact ⟨h1, h2⟩
    | some x =>
      obtain ⟨y, hy, hp⟩ := h k x hx
      rw [hy]
      simp only
      have e1 : (decide ((great xs k).1 < 0) || flt .f64 (great xs k).2 x) = (decide ((great ys k).1 < 0) || flt .f64 (great ys k).2 y) := by rw [h1, h2.flt hp]
      rw [hp.nan.1, hp.nan.2, e1]
      cases (decide ((great ys k).1 < 0) || flt .f64 (great ys k).2 y)
      · exact ⟨h1, h2⟩
      · exact ⟨rfl, hp⟩
theorem norm1_pair {n i a b : Nat} {l l' : List C} (h : ∀ r j, r < n → j < n → Rp i a b (matE l n r j) (matE l' n r j)) (hn : n ≤ 3) (ha : 106 ≤ a) (haa : a ≤ 2097) (hh : b + 3 + i ≤ 2097) :
    Pr i a (b + 3) (norm1 l n n) (norm1 l' n n) := by
  unfold norm1
  refine (great_pair (fun k x hx => ?_) (by simp [colSums]) n).2
  unfold colSums at hx ⊢
  have hk : k < n := by
    rcases Nat.lt_or_ge k n with h | h
    · exact h
    · rw [List.getElem?_eq_none (by simpa using h)] at hx; cases hx
  rw [List.getElem?_map, List.getElem?_range hk] at hx
  refine ⟨colSum l' n k n, by rw [List.getElem?_map, List.getElem?_range hk]; rfl, ?_⟩
  have ex : colSum l n k n = x := Option.some.inj hx
  rw [← ex]
  exact (colSum_pair h hn ha haa hh hk n (Nat.le_refl _)).1.mono (Nat.le_refl _) (by omega)
/-- A matrix of at most three rows, and 2^i times it. -/
structure ScL (n i B : Nat) (l l' : List C) : Prop where
  n3 : n ≤ 3
  len : l.length = n * n
  len' : l'.length = n * n
  lt : ltCs l
  lt' : ltCs l'
  ent : ∀ r j, r < n → j < n → Rp i B (B + 20) (matE l n r j) (matE l' n r j)
  B1 : 1010 ≤ B
  B2 : B ≤ 1074
  B3 : B + i ≤ 1138
  B4 : 1074 ≤ B + i
namespace ScL
variable {n i B : Nat} {l l' : List C}
theorem fins {l : List C} (hl : l.length = n * n) (h : ∀ r j, r < n → j < n → pFinite (matE l n r j) = true) : ∀ z ∈ l, pFinite z = true := fun z hz => by
  obtain ⟨k, hk, rfl⟩ := List.getElem_of_mem hz
  rw [hl] at hk
  have hn : 0 < n := Nat.pos_of_ne_zero fun h0 => by subst h0; simp at hk
  have h1 := h (k / n) (k % n) (Nat.div_lt_of_lt_mul hk) (Nat.mod_lt _ hn)
  unfold matE at h1
  rw [show k / n * n + k % n = k by rw [Nat.mul_comm]; exact Nat.div_add_mod k n] at h1
  rwa [List.getD_eq_getElem?_getD, List.getElem?_eq_getElem (by rw [hl]; exact hk)] at h1
theorem ofF_run {l : List C} (hn : n ≤ 3) (hl : l.length = n * n) (hf : ∀ z ∈ l, pFinite z = true) : ofF n n l = (elRun n (S0 l n) n).1 := by
  unfold ofF
  have h1 : ¬ badAt l < l.length := fun hb => by
    have h2 : (!pFinite (l[badAt l]'hb)) = true := List.findIdx_getElem (xs := l) (p := fun z => !pFinite z) (w := hb)
    have h3 := hf _ (List.getElem_mem hb)
    rw [h3] at h2; cases h2
  have h2 : okM (n : Int) (n : Int) l.length = true := by unfold okM; rw [hl]; simp; omega
  rw [h2, if_pos (by simp), if_neg h1]; rfl
theorem start (h : ScL n i B l l') : RelS n 0 i B (S0 l n) (S0 l' n) where
  fac r j _ hj := absurd hj (Nat.not_lt_zero _)
  ent r j hr hj _ := by
    have := h.ent r j hr hj
    rw [show min r 0 = 0 by omega]; exact this
  o := rfl
  s := rfl
theorem ofF_same (h : ScL n i B l l') : ofF n n l' = ofF n n l := by
  rw [ofF_run h.n3 h.len (fins h.len fun r j hr hj => (h.ent r j hr hj).finx), ofF_run h.n3 h.len' (fins h.len' fun r j hr hj => (h.ent r j hr hj).finy)]
  exact (h.start.run h.n3 h.B1 h.B2 h.B3 n (Nat.le_refl _)).1
theorem run (h : ScL n i B l l') (hF : (ofF n n l).1 = 0) : RelS n n i B (ofS n l) (ofS n l') ∧ (∀ r, r < n → pZero ((ofS n l).E r r) = false) ∧ Perm n (ofS n l).o := by
  have hf := fins h.len fun r j hr hj => (h.ent r j hr hj).finx
  rw [ofF_run h.n3 h.len hf] at hF
  exact ⟨(h.start.run h.n3 h.B1 h.B2 h.B3 n (Nat.le_refl _)).2 hF, run_diag (matE_fin h.len hf) n (Nat.le_refl _) hF, run_perm ⟨fun _ hi => hi, fun _ _ _ _ e => e⟩ n (Nat.le_refl _)⟩
theorem sols (h : ScL n i B l l') (hF : (ofF n n l).1 = 0) {j : Nat} (_hj : j < n) :
    (∀ r, r < n → Rp i (1374 - (B + i)) (2749 - (B + i)) (invE n (ofS n l') r j) (invE n (ofS n l) r j)) ∧ colOk n (ofS n l) j = true ∧ colOk n (ofS n l') j = true := by
  obtain ⟨hR, hz, hp⟩ := h.run hF
  obtain ⟨S, hS⟩ : ∃ S, S = ofS n l := ⟨_, rfl⟩
  obtain ⟨S', hS'⟩ : ∃ S', S' = ofS n l' := ⟨_, rfl⟩
  rw [← hS, ← hS'] at hR
  rw [← hS] at hz hp
  rw [← hS, ← hS']
  have hb : ∀ r, r < n → Rp 0 1074 1074 (bOf (eCol n j) (S.o r)) (bOf (eCol n j) (S.o r)) := fun r hr => by
    have hlt := hp.1 r hr
    have e1 : bOf (eCol n j) (S.o r) = if S.o r = j then (fone, 0) else (0, 0) := by
      unfold bOf eCol
      rw [List.getD_eq_getElem?_getD, List.getElem?_map, List.getElem?_range hlt]; rfl
    rw [e1]
    have z : rung double 0 = 0 := by decide
    split
    · exact ⟨⟨by decide, by decide, ⟨ex_one.2.1, ex_one.2.1, by simp⟩, ex_one.bd (n := 0) (by decide)⟩, z, z, by decide, by decide⟩
    · exact ⟨Pr.nought _ _ _, z, z, by decide, by decide⟩
  have hs : SolS n i B (lowE S) (lowE S') (uppE S) (uppE S') (fun r => bOf (eCol n j) (S.o r)) (fun r => bOf (eCol n j) (S.o r)) := by
    refine ⟨fun r k hr hk => ?_, fun r k hrk hk => ?_, fun r hr => ?_, hb, h.B1, h.B2, h.B3, h.B4⟩
    · unfold lowE
      rw [if_neg (by omega), if_pos hk, if_neg (by omega), if_pos hk]
      exact hR.fac r k hr (by omega) hk
    · unfold uppE
      rw [if_neg (by omega), if_neg (by omega)]
      have := hR.ent r k (by omega) hk (by omega)
      rwa [show min r n = r by omega] at this
    · unfold uppE
      rw [if_neg (by omega)]; exact hz r hr
  obtain ⟨h1, h2, h3⟩ := SolS.sol (o := S.o) hs h.n3
  refine ⟨fun r hr => ?_, h2, ?_⟩
  · have := h1 r hr
    unfold invE
    rw [hR.o]; exact this
  · show solFine (lowE S') (uppE S') S'.o (bOf (eCol n j)) n = true
    rw [hR.o]; exact h3
theorem ofI_same (h : ScL n i B l l') : ofI n n l' = ofI n n l := by
  have hF := h.ofF_same
  by_cases h0 : (ofF n n l).1 = 0
  · have h0' : (ofF n n l').1 = 0 := by rw [hF]; exact h0
    unfold ofI
    rw [if_pos h0, if_pos h0', if_neg, if_neg]
    · exact invJ_all fun _ hj => (h.sols h0 hj).2.1
    · exact invJ_all fun _ hj => (h.sols h0 hj).2.2
  · have h0' : (ofF n n l').1 ≠ 0 := by rw [hF]; exact h0
    unfold ofI
    rw [if_neg h0, if_neg h0', hF]
theorem inv_ok (h : ScL n i B l l') (hF : (ofF n n l).1 = 0) : (ofI n n l).1 = 0 := by
  unfold ofI
  rw [if_pos hF, if_neg]
  exact invJ_all fun _ hj => (h.sols hF hj).2.1
theorem mat_entries {E : Nat → Nat → C} {r j : Nat} (hr : r < n) (hj : j < n) : matE (entries n E (n * n)) n r j = E r j := by
  have h : r * n + j < n * n := by
    have h1 : (r + 1) * n ≤ n * n := Nat.mul_le_mul_right _ hr
    rw [Nat.add_mul, Nat.one_mul] at h1; omega
  unfold matE entries
  rw [List.getD_eq_getElem?_getD, List.getElem?_map, List.getElem?_range h]
  exact entry_at E hj
theorem carP_pair (h : ScL n i B l l') (hF : (ofF n n l).1 = 0) : ∃ a b, Pr 0 a b (carP n l) (carP n l') := by
  have b1 := h.B1
  have b2 := h.B2
  have b3 := h.B3
  have b4 := h.B4
  have n1 := norm1_pair h.ent h.n3 (by omega) (by omega) (by omega)
  have n2 := norm1_pair (l := entries n (invE n (ofS n l')) (n * n)) (l' := entries n (invE n (ofS n l)) (n * n)) (n := n) (i := i) (a := 1374 - (B + i)) (b := 2749 - (B + i)) (fun r j hr hj => by
    rw [mat_entries hr hj, mat_entries hr hj]; exact (h.sols hF hj).1 r hr) h.n3 (by omega) (by omega) (by omega)
  refine ⟨300, B + 20 + 3 + (2749 - (B + i) + 3) + i - 1074, ?_⟩
  unfold carP
  rw [cn_of_not (k := .f64) n1.nan.1, cn_of_not (k := .f64) n1.nan.2, cn_of_not (k := .f64) n2.nan.1, cn_of_not (k := .f64) n2.nan.2]
  exact n1.mulW n2 (l := 300) (h' := B + 20 + 3 + (2749 - (B + i) + 3) + i - 1074) (by omega) (by omega) (by omega) (by omega)
theorem car_same (h : ScL n i B l l') : carF n n l' = carF n n l ∧ feq .f64 (carV n n l) (carV n n l') = true ∧ feq .f64 (carV n n l') (carV n n l) = true := by
  have hI := h.ofI_same
  by_cases h0 : (ofI n n l).1 = 0
  · have h0' : (ofI n n l').1 = 0 := by rw [hI]; exact h0
    obtain ⟨hF, -, -⟩ := ofI_ok h0
    obtain ⟨a, b, hp⟩ := h.carP_pair hF
    have hb : carBad n l = false := by
      unfold carBad
      rw [hp.nan.1]
      have := hp.2.2.1.1; unfold fin at this; unfold isInf; simp; omega
    have hb' : carBad n l' = false := by
      unfold carBad
      rw [hp.nan.2]
      have := hp.2.2.1.2.1; unfold fin at this; unfold isInf; simp; omega
    have e1 : carV n n l = carP n l := by
      unfold carV
      rw [if_pos h0]
      show (if carBad n l = true then _ else carP n l) = _
      rw [hb]; rfl
    have e2 : carV n n l' = carP n l' := by
      unfold carV
      rw [if_pos h0']
      show (if carBad n l' = true then _ else carP n l') = _
      rw [hb']; rfl
    have e3 : carF n n l = (0, 0) := by
      unfold carF
      rw [if_pos h0]
      show (if carBad n l = true then _ else _) = _
      rw [hb]; rfl
    have e4 : carF n n l' = (0, 0) := by
      unfold carF
      rw [if_pos h0']
      show (if carBad n l' = true then _ else _) = _
      rw [hb']; rfl
    rw [e1, e2, e3, e4]
    have es : sval double (carP n l') = sval double (carP n l) := by rw [hp.2.2.1.2.2]; simp
    exact ⟨rfl, feq_of_sval hp.2.2.1.1 hp.2.2.1.2.1 es.symm, feq_of_sval hp.2.2.1.2.1 hp.2.2.1.1 es⟩
  · have h0' : (ofI n n l').1 ≠ 0 := by rw [hI]; exact h0
    unfold carF carV
    rw [if_neg h0, if_neg h0', if_neg h0, if_neg h0', hI]
    exact ⟨rfl, by decide +kernel, by decide +kernel⟩
/-- The greater's inverse is the less. -/
theorem inv_pair (h : ScL n i B l l') (hI : (ofI n n l).1 = 0) {r j : Nat} (hr : r < n) (hj : j < n) : Rp i (1374 - (B + i)) (2749 - (B + i)) (invE n (ofS n l') r j) (invE n (ofS n l) r j) :=
  (h.sols (ofI_ok hI).1 hj).1 r hr
end ScL
/-- The numbers: whole ones, rounded by 2^20. -/
def zSc (li : List Int) (q : Nat) : C := if q < li.length then (FloatKind.f64.nearest ((li.getD q 0).tmod 1048576), 0) else (0, 0)
def uSc (T : Nat) (li : List Int) (q : Nat) : C := (fmul T (zSc li q).1, 0)
def lmS (li : List Int) (M : Nat) : List C := (List.range M).map (zSc li)
def lwS (T : Nat) (li : List Int) (M : Nat) : List C := (List.range M).map (uSc T li)
theorem zSc_ex (li : List Int) (q : Nat) : ∃ a : Int, Ex (zSc li q).1 a 1074 ∧ a.natAbs ≤ 2 ^ 20 ∧ (zSc li q).2 = 0 := by
  unfold zSc
  split
  · have h1 := Int.tmod_lt_of_pos (li.getD q 0) (show (0 : Int) < 1048576 by omega)
    have h2 := Int.tmod_lt_of_pos (-(li.getD q 0)) (show (0 : Int) < 1048576 by omega)
    rw [Int.neg_tmod] at h2
    exact ⟨_, ex_nearest (by omega), by omega, rfl⟩
  · exact ⟨0, ex_zero (by decide) (by decide), by decide, rfl⟩
theorem mat_map {f : Nat → C} {n M r j : Nat} (hM : M = n * n) (hr : r < n) (hj : j < n) : matE ((List.range M).map f) n r j = f (r * n + j) := by
  have h : r * n + j < M := by
    have h1 : (r + 1) * n ≤ n * n := Nat.mul_le_mul_right _ hr
    rw [Nat.add_mul, Nat.one_mul] at h1; omega
  unfold matE
  rw [List.getD_eq_getElem?_getD, List.getElem?_map, List.getElem?_range h]; rfl
theorem lmS_lt (li : List Int) (M : Nat) : ltCs (lmS li M) := fun z hz => by
  obtain ⟨q, -, rfl⟩ := List.mem_map.1 hz
  obtain ⟨a, h1, -, h3⟩ := zSc_ex li q
  exact ⟨h1.1, by rw [h3]; decide⟩
theorem lwS_lt (T : Nat) (li : List Int) (M : Nat) : ltCs (lwS T li M) := fun z hz => by
  obtain ⟨q, -, rfl⟩ := List.mem_map.1 hz
  exact ⟨fmul_lt _ _, by show (0 : Nat) < _; decide⟩
theorem uSc_fin {mm : Nat} (h1 : 959 ≤ mm) (h2 : mm ≤ 1087) (T : Nat) (hT : T = 4503599627370496 * mm) (li : List Int) (q : Nat) : fin double (fmul T (zSc li q).1) ∧ fin double T ∧ fin double (zSc li q).1 := by
  have hX := ex_two (n := mm - 1) (by omega)
  have em : mm - 1 + 1 = mm := by omega
  rw [em, binade64, ← hT] at hX
  obtain ⟨a, g1, g2, -⟩ := zSc_ex li q
  have bT := hX.bd (n := 0) (by decide)
  have bz := g1.bd g2
  exact ⟨(bT.mul bz (l := mm - 1 + 52) (h := mm - 1 + 52 + 20) (by omega) (by omega) (by omega) (by omega)).1, hX.2.1, g1.2.1⟩
theorem fin_nan {x : Nat} (h : fin double x) : isNaN double x = false := by unfold fin at h; unfold isNaN; simp; omega
theorem lmS_succ (li : List Int) (q : Nat) : lmS li (q + 1) = lmS li q ++ [zSc li q] := by unfold lmS; rw [List.range_succ, List.map_append]; rfl
theorem lwS_succ (T : Nat) (li : List Int) (q : Nat) : lwS T li (q + 1) = lwS T li q ++ [uSc T li q] := by unfold lwS; rw [List.range_succ, List.map_append]; rfl
/-- What the walk asks. -/
theorem scal_facts {li : List Int} {N M mm : Nat} (hM : M = N * N) (hN : N ≤ 3) (h1 : 959 ≤ mm) (h2 : mm ≤ 1087) (T : Nat) (hT : T = 4503599627370496 * mm) :
    ofI N N (lwS T li M) = ofI N N (lmS li M) ∧ carF N N (lwS T li M) = carF N N (lmS li M) ∧ feq .f64 (carV N N (lmS li M)) (carV N N (lwS T li M)) = true ∧
      ((ofI N N (lmS li M)).1 = 0 → ∀ r j, r < N → j < N → feq .f64 (invE N (ofS N (lmS li M)) r j).1 (fmul T (invE N (ofS N (lwS T li M)) r j).1) = true ∧ feq .f64 (invE N (ofS N (lmS li M)) r j).2 (fmul T (invE N (ofS N (lwS T li M)) r j).2) = true ∧ fin double (invE N (ofS N (lwS T li M)) r j).1 ∧ fin double (invE N (ofS N (lwS T li M)) r j).2 ∧ fin double (fmul T (invE N (ofS N (lwS T li M)) r j).1) ∧ fin double (fmul T (invE N (ofS N (lwS T li M)) r j).2)) := by
  have hX := ex_two (n := mm - 1) (by omega)
  have em : mm - 1 + 1 = mm := by omega
  rw [em, binade64, ← hT] at hX
  have l1 : (lmS li M).length = N * N := by simp [lmS, hM]
  have l2 : (lwS T li M).length = N * N := by simp [lwS, hM]
  have z0 : rung double 0 = 0 := by decide
  have imz : ∀ {x : Nat}, rung double x = 0 → rung double (fmul T x) = 0 := fun h => by rw [fmul_comm]; exact zmul h hX.2.1
  have fz : ∀ {x y : Nat}, rung double x = 0 → rung double y = 0 → feq .f64 x y = true := fun h h' => feq_of_sval (fin_of_rung0 h) (fin_of_rung0 h') (by rw [zero_rung.2 h, zero_rung.2 h'])
  rcases Nat.lt_or_ge mm 1023 with hlt | hge
  · -- downward: the second is the less
    obtain ⟨i, hi⟩ : ∃ i, i = 1023 - mm := ⟨_, rfl⟩
    have hT' : Ex T 1 (1074 - i) := by rw [show 1074 - i = mm - 1 + 52 by omega]; exact hX
    have hS : ScL N i (1074 - i) (lwS T li M) (lmS li M) := by
      refine ⟨hN, l2, l1, lwS_lt _ _ _, lmS_lt _ _, fun r j hr hj => ?_, by omega, by omega, by omega, by omega⟩
      unfold lwS lmS
      rw [mat_map hM hr hj, mat_map hM hr hj]
      obtain ⟨a, g1, g2, g3⟩ := zSc_ex li (r * N + j)
      have bz := g1.bd g2
      have bT := hT'.bd (n := 0) (by decide)
      refine ⟨⟨fmul_lt _ _, g1.1, two_mul_down hT' (by omega) bz (by omega), ?_⟩, z0, by rw [g3]; exact z0, by show (0 : Nat) < _; decide, by rw [g3]; decide⟩
      exact (bT.mul bz (l := 1074 - i) (h := 1074 - i + 20) (by omega) (by omega) (by omega) (by omega))
    refine ⟨hS.ofI_same.symm, hS.car_same.1.symm, hS.car_same.2.2, fun hI r j hr hj => ?_⟩
    have hI' : (ofI N N (lwS T li M)).1 = 0 := by rw [← hS.ofI_same]; exact hI
    have hp := hS.inv_pair hI' hr hj
    have bb := hp.re.bdy
    have t := two_mul_down hT' (by omega) bb (by omega)
    exact ⟨sc_eq' hp.re.2.2.1 t, fz hp.im (imz hp.im'), t.2.1, fin_of_rung0 hp.im', t.1, fin_of_rung0 (imz hp.im')⟩
  · obtain ⟨i, hi⟩ : ∃ i, i = mm - 1023 := ⟨_, rfl⟩
    have hT' : Ex T 1 (1074 + i) := by rw [show 1074 + i = mm - 1 + 52 by omega]; exact hX
    have hS : ScL N i 1074 (lmS li M) (lwS T li M) := by
      refine ⟨hN, l1, l2, lmS_lt _ _, lwS_lt _ _ _, fun r j hr hj => ?_, by omega, by omega, by omega, by omega⟩
      unfold lwS lmS
      rw [mat_map hM hr hj, mat_map hM hr hj]
      obtain ⟨a, g1, g2, g3⟩ := zSc_ex li (r * N + j)
      have bz := g1.bd g2
      exact ⟨⟨g1.1, fmul_lt _ _, two_mul_up hT' bz (by omega) (by omega), bz⟩, by rw [g3]; exact z0, z0, by rw [g3]; decide, by show (0 : Nat) < _; decide⟩
    refine ⟨hS.ofI_same, hS.car_same.1, hS.car_same.2.1, fun hI r j hr hj => ?_⟩
    have hp := hS.inv_pair hI hr hj
    have t := two_mul_up hT' hp.re.2.2.2 (by omega) (by omega)
    exact ⟨sc_eq hp.re.2.2.1 t, fz hp.im' (imz hp.im), t.1, fin_of_rung0 hp.im, t.2.1, fin_of_rung0 (imz hp.im)⟩
end Go.Proofs.Ytajdfbjjgjpicaa
