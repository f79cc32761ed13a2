/- Layer 31: (archive.Decode): what it finds. -/
import Derived.Test.YtpfjidijecgjcaaAdE
import Derived.Deep.DeepCutAuto
namespace Go.Proofs.Ytpfjidijecgjcaa
open Go.RowKit Fl Ieee
set_option maxRecDepth 20000
attribute [local go_sem] run_store_float run_store_complex
theorem takeS_lt {n : Nat} {s : RdS} (h : okB s.1) : (takeS n s).1 < 256 ^ n := by
  unfold takeS
  split
  · exact Nat.pow_pos (by decide)
  · exact valB_lt n _ (by rw [List.length_take]; omega) (fun c hc => h c (List.mem_of_mem_take hc))
theorem decS_end {n : Nat} {l : List SolW} {s : RdS} (h : n = 0 ∨ s.2 = true) : decS n l s = (l, n, s) := by
  rcases h with rfl | h
  · rfl
  · cases n with
    | zero => rfl
    | succ n => unfold decS; rw [if_pos h]
theorem decS_more {n : Nat} {l : List SolW} {s : RdS} (h : s.2 = false) : decS (n + 1) l s = decS n (l ++ [(solS s).1]) (solS s).2 := by
  show (if s.2 = true then _ else _) = _
  rw [h, if_neg (by decide)]
/-- A solution that has been read: its bits, its words, its two lists in memory. -/
structure SolV where
  a : SolW
  s : SolM
  x1 : Value
  x2 : Value
def flatV (L : List SolV) : List Value := L.flatMap fun q => [.float .f64 q.s.om, q.x1, q.x2]
structure OwnV (w : World) (B : Nat) (q : SolV) : Prop where
  o1 : w.ownsRow B 60 1 q.x1 q.s.vs.length (nums q.s.vs)
  o2 : w.ownsRow B 60 1 q.x2 q.s.ys.length (nums q.s.ys)
structure LikeV (q : SolV) : Prop where
  om : q.s.om = q.a.w
  lt : q.a.w < 18446744073709551616
  vs : q.s.vs.map cnC = q.a.v.map numW
  ys : q.s.ys.map cnC = q.a.a.map numW
  lv : ltCs q.s.vs
  ly : ltCs q.s.ys
  bv : ∀ u ∈ q.a.v, u < 18446744073709551616
  by' : ∀ u ∈ q.a.a, u < 18446744073709551616
  sv : q.a.v.length ≤ 256
  sy : q.a.a.length ≤ 256
theorem flatV_len (L : List SolV) : (flatV L).length = L.length * 3 := by
  induction L with
  | nil => rfl
  | cons q L ih => show (_ ++ flatV L).length = _; rw [List.length_append, ih]; simp; omega
theorem flatV_at {L : List SolV} {i : Nat} {q : SolV} (h : L[i]? = some q) : (flatV L)[i * 3]? = some (.float .f64 q.s.om) ∧ (flatV L)[i * 3 + 1]? = some q.x1 ∧ (flatV L)[i * 3 + 2]? = some q.x2 := by
  induction L generalizing i with
  | nil => simp at h
  | cons r L ih =>
    have e : flatV (r :: L) = [.float .f64 r.s.om, r.x1, r.x2] ++ flatV L := rfl
    rw [e]
    cases i with
    | zero =>
      have : r = q := by simpa using h
      subst this
      exact ⟨rfl, rfl, rfl⟩
    | succ i =>
      obtain ⟨h0, h1, h2⟩ := ih (i := i) (by simpa using h)
      have e0 : (i + 1) * 3 = i * 3 + 3 := by omega
      refine ⟨?_, ?_, ?_⟩
      · rw [e0, List.getElem?_append_right (by simp)]; simpa using h0
      · rw [e0, List.getElem?_append_right (by simp)]; simpa using h1
      · rw [e0, List.getElem?_append_right (by simp)]; simpa using h2
theorem flatV_snoc (L : List SolV) (q : SolV) : flatV (L ++ [q]) = flatV L ++ [.float .f64 q.s.om, q.x1, q.x2] := by unfold flatV; rw [List.flatMap_append]; simp
/-- A row of one's own stays where no block of its is written. -/
theorem own_same {w w' : World} {B e size n : Nat} {v : Value} {xs : List Value} (h : w.ownsRow B e size v n xs) (hk : ∀ k, v.ownBlock = some k → w'.heap[k]? = w.heap[k]?) : w'.ownsRow B e size v n xs := by
  refine ⟨h.1, ?_⟩
  rcases h.2 with h1 | ⟨q, cap, cur, hv, hbg, hq, hr⟩
  · exact .inl h1
  · exact .inr ⟨q, cap, cur, hv, hbg, by rw [hk q (by rw [hv]; rfl)]; exact hq, hr⟩
theorem own_type {w : World} {B B' e e' size size' n n' : Nat} {v v' : Value} {xs xs' : List Value} (h : w.ownsRow B e size v n xs) (h' : w.ownsRow B' e' size' v' n' xs') (he : e ≠ e') : ∀ k, v.ownBlock = some k → v'.ownBlock ≠ some k := by
  intro k hk hk'
  rcases h.2 with ⟨rfl, -⟩ | ⟨q, cap, cur, rfl, -, hq, -⟩
  · cases hk
  rcases h'.2 with ⟨rfl, -⟩ | ⟨q', cap', cur', rfl, -, hq', -⟩
  · cases hk'
  have e1 : q = k := by injection hk
  have e2 : q' = k := by injection hk'
  subst e1
  subst e2
  rw [hq] at hq'
  injection hq' with hq'
  injection hq' with _ h2
  exact he h2
theorem own_othN {g : Nat} {w w' : World} {B e size n : Nat} {v : Value} {xs : List Value} (h : w.ownsRow B e size v n xs) (hB : g < B) (ho : Oth g w w') : w'.ownsRow B e size v n xs :=
  own_same h (fun k hk => ho.blk k (h.lt k hk).2 (by have := (h.lt k hk).1; omega))
theorem own_grownT {w w' : World} {B B' e e' size size' n n' : Nat} {v v' : Value} {xs xs' : List Value} (h : w.ownsRow B e size v n xs) (h' : w.ownsRow B' e' size' v' n' xs') (he : e ≠ e') (hg : w.grownBy w' v'.ownBlock) : w'.ownsRow B e size v n xs :=
  own_same h (fun k hk => hg.block k (h.lt k hk).2 (fun e1 => own_type h h' he k hk e1.symm))
theorem Oth.put2 {g b : Nat} {w0 w : World} (h : Oth g w0 w) (hb : w0.heap.size ≤ b) (hg : g ≤ w0.heap.size) (i : Nat) (v : Value) : Oth g w0 (w.setCell ⟨b, i, none⟩ v) :=
  ⟨h.bel.setCell (show g ≤ (⟨b, i, none⟩ : Addr).block from Nat.le_trans hg hb) v, fun j hj hn => (Below.heap_setCell _ _ _ _ (show j ≠ (⟨b, i, none⟩ : Addr).block from by show j ≠ b; omega)).trans (h.blk j hj hn)⟩
theorem Rdr.oth {g b : Nat} {w w' : World} {s : RdS} (h : Rdr w g s) (hb : g < b) (ho : Oth b w w') : Rdr w' g s := by
  have hl := h.lt
  obtain ⟨A, c, hrow, h1, h2, h3⟩ := h
  exact ⟨A, c, by rw [ho.blk g hl (by omega)]; exact hrow, h1, h2.below (ho.bel.mono (Nat.le_of_lt hb)), h3⟩
theorem reads_ownN {W : World} {B : Nat} {l : List C} {v : Value} (h : W.ownsRow B 60 1 v l.length (nums l)) : ∃ A c, v = .slice A l.length c ∧ Reads W W.heap.size A (nums l) ∧ (A = none → c = 0) := by
  obtain ⟨A, c, h1, h2, -, h3⟩ := own_reads h
  exact ⟨A, c, h1, h2, h3⟩
/-- Solutions that lie in rows of one's own can be read. -/
theorem SolsAt.of {w : World} {B : Nat} {v : Value} {L : List SolV} (h : w.ownsRow B 39 3 v L.length (flatV L)) (hq : ∀ q ∈ L, OwnV w B q) : SolsAt w w.heap.size v (L.map SolV.s) := by
  rcases h.2 with ⟨rfl, hl⟩ | ⟨g, cap, cur, rfl, hbg, hg, hr⟩
  · have : L = [] := List.eq_nil_of_length_eq_zero hl
    subst this
    exact ⟨none, 0, rfl, fun i s hs => by simp at hs⟩
  · have hlt : g < w.heap.size := by
      rcases Nat.lt_or_ge g w.heap.size with h | h
      · exact h
      · rw [Array.getElem?_eq_none h] at hg; cases hg
    refine ⟨some ⟨g, 0, none⟩, cap, by rw [List.length_map], fun i s hs => ?_⟩
    rw [List.getElem?_map] at hs
    obtain ⟨q, hqi, rfl⟩ := Option.map_eq_some_iff.1 hs
    obtain ⟨f0, f1, f2⟩ := flatV_at hqi
    have hc := h.cells (g := g) rfl
    have ho := hq q (List.mem_of_getElem? hqi)
    obtain ⟨A1, c1, e1, r1, k1⟩ := reads_ownN ho.o1
    obtain ⟨A2, c2, e2, r2, k2⟩ := reads_ownN ho.o2
    have ha : ∀ k, (⟨g, 0, none⟩ : Addr).add k = ⟨g, k, none⟩ := fun k => by unfold Addr.add; split <;> simp_all
    exact ⟨g, q.x1, q.x2, rfl, hlt, by have := hc _ _ f0; rwa [ha] at this, by have := hc _ _ f1; rwa [ha] at this, by have := hc _ _ f2; rwa [ha] at this, A1, c1, A2, c2, e1, e2, r1, r2, k1, k2⟩
theorem infoSol : (Try.prog.info? 39).map (fun i => (i.zero, i.size, i.bytes)) = some (some (.agg #[.float .f64 0, .slice none 0 0, .slice none 0 0]), 3, 56) := by kernel_rfl
/-- A finite number that is some number's, up to NaN, is it. -/
theorem num_is {z : C} {u : Nat} (h : cnC z = numW u) (hf : pFinite z = true) : z = numW u := by
  have h1 : isNaN double z.1 = false := by
    unfold pFinite at hf
    rw [Bool.and_eq_true] at hf
    have := of_decide_eq_true hf.1
    unfold isNaN; exact decide_eq_false (by omega)
  have h2 : isNaN double z.2 = false := by
    unfold pFinite at hf
    rw [Bool.and_eq_true] at hf
    have := of_decide_eq_true hf.2
    unfold isNaN; exact decide_eq_false (by omega)
  rw [← h]
  show z = (cn .f64 z.1, cn .f64 z.2)
  rw [cn_of_not (k := .f64) h1, cn_of_not (k := .f64) h2]
theorem nar_of {z : C} {u : Nat} (hu : u < 18446744073709551616) (h : cnC z = numW u) (hl : ltC z) : Nar1 z := by
  refine ⟨hl, fun hf => ?_⟩
  have e := num_is h hf
  rw [e] at hf
  obtain ⟨f1, f2⟩ := numW_fin hf
  refine ⟨u / 4294967296, u % 4294967296, ?_, ?_, f1, f2⟩
  · rw [e]; exact narrow_wide (by omega) f1
  · rw [e]; exact narrow_wide (Nat.mod_lt _ (by decide)) f2
theorem map_mem {l : List C} {m : List Nat} (h : l.map cnC = m.map numW) {z : C} (hz : z ∈ l) : ∃ u ∈ m, cnC z = numW u := by
  have : cnC z ∈ m.map numW := by rw [← h]; exact List.mem_map.2 ⟨z, hz, rfl⟩
  obtain ⟨u, hu, e⟩ := List.mem_map.1 this
  exact ⟨u, hu, e.symm⟩
theorem map_len {l : List C} {m : List Nat} (h : l.map cnC = m.map numW) : l.length = m.length := by
  have := congrArg List.length h
  simpa using this
theorem map_fin {l : List C} {m : List Nat} (h : l.map cnC = m.map numW) (hf : ∀ z ∈ l, pFinite z = true) : l = m.map numW := by
  have h1 : ∀ z ∈ l, cnC z = id z := fun z hz => by
    obtain ⟨u, -, e⟩ := map_mem h hz
    rw [e]; exact (num_is e (hf z hz)).symm
  rw [← h, List.map_congr_left h1, List.map_id]
/-- A solution that may be stored, by its bits. -/
structure OkW (a : SolW) : Prop where
  lt : a.w < 18446744073709551616
  fin : isFin double a.w = true
  nv : ∀ u ∈ a.v, u < 18446744073709551616 ∧ pFinite (numW u) = true
  na : ∀ u ∈ a.a, u < 18446744073709551616 ∧ pFinite (numW u) = true
  sv : a.v.length ≤ 64
  sy : a.a.length ≤ 64
def toM (a : SolW) : SolM := ⟨a.w, a.v.map numW, a.a.map numW⟩
theorem wrong_no {S : List SolM} (h : wrongV S = 0) : ∀ s ∈ S, longS s = false ∧ badS s = false := by
  unfold wrongV at h
  intro s hs
  cases h1 : S.any longS
  · rw [h1, if_neg (by decide)] at h
    cases h2 : S.any badS
    · have g1 := List.any_eq_false.1 h1 s hs
      have g2 := List.any_eq_false.1 h2 s hs
      exact ⟨Bool.eq_false_iff.2 g1, Bool.eq_false_iff.2 g2⟩
    · rw [h2, if_pos rfl] at h; exact absurd h (by decide)
  · rw [h1, if_pos rfl] at h; exact absurd h (by decide)
theorem LikeV.same {q : SolV} (h : LikeV q) (hl : longS q.s = false) (hb : badS q.s = false) : OkW q.a ∧ q.s = toM q.a := by
  have hb' : isFin double q.s.om = true ∧ ∀ z ∈ q.s.vs ++ q.s.ys, pFinite z = true := by
    unfold badS at hb
    rw [Bool.not_eq_false', Bool.and_eq_true, List.all_eq_true] at hb
    exact hb
  have hl' : q.s.vs.length ≤ 64 ∧ q.s.ys.length ≤ 64 := by
    unfold longS at hl
    rw [Bool.or_eq_false_iff] at hl
    exact ⟨by have := of_decide_eq_false hl.1; omega, by have := of_decide_eq_false hl.2; omega⟩
  have e1 := map_fin h.vs (fun z hz => hb'.2 z (List.mem_append_left _ hz))
  have e2 := map_fin h.ys (fun z hz => hb'.2 z (List.mem_append_right _ hz))
  have l1 := map_len h.vs
  have l2 := map_len h.ys
  refine ⟨⟨h.lt, by rw [← h.om]; exact hb'.1, fun u hu => ⟨h.bv u hu, ?_⟩, fun u hu => ⟨h.by' u hu, ?_⟩, by omega, by omega⟩, ?_⟩
  · exact hb'.2 _ (List.mem_append_left _ (by rw [e1]; exact List.mem_map.2 ⟨u, hu, rfl⟩))
  · exact hb'.2 _ (List.mem_append_right _ (by rw [e2]; exact List.mem_map.2 ⟨u, hu, rfl⟩))
  · unfold toM
    rw [← e1, ← e2, ← h.om]
theorem like_all {L : List SolV} (h : ∀ q ∈ L, LikeV q) (hw : wrongV (L.map SolV.s) = 0) : (∀ a ∈ L.map SolV.a, OkW a) ∧ L.map SolV.s = (L.map SolV.a).map toM := by
  have hn := wrong_no hw
  have hq : ∀ q ∈ L, OkW q.a ∧ q.s = toM q.a := fun q hq => (h q hq).same (hn _ (List.mem_map.2 ⟨q, hq, rfl⟩)).1 (hn _ (List.mem_map.2 ⟨q, hq, rfl⟩)).2
  refine ⟨fun a ha => ?_, ?_⟩
  · obtain ⟨q, hqm, rfl⟩ := List.mem_map.1 ha
    exact (hq q hqm).1
  · rw [List.map_map]
    exact List.map_congr_left (fun q hqm => (hq q hqm).2)
/-- What Decode tells of bytes. -/
def RetDec (p : List Nat) (w : World) (e : Ending) (w' : World) : Prop :=
  ∃ v er, e = .returned (.tuple #[v, .int .i64 er]) ∧ Below w.heap.size w w' ∧
    ((er = 410 ∧ v = .slice none 0 0) ∨ (er = 0 ∧ ∃ acc : List SolW, (∀ a ∈ acc, OkW a) ∧ acc.length ≤ 4096 ∧ SolsAt w' w'.heap.size v (acc.map toM) ∧ encS acc = p))
end Go.Proofs.Ytpfjidijecgjcaa
