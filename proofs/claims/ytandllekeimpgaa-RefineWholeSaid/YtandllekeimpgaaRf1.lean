/- Layer 11: what one part of a row sums: four lists of reals behind one array. -/
import Derived.Test.YtandllekeimpgaaMX1
import Derived.Test.YtandllekeimpgaaS02
import Derived.Test.YtandllekeimpgaaExt
import Derived.Deep.DeepCutAuto
import Derived.Deep.AppendLies
import Derived.Deep.OwnRows
namespace Go.Proofs.Ytandllekeimpgaa
open Go.RowKit Fl Ieee
set_option maxRecDepth 20000
attribute [local go_sem] run_store_float run_store_complex Fl.order_self Fl.order_self' Fl.order_eq Fl.order_ne Fl.order_lt Fl.order_gt
theorem grown_setT (w : World) (a : Addr) (v : Value) : w.grownBy (w.setCell a v) (some a.block) where
  os := rfl
  tape := rfl
  output := rfl
  size := by simp [World.setCell]
  block k _ hk := Below.heap_setCell _ _ _ _ (fun e => hk (by rw [e]))
def setV (V : Nat → Value) (i : Nat) (v : Value) : Nat → Value := fun j => if j = i then v else V j
def setL (L : Nat → List Nat) (i : Nat) (l : List Nat) : Nat → List Nat := fun j => if j = i then l else L j
/-- Four lists of reals behind the array at b; all from block B on. -/
structure Tal (W : World) (B b : Nat) (V : Nat → Value) (L : Nat → List Nat) : Prop where
  row : W.heap[b]? = some (.cells #[V 0, V 1, V 2, V 3] 83)
  own : ∀ i, i < 4 → W.ownsRow B 47 1 (V i) (L i).length (reals (L i))
  apart : ∀ i j, i < 4 → j < 4 → i ≠ j → ∀ g, (V i).ownBlock = some g → (V j).ownBlock ≠ some g
  nb : ∀ i, i < 4 → (V i).ownBlock ≠ some b
  lt : ∀ i, i < 4 → words (L i)
  qb : B ≤ b
theorem Tal.bW {W : World} {B b : Nat} {V : Nat → Value} {L : Nat → List Nat} (h : Tal W B b V L) : b < W.heap.size := by
  rcases Nat.lt_or_ge b W.heap.size with h1 | h1
  · exact h1
  · have := h.row; rw [Array.getElem?_eq_none h1] at this; cases this
theorem Tal.BW {W : World} {B b : Nat} {V : Nat → Value} {L : Nat → List Nat} (h : Tal W B b V L) : B ≤ W.heap.size := by have := h.bW; have := h.qb; omega
theorem Tal.cell {W : World} {B b : Nat} {V : Nat → Value} {L : Nat → List Nat} (h : Tal W B b V L) {i : Nat} (hi : i < 4) : W.cell? ⟨b, i, none⟩ = some (V i) := by
  rw [cell_of_row W b i _ _ _ h.row]
  match i, hi with
  | 0, _ => rfl
  | 1, _ => rfl
  | 2, _ => rfl
  | 3, _ => rfl
theorem Tal.below {W W' : World} {B b : Nat} {V : Nat → Value} {L : Nat → List Nat} (h : Tal W B b V L) (hb : Below W.heap.size W W') : Tal W' B b V L where
  row := by rw [hb.block b h.bW]; exact h.row
  own := fun i hi => own_below (h.own i hi) hb
  apart := h.apart
  nb := h.nb
  lt := h.lt
  qb := h.qb
theorem Tal.frozen {W : World} {B b : Nat} {V : Nat → Value} {L : Nat → List Nat} (h : Tal W B b V L) (i : Nat) : W.frozen? ⟨b, i, none⟩ = false := frozen_of_row W b i _ _ h.row
/-- A number is put behind a list: the slice that comes of it is stored. -/
theorem Tal.push {W W1 w' : World} {B b i x : Nat} {V : Nat → Value} {L : Nat → List Nat} {v' : Value} (h : Tal W B b V L) (hi : i < 4) (hx : x < 18446744073709551616) (h1 : Below W.heap.size W W1)
    (hown : w'.ownsRow B 47 1 v' ((L i).length + 1) (reals (L i) ++ [.float .f64 x])) (hg : W1.grownBy w' (V i).ownBlock)
    (hv : v'.ownBlock = (V i).ownBlock ∨ (v'.ownBlock = some W1.heap.size ∧ W1.grownBy w' none)) :
    Tal (w'.setCell ⟨b, i, none⟩ v') B b (setV V i v') (setL L i (L i ++ [x])) ∧ Below B W (w'.setCell ⟨b, i, none⟩ v') := by
  have h2 := h.below h1
  have hbW := h2.bW
  have hkeep : ∀ j, j < 4 → j ≠ i → w'.ownsRow B 47 1 (V j) (L j).length (reals (L j)) := fun j hj hji => (h2.own j hj).kept hg (by
    cases hV : (V j).ownBlock with
    | none => exact .inl rfl
    | some g => exact .inr fun e => h.apart j i hj hi hji g hV e.symm)
  have hrow : w'.heap[b]? = some (.cells #[V 0, V 1, V 2, V 3] 83) := by
    rw [hg.block b hbW (fun e => h.nb i hi e.symm)]; exact h2.row
  have hnb : v'.ownBlock ≠ some b := by
    rcases hv with e | ⟨e, -⟩
    · rw [e]; exact h.nb i hi
    · rw [e]; intro e2; injection e2 with e2; omega
  have hap : ∀ j, j < 4 → j ≠ i → ∀ g, v'.ownBlock = some g → (V j).ownBlock ≠ some g := fun j hj hji g hg2 => by
    rcases hv with e | ⟨e, -⟩
    · exact h.apart i j hi hj (Ne.symm hji) g (by rw [← e]; exact hg2)
    · intro e2
      have h3 := (h2.own j hj).lt g e2
      rw [e] at hg2; injection hg2 with hg2; omega
  have er : reals (L i ++ [x]) = reals (L i) ++ [.float .f64 x] := by simp [reals]
  refine ⟨⟨?_, ?_, ?_, ?_, ?_, h.qb⟩, ?_⟩
  · rw [heap_setCell_same w' b i _ _ _ hrow]
    unfold setV
    match i, hi with
    | 0, _ => rfl
    | 1, _ => rfl
    | 2, _ => rfl
    | 3, _ => rfl
  · intro j hj
    unfold setV setL
    by_cases e : j = i
    · rw [if_pos e, if_pos e, er, List.length_append]
      exact hown.kept (grown_setT w' ⟨b, i, none⟩ v') (.inr hnb)
    · rw [if_neg e, if_neg e]
      exact (hkeep j hj e).kept (grown_setT w' ⟨b, i, none⟩ v') (.inr (h.nb j hj))
  · intro j k hj hk hjk g
    unfold setV
    by_cases e : j = i
    · subst e
      rw [if_pos rfl, if_neg (Ne.symm hjk)]
      exact hap k hk (Ne.symm hjk) g
    · rw [if_neg e]
      by_cases e2 : k = i
      · subst e2
        rw [if_pos rfl]
        intro h4 h5
        exact hap j hj e g h5 h4
      · rw [if_neg e2]; exact h.apart j k hj hk hjk g
  · intro j hj
    unfold setV
    by_cases e : j = i
    · rw [if_pos e]; exact hnb
    · rw [if_neg e]; exact h.nb j hj
  · intro j hj
    unfold setL
    by_cases e : j = i
    · rw [if_pos e]
      intro y hy
      rcases List.mem_append.1 hy with hy | hy
      · exact h.lt i hi y hy
      · rw [List.mem_singleton.1 hy]; exact hx
    · rw [if_neg e]; exact h.lt j hj
  · have h5 : Below B W W1 := h1.mono h.BW
    have h6 : Below B W w' := h5.grown hg (Nat.le_trans h.BW h1.size) (fun g hg2 => ((h.own i hi).lt g hg2).1)
    exact h6.setCell h.qb _
theorem Tal.mid {W W1 w' : World} {B b i : Nat} {V : Nat → Value} {L : Nat → List Nat} (h : Tal W B b V L) (hi : i < 4) (h1 : Below W.heap.size W W1) (hg : W1.grownBy w' (V i).ownBlock) : w'.cell? ⟨b, i, none⟩ = some (V i) ∧ w'.frozen? ⟨b, i, none⟩ = false := by
  have h2 := h.below h1
  have hrow : w'.heap[b]? = some (.cells #[V 0, V 1, V 2, V 3] 83) := by
    rw [hg.block b h2.bW (fun e => h.nb i hi e.symm)]; exact h2.row
  refine ⟨?_, frozen_of_row _ b i _ _ hrow⟩
  rw [cell_of_row _ b i _ _ _ hrow]
  match i, hi with
  | 0, _ => rfl
  | 1, _ => rfl
  | 2, _ => rfl
  | 3, _ => rfl
theorem own_readsT {W : World} {B n : Nat} {e : TypeId} {v : Value} {xs : List Value} (h : W.ownsRow B e 1 v n xs) : ∃ A cap, v = .slice A n cap ∧ Reads W W.heap.size A xs ∧ n ≤ cap ∧ (A = none → cap = 0) := by
  obtain ⟨A, m, c, rfl, rfl⟩ := slice_of_own h
  obtain ⟨-, h1, h2⟩ := own_slice h
  exact ⟨A, c, rfl, Reads.of_own h, h1, h2⟩
def RetTl (W : World) (B b i : Nat) (L : Nat → List Nat) (p e : Nat) (r : Ending) (w' : World) : Prop :=
  ∃ V' x y, r = .returned (.tuple #[]) ∧ Tal w' B b V' (setL (setL L i (L i ++ [x])) (i + 1) (L (i + 1) ++ [y])) ∧ cn .f64 x = p ∧ cn .f64 y = e ∧ Below B W w'
theorem setL_other {L : Nat → List Nat} {i j : Nat} {l : List Nat} (h : j ≠ i) : setL L i l j = L j := if_neg h
theorem tless_c {B b i : Nat} {V : Nat → Value} {L : Nat → List Nat} (a c : Nat) (W : World) (h : Tal W B b V L) (hi : i + 1 < 4) (hlen : ∀ j, j < 4 → (L j).length ≤ 10000) :
    Calls Try.prog 36 #[.pointer (some ⟨b, i, none⟩), .float .f64 a, .float .f64 c] W (RetTl W B b i L (fneg (fmul (cn .f64 a) (cn .f64 c))) (fneg (ffma (cn .f64 a) (cn .f64 c) (fneg (fmul (cn .f64 a) (cn .f64 c)))))) := by
  obtain ⟨i0, hi0, hz0, hz1, hz2⟩ := info_parts infoReal
  have H := Lib.hid h
  have HL := Lib.hid hlen
  clear h hlen
  go_enter Try.func36, Try.ntmps36
  go_wp2_with fail
  refine (TwoProd_c a c W).mono ?_
  rintro e W1 ⟨p, q, n, rfl, hpq, hp, hq, rfl⟩
  obtain ⟨W1, hW1⟩ : ∃ W1, W1 = W.drewN n := ⟨_, rfl⟩
  rw [← hW1]
  have HB1 := Lib.hid (show Below W.heap.size W W1 by rw [hW1]; exact below_drewN (Below.refl _ _) n)
  have H1 := Lib.hid (H.out.below HB1.out)
  have e1 : cn .f64 p = fmul (cn .f64 a) (cn .f64 c) := congrArg Prod.fst hpq
  have e2 : cn .f64 q = ffma (cn .f64 a) (cn .f64 c) (fneg (fmul (cn .f64 a) (cn .f64 c))) := congrArg Prod.snd hpq
  have HE := Lib.hid (And.intro e1 e2)
  have HP := Lib.hid hp
  have HQ := Lib.hid hq
  have HFp := Lib.hid (flip_lt64 hp)
  have HFq := Lib.hid (flip_lt64 hq)
  obtain ⟨v0, hv0⟩ : ∃ v0, v0 = V i := ⟨_, rfl⟩
  have c0 : W1.cell? ⟨b, i, none⟩ = some v0 := by rw [hv0]; exact H1.out.cell (by omega)
  have HV0 := Lib.hid hv0
  have HO := Lib.hid (show W1.ownsRow B 47 1 v0 (L i).length (reals (L i)) by rw [hv0]; exact H1.out.own i (by omega))
  clear hW1 hpq e1 e2 hp hq hv0
  go_upto_region 2 with (at_builtin; refine wpList_append_stays _ rfl (.tmp 18) (.tmp 21) 80 rfl B 47 i0 (.float .f64 0) 8 Try.underlying80 hi0 hz0 hz1 hz2 rfl _ _ _ rfl (HO.out.alloc _) ⟨W1.heap.size, 0, none⟩ 1 1 [.float .f64 (Op.negFloat .f64 p)] rfl rfl (cell_one_new _ _ _) (by intro u hu; simp at hu; subst hu; rfl) (by have := HL.out i (by omega); unfold maxLen; omega) (by have := HL.out i (by omega); omega) (Nat.le_trans H1.out.BW (below_new _ _).size) ?_; intro v' w2 hown1 hgrow1 hat1; rw [HV0.out] at hgrow1 hat1; obtain ⟨cw, fw⟩ := H1.out.mid (by omega) (below_new _ _) hgrow1; rw [← HV0.out] at cw; have HPu := Lib.hid (H1.out.push (by omega) HFp.out (below_new _ _) hown1 hgrow1 hat1); obtain ⟨q1, cp1, ev, -, -⟩ := hown1.form (Nat.succ_pos _); subst ev; clear hown1 hgrow1 hat1 c0)
  obtain ⟨W3, hW3⟩ : ∃ W3, W3 = w2.setCell ⟨b, i, none⟩ (.slice (some ⟨q1, 0, none⟩) ((L i).length + 1) cp1) := ⟨_, rfl⟩
  have HT3 := Lib.hid HPu.out.1
  have HB3 := Lib.hid HPu.out.2
  rw [← hW3] at HT3
  rw [← hW3] at HB3 ⊢
  clear hW3 HPu cw fw
  have hLi : setL L i (L i ++ [Fl.flip double p]) (i + 1) = L (i + 1) := setL_other (by omega)
  obtain ⟨v1, hv1⟩ : ∃ v1, v1 = setV V i (.slice (some ⟨q1, 0, none⟩) ((L i).length + 1) cp1) (i + 1) := ⟨_, rfl⟩
  have c0 : W3.cell? ⟨b, i + 1, none⟩ = some v1 := by rw [hv1]; exact HT3.out.cell hi
  have HO3 := Lib.hid (show W3.ownsRow B 47 1 v1 (L (i + 1)).length (reals (L (i + 1))) by
    have h := HT3.out.own (i + 1) hi
    rw [hLi] at h
    rw [hv1]; exact h)
  have HV1 := Lib.hid hv1
  have HLi := Lib.hid hLi
  clear hv1 hLi
  go_wp2_with (at_builtin; refine wpList_append_stays _ rfl (.tmp 29) (.tmp 32) 80 rfl B 47 i0 (.float .f64 0) 8 Try.underlying80 hi0 hz0 hz1 hz2 rfl _ _ _ rfl (HO3.out.alloc _) ⟨W3.heap.size, 0, none⟩ 1 1 [.float .f64 (Op.negFloat .f64 q)] rfl rfl (cell_one_new _ _ _) (by intro u hu; simp at hu; subst hu; rfl) (by have := HL.out (i + 1) hi; unfold maxLen; omega) (by have := HL.out (i + 1) hi; omega) (Nat.le_trans HT3.out.BW (below_new _ _).size) ?_; intro v' w4 hown1 hgrow1 hat1; rw [HV1.out] at hgrow1 hat1; obtain ⟨cw, fw⟩ := HT3.out.mid hi (below_new _ _) hgrow1; rw [← HV1.out] at cw; rw [← HLi.out] at hown1; have HPu := Lib.hid (HT3.out.push hi HFq.out (below_new _ _) hown1 hgrow1 hat1); rw [HLi.out] at hown1; obtain ⟨q2, cp2, ev, -, -⟩ := hown1.form (Nat.succ_pos _); subst ev; clear hown1 hgrow1 hat1 c0)
  go_end0
  obtain ⟨hT, hb⟩ := HPu.out
  rw [HLi.out] at hT
  exact ⟨_, _, _, rfl, hT, by rw [cn_flip HP.out, HE.out.1], by rw [cn_flip HQ.out, HE.out.2], (HB1.out.mono H.out.BW).trans (HB3.out.trans hb)⟩
/-- What a tally comes to. -/
def tsum (t e : List Nat) : Nat := fadd (sumErr t).1 (sumL ((sumErr t).2 ++ e))
def RetTs (v : Nat) (W : World) (e : Ending) (w' : World) : Prop := ∃ y, e = .returned (.float .f64 y) ∧ cn .f64 y = v ∧ y < 18446744073709551616 ∧ Below W.heap.size W w'
theorem tsum_c {B b i : Nat} {V : Nat → Value} {L : Nat → List Nat} (W : World) (h : Tal W B b V L) (hi : i + 1 < 4) (hlen : ∀ j, j < 4 → (L j).length ≤ 10000) (hnone : (L (i + 1)).length = 0 → V (i + 1) = .slice none 0 0) :
    Calls Try.prog 38 #[.pointer (some ⟨b, i, none⟩)] W (RetTs (tsum ((L i).map (cn .f64)) ((L (i + 1)).map (cn .f64))) W) := by
  obtain ⟨i0, hi0, hz0, hz1, hz2⟩ := info_parts infoReal
  have H := Lib.hid h
  have HL := Lib.hid hlen
  obtain ⟨A0, c0, e0, r0, -, -⟩ := own_readsT (h.own i (by omega))
  obtain ⟨A1, c1, e1, r1, f1, n1⟩ := own_readsT (h.own (i + 1) hi)
  have cc0 : W.cell? ⟨b, i, none⟩ = some (.slice A0 (L i).length c0) := by rw [← e0]; exact h.cell (by omega)
  have cc1 : W.cell? ⟨b, i + 1, none⟩ = some (.slice A1 (L (i + 1)).length c1) := by rw [← e1]; exact h.cell hi
  have HR0 := Lib.hid r0
  have HR1 := Lib.hid r1
  have HC1 := Lib.hid cc1
  have HBW := Lib.hid h.bW
  have HN1 := Lib.hid (show (L (i + 1)).length = 0 → A1 = none ∧ c1 = 0 from fun hz => by
    have h1 := (hnone hz).symm.trans e1
    injection h1 with h1 h2 h3
    exact ⟨h1.symm, h3.symm⟩)
  clear h hlen e0 r0 e1 r1 f1 cc1 n1 hnone
  go_enter Try.func38, Try.ntmps38
  go_wp2_with fail
  refine (SumErr_c A0 (L i) c0 W (H.out.lt i (by omega)) (by have := HL.out i (by omega); omega) HR0.out).mono ?_
  rintro e W1 ⟨s, v, errs, rfl, hs, hsl, hwe, hel, hown, hb⟩
  have cc1 : W1.cell? ⟨b, i + 1, none⟩ = some (.slice A1 (L (i + 1)).length c1) := (hb.cell (p := ⟨b, i + 1, none⟩) HBW.out).trans HC1.out
  have HSe := Lib.hid hs
  have HSl := Lib.hid hsl
  have HWe := Lib.hid hwe
  have HEl := Lib.hid hel
  have HOw := Lib.hid hown
  have HB := Lib.hid hb
  clear hs hsl hwe hel hown hb cc0
  by_cases hn : (L (i + 1)).length = 0
  · obtain ⟨rfl, rfl⟩ := HN1.out hn
    have HNil := Lib.hid (show L (i + 1) = [] from List.eq_nil_of_length_eq_zero hn)
    rw [hn] at cc1
    go_wp2_with (at_builtin; refine wpList_append_none rfl (.tmp 14) (.tmp 18) 80 rfl W.heap.size 47 i0 1 Try.underlying80 hi0 _ _ _ rfl HOw.out rfl ?_)
    obtain ⟨A5, c5, rfl, r5, -, -⟩ := own_readsT HOw.out
    go_wp2_with fail
    refine (Sum_c A5 errs c5 W1 (by have := HL.out i (by omega); have := HEl.out; omega) r5).mono ?_
    rintro e W3 ⟨f, n, rfl, hf, hfl, rfl⟩
    have HF := Lib.hid hf
    clear hf r5
    go_wp2_with fail
    refine upon_add _ _ _ _ ?_
    intro r1 n1 h1
    go_wp2
    go_ret
    refine ⟨_, rfl, ?_, h1.2, below_drewN HB.out _⟩
    have g1 := congrArg Prod.fst HSe.out
    have g2 := congrArg Prod.snd HSe.out
    unfold tsum
    rw [h1.1, HF.out, ← g1, ← g2, HNil.out, List.map_nil, List.append_nil]
  · obtain ⟨ad, rfl, hab, hcell⟩ := HR1.out (by simp [reals]; omega)
    have HAb := Lib.hid hab
    have HCe := Lib.hid (show ∀ j u, (reals (L (i + 1)))[j]? = some u → W1.cell? (ad.add j) = some u from fun j u hu => (HB.out.cell (p := ad.add j) (by
      have h2 : (ad.add j).block = ad.block := by unfold Addr.add; split <;> rfl
      rw [h2]; exact hab)).trans (hcell j u hu))
    clear hab hcell
    go_wp2_with (at_builtin; refine wpList_append_stays _ rfl (.tmp 14) (.tmp 18) 80 rfl W.heap.size 47 i0 (.float .f64 0) 8 Try.underlying80 hi0 hz0 hz1 hz2 rfl _ _ _ rfl HOw.out ad (L (i + 1)).length c1 (reals (L (i + 1))) rfl (by simp [reals]) HCe.out (by intro u hu; simp [reals] at hu; obtain ⟨z, -, rfl⟩ := hu; rfl) (by have := HL.out i (by omega); have := HL.out (i + 1) hi; have := HEl.out; unfold maxLen; omega) (by have := HL.out i (by omega); have := HL.out (i + 1) hi; have := HEl.out; omega) HB.out.size ?_; intro v' w2 hown1 hgrow1 hat1)
    have er : reals errs ++ reals (L (i + 1)) = reals (errs ++ L (i + 1)) := by simp [reals]
    rw [er] at hown1
    obtain ⟨A5, c5, rfl, r5, -, -⟩ := own_readsT hown1
    have hl5 : errs.length + (L (i + 1)).length = (errs ++ L (i + 1)).length := by simp
    have HB2 := Lib.hid (HB.out.grown hgrow1 HB.out.size (fun g hg => (HOw.out.lt g hg).1))
    have HSu := Lib.hid (Sum_c A5 (errs ++ L (i + 1)) c5 w2 (by have := HL.out i (by omega); have := HL.out (i + 1) hi; have := HEl.out; rw [← hl5]; omega) r5)
    rw [← hl5] at HSu
    clear hown1 hgrow1 hat1 er r5 hl5
    go_wp2_with fail
    refine HSu.out.mono ?_
    rintro e W3 ⟨f, n, rfl, hf, hfl, rfl⟩
    have HF := Lib.hid hf
    clear hf HSu
    go_wp2_with fail
    refine upon_add _ _ _ _ ?_
    intro r1 n1 h1
    go_wp2
    go_ret
    refine ⟨_, rfl, ?_, h1.2, below_drewN HB2.out _⟩
    have g1 := congrArg Prod.fst HSe.out
    have g2 := congrArg Prod.snd HSe.out
    unfold tsum
    rw [h1.1, HF.out, ← g1, ← g2, ← List.map_append]
end Go.Proofs.Ytandllekeimpgaa
