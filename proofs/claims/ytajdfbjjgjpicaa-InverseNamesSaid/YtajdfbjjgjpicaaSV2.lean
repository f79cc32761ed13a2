/- Layer 10: an elimination is taken apart; what refuses a right side. -/
import Derived.Test.YtajdfbjjgjpicaaSV1
import Derived.Test.YtajdfbjjgjpicaaLNo
import Derived.Test.YtajdfbjjgjpicaaKT2
namespace Go.Proofs.Ytajdfbjjgjpicaa
open Go.RowKit Fl Ieee
set_option maxRecDepth 20000
attribute [local go_sem] run_store_float run_store_complex
theorem exact_of : ∀ {zs l : List C}, zs.map cnC = l → (∀ z ∈ l, pFinite z = true) → zs = l
  | [], _, h, _ => by rw [← h]; rfl
  | a :: t, _, h, hf => by
    rw [List.map_cons] at h
    rw [← h] at hf ⊢
    have h1 : a = cnC a := like.fin (z := a) (v := cnC a) (.inr rfl) (hf _ (List.mem_cons_self))
    rw [← h1, ← exact_of (zs := t) rfl (fun z hz => hf z (List.mem_cons_of_mem _ hz))]
theorem entries_fin {E : Nat → Nat → C} {n : Nat} (h : ∀ i j, i < n → j < n → pFinite (E i j) = true) : ∀ z ∈ entries n E (n * n), pFinite z = true := fun z hz => by
  unfold entries at hz
  obtain ⟨k, hk, rfl⟩ := List.mem_map.1 hz
  have hk := List.mem_range.1 hk
  have hn0 : 0 < n := by
    rcases Nat.eq_zero_or_pos n with h | h
    · subst h; simp at hk
    · exact h
  exact h _ _ (Nat.div_lt_of_lt_mul hk) (Nat.mod_lt _ hn0)
theorem low_fin {n : Nat} {S : El} (h : finTo S.E n) (i j : Nat) (hi : i < n) (hj : j < n) : pFinite (lowE S i j) = true := by
  unfold lowE
  split
  · decide +kernel
  · split
    · exact h i j hi hj
    · decide +kernel
theorem upp_fin {n : Nat} {S : El} (h : finTo S.E n) (i j : Nat) (hi : i < n) (hj : j < n) : pFinite (uppE S i j) = true := by
  unfold uppE
  split
  · decide +kernel
  · exact h i j hi hj
theorem fieldM (a b : Int) (A : Option Addr) (n c : Nat) (W : World) : (Instr.field 28 (mval a b (.slice A n c)) 2).run Try.prog W = .ok (.slice A n c) W := by kernel_rfl
theorem set4 {w : World} {b : Nat} {x0 x1 x2 x3 u v s t : Value} {T : TypeId} (h : w.heap[b]? = some (.cells #[x0, x1, x2, x3] T)) :
    ((((w.setCell ⟨b, 0, none⟩ u).setCell ⟨b, 1, none⟩ v).setCell ⟨b, 2, none⟩ s).setCell ⟨b, 3, none⟩ t).heap[b]? = some (.cells #[u, v, s, t] T) := by
  have h1 := heap_setCell_same w b 0 _ T u h
  have h2 := heap_setCell_same _ b 1 _ T v h1
  have h3 := heap_setCell_same _ b 2 _ T s h2
  have h4 := heap_setCell_same _ b 3 _ T t h3
  rw [h4]; rfl
theorem RetMx.liesO {w w' : World} {r c M : Nat} {l : List C} {e : Ending} (h : RetMx r c l w e w') (hM : l.length = M) (hf : ∀ z ∈ l, pFinite z = true) {B : Nat} (hB : B ≤ w.heap.size) : ∃ A cap, e = .returned (mval r c (.slice A M cap)) ∧ w'.ownsRow B 53 1 (.slice A M cap) M (nums l) ∧ Below w.heap.size w w' := by
  obtain ⟨s, zs, rfl, hz, -, hown, hb⟩ := h
  rw [exact_of hz hf] at hown
  obtain ⟨A, cap, rfl, -, -, -⟩ := own_reads hown
  rw [hM] at hown ⊢
  exact ⟨A, cap, rfl, own_base hown hB, hb⟩
/-- Four cells of a row that lies below are written. -/
theorem own_set4 {w : World} {B b n : Nat} {e : TypeId} {v x0 x1 x2 x3 : Value} {xs : List Value} (h : w.ownsRow B e 1 v n xs) (hb : b < B) :
    ((((w.setCell ⟨b, 0, none⟩ x0).setCell ⟨b, 1, none⟩ x1).setCell ⟨b, 2, none⟩ x2).setCell ⟨b, 3, none⟩ x3).ownsRow B e 1 v n xs :=
  ownsRow_setCell_below (ownsRow_setCell_below (ownsRow_setCell_below (ownsRow_setCell_below h hb _) hb _) hb _) hb _
/-- The order, as whole numbers. -/
def ordL (n : Nat) (o : Nat → Nat) : List Int := (List.range n).map fun i => ((o i : Nat) : Int)
/-- What an elimination is taken apart into. -/
def RetOpen (n : Nat) (S : El) (w : World) (e : Ending) (w' : World) : Prop :=
  ∃ Al kl Au ku Ao ko, e = .returned (.tuple #[.agg #[.int .i64 (n : Nat), .slice Al (n * n) kl, .slice Au (n * n) ku, .slice Ao n ko], .bool true]) ∧
    Reads w' w'.heap.size Al (nums (entries n (lowE S) (n * n))) ∧ Reads w' w'.heap.size Au (nums (entries n (uppE S) (n * n))) ∧ Reads w' w'.heap.size Ao (intsV (ordL n S.o)) ∧ Below w.heap.size w w'
set_option maxHeartbeats 2000000 in
theorem open_c {B b n : Nat} {S : El} (w : World) (h : Has9 w B b n S) (hf : finTo S.E n) (hn : n ≤ 64) : Calls Try.prog 84 #[.pointer (some ⟨b, 0, none⟩)] w (RetOpen n S w) := by
  obtain ⟨M, hM⟩ : ∃ M, M = n * n := ⟨_, rfl⟩
  have hEl : (entries n (lowE S) (n * n)).length = M := by rw [hM]; simp [entries]
  have hEu : (entries n (uppE S) (n * n)).length = M := by rw [hM]; simp [entries]
  have h9 := h.below (below_new w (.cells #[.int .i64 0, .slice none 0 0, .slice none 0 0, .slice none 0 0] 107))
  have H0 := Lib.hid (show NW w (w.alloc (.cells #[.int .i64 0, .slice none 0 0, .slice none 0 0, .slice none 0 0] 107)) n B b S from ⟨h9, below_new w _⟩)
  have HR0 := Lib.hid (heap_alloc_new w (.cells #[.int .i64 0, .slice none 0 0, .slice none 0 0, .slice none 0 0] 107))
  have HF := Lib.hid hf
  have HN := Lib.hid hn
  have HEl := Lib.hid hEl
  have HEu := Lib.hid hEu
  have HMM := Lib.hid hM
  have hsg : (sgI S.s == 0) = false := by cases S.s <;> rfl
  have hfm := fun (a b : Int) (A : Option Addr) (n c : Nat) (W : World) => fieldM a b A n c W
  clear h h9 hf hn hEl hEu hM
  go_enter Try.func84, Try.ntmps84
  go_wp2_with fail
  refine (Sign_c _ H0.out.x).mono ?_
  rintro e w' ⟨rfl, rfl⟩
  go_wp2_with fail
  refine (Size_c _ H0.out.x).mono ?_
  rintro e w' ⟨rfl, rfl⟩
  go_wp2_with fail
  refine (L_c _ H0.out.x HF.out HN.out).mono ?_
  rintro e W1 hr
  obtain ⟨Al, kl, rfl, hol, hb⟩ := RetMx.liesO hr HEl.out (entries_fin (low_fin HF.out)) (B := w.heap.size + 1) (by simp)
  have N1 := Lib.hid (H0.out.below hb)
  have HR1 := Lib.hid (row_keep hb HR0.out)
  have HL := Lib.hid hol
  clear hr hol hb
  go_wp2_with fail
  refine (U_c _ N1.out.x HF.out HN.out).mono ?_
  rintro e W2 hr
  obtain ⟨Au, ku, rfl, hou, hb⟩ := RetMx.liesO hr HEu.out (entries_fin (upp_fin HF.out)) (B := w.heap.size + 1) (row_lt HR1.out)
  have N2 := Lib.hid (N1.out.below hb)
  have HR2 := Lib.hid (row_keep hb HR1.out)
  have HL2 := Lib.hid (own_below HL.out hb)
  have HU := Lib.hid hou
  clear hr hou hb
  go_wp2_with fail
  refine (Order_c _ N2.out.x HN.out).mono ?_
  rintro e W3 hr
  obtain ⟨Ao, ko, rfl, -, hoo, hb⟩ := hr.lies
  have N3 := Lib.hid (N2.out.below hb)
  have HR3 := Lib.hid (row_keep hb HR2.out)
  have HL3 := Lib.hid (own_below HL2.out hb)
  have HU3 := Lib.hid (own_below HU.out hb)
  have HO3 := Lib.hid (own_base hoo (show w.heap.size + 1 ≤ _ from row_lt HR2.out))
  clear hr hoo hb
  obtain ⟨c0, c1, c2, c3, fr⟩ := box4 HR3.out
  have f0 := fr 0
  have f1 := fr 1
  have f2 := fr 2
  have f3 := fr 3
  clear fr
  go_wp2
  obtain ⟨q0, q1, q2, q3, -⟩ := box4 (set4 (u := .int .i64 (n : Nat)) (v := .slice Al M kl) (s := .slice Au M ku) (t := .slice Ao n ko) HR3.out)
  refine bodyPost_ret (v := .tuple #[.agg #[.int .i64 (n : Nat), .slice Al M kl, .slice Au M ku, .slice Ao n ko], .bool true]) (by simp [results, Try.results84, go_sem, q0, q1, q2, q3]) rfl ?_
  have hlt : w.heap.size < w.heap.size + 1 := Nat.lt_succ_self _
  refine ⟨Al, kl, Au, ku, Ao, ko, by rw [← HMM.out], Reads.of_own (own_set4 HL3.out hlt), Reads.of_own (own_set4 HU3.out hlt), ?_, (((N3.out.bel.setCell (Nat.le_refl _) _).setCell (Nat.le_refl _) _).setCell (Nat.le_refl _) _).setCell (Nat.le_refl _) _⟩
  have h := Reads.of_own (own_set4 (x0 := .int .i64 (n : Nat)) (x1 := .slice Al M kl) (x2 := .slice Au M ku) (x3 := .slice Ao n ko) HO3.out hlt)
  have e : intsV (ordL n S.o) = (List.range n).map fun i => Value.int .i64 (S.o i : Nat) := by simp [ordL, Function.comp_def]
  rw [e]; exact h
/-- What refuses a right side. -/
def bErr (n : Nat) (l : List C) : Int := if l.length = n then (if badAt l < l.length then 5 else 0) else 4
set_option maxHeartbeats 1000000 in
theorem wrong_c (n : Nat) (x1 x2 x3 : Value) (A : Option Addr) (l : List C) (cap : Nat) (w : World) (hlt : ltCs l) (hl : l.length ≤ 4611686018427387904) (hn : n ≤ 64) (hr : Reads w w.heap.size A (nums l)) :
    Calls Try.prog 85 #[.agg #[.int .i64 (n : Nat), x1, x2, x3], .slice A l.length cap] w (RetV (.int .i64 (bErr n l)) w) := by
  have hb0 := below_new w (.cells #[.int .i64 (n : Nat), x1, x2, x3] 107)
  have HB0 := Lib.hid hb0
  have HR := Lib.hid ((hr.below hb0).more hb0.size)
  have HLt := Lib.hid hlt
  have HL := Lib.hid hl
  by_cases h : l.length = n
  · have hne : ((l.length : Int) != (n : Int)) = false := by simp [h]
    have HE := Lib.hid (show bErr n l = if badAt l < l.length then 5 else 0 by unfold bErr; rw [if_pos h])
    have hl64 : l.length ≤ 64 := by omega
    have HL64 := Lib.hid hl64
    clear hlt hl hn hr hb0 h hl64
    go_enter Try.func85, Try.ntmps85
    go_wp2
    go_loopw [14] (fun i wr => ∃ k d : Nat, k ≤ l.length ∧ i = .int .i64 (k : Nat) ∧ (∀ i u, i < k → l[i]? = some u → pFinite u = true) ∧ wr = (w.alloc (.cells #[.int .i64 (n : Nat), x1, x2, x3] 107)).drewN d) (fun i _ => l.length - (intOf i).toNat)
    case atStart => exact ⟨0, 0, Nat.zero_le _, rfl, fun i u h => by omega, rfl⟩
    case round =>
      obtain ⟨k, d, hk, rfl, hall, hwr⟩ := hrel
      have HAll := Lib.hid hall
      have HBw := Lib.hid (show Below w.heap.size w wr by rw [hwr]; exact below_drewN HB0.out d)
      have hrw : Reads wr wr.heap.size A (nums l) := by rw [hwr]; exact HR.out
      have HWr := Lib.hid hwr
      have hkb : (k : Int) + 1 ≤ 65 := by have := HL64.out; omega
      clear hall hwr
      by_cases hlt : k < l.length
      · have hlti : (k : Int) < (l.length : Int) := Int.ofNat_lt.2 hlt
        obtain ⟨z, hz⟩ := some_of_lt hlt
        have hv : (nums l)[k]? = some (.complex .f64 z.1 z.2) := by simp [nums, hz]
        obtain ⟨ad, rfl, had, hcell⟩ := hrw.at_ hv
        have hlz := HLt.out z (List.mem_of_getElem? hz)
        have hfi := Finite_c z.1 z.2 hlz.1 hlz.2 wr
        rw [pFin_cn] at hfi
        have HZ := Lib.hid hz
        have HFi := Lib.hid hfi
        clear hz hv had hlz hfi hrw
        cases hg : pFinite z
        · rw [hg] at HFi
          have hbad : badAt l = k := badAt_of HAll.out HZ.out hg
          have HEE := Lib.hid (show bErr n l = 5 by rw [HE.out, hbad, if_pos hlt])
          clear hbad hg
          go_wp2_with fail
          refine HFi.out.mono ?_
          rintro e w' ⟨d2, rfl, rfl⟩
          go_wp2
          go_ret
          exact ⟨by rw [HEE.out]; rfl, below_drewN HBw.out d2⟩
        · rw [hg] at HFi
          have HG := Lib.hid hg
          clear hg
          go_wp2_with fail
          refine HFi.out.mono ?_
          rintro e w' ⟨d2, rfl, rfl⟩
          go_wp2
          go_roundw
          case rel =>
            refine ⟨k + 1, d + d2, hlt, by go_num, fun i u hi hu => ?_, by rw [HWr.out, World.drewN_drewN]⟩
            by_cases e : i = k
            · subst e
              have := HZ.out.symm.trans hu
              injection this with this
              rw [← this]; exact HG.out
            · exact HAll.out i u (by omega) hu
          case measure => simp [intOf]; omega
      · have e : k = l.length := by omega
        have hfin : ¬ badAt l < l.length := fun hb => by
          have h1 : (!pFinite l[badAt l]) = true := List.findIdx_getElem (w := hb)
          rw [HAll.out (badAt l) _ (by omega) (List.getElem?_eq_getElem hb)] at h1
          cases h1
        have HEE := Lib.hid (show bErr n l = 0 by rw [HE.out, if_neg hfin])
        clear hfin hrw
        go_wp2
        go_ret
        exact ⟨by rw [HEE.out]; rfl, HBw.out⟩
  · have hne : ((l.length : Int) != (n : Int)) = true := by simp; omega
    have HE := Lib.hid (show bErr n l = 4 by unfold bErr; rw [if_neg h])
    clear hlt hl hn hr hb0 h
    go_enter Try.func85, Try.ntmps85
    go_wp2
    go_ret
    exact ⟨by rw [HE.out]; rfl, HB0.out⟩
end Go.Proofs.Ytajdfbjjgjpicaa
