/- Layer 11: once: a better solution: contract. -/
import Derived.Test.YtandllekeimpgaaGreatRf7
import Derived.Test.YtandllekeimpgaaGreatRf6
import Derived.Test.YtandllekeimpgaaGreatRf4
import Derived.Test.YtandllekeimpgaaGreatSV0
import Derived.Test.YtandllekeimpgaaGreatLW3
import Derived.Test.YtandllekeimpgaaGreatMX1
import Derived.Test.YtandllekeimpgaaGreatExt
import Derived.Deep.DeepCutAuto
namespace Go.Proofs.YtandllekeimpgaaGreat
open Go.RowKit Fl Ieee
set_option maxRecDepth 20000
attribute [local go_sem] run_store_float run_store_complex Fl.order_self Fl.order_self' Fl.order_eq Fl.order_ne Fl.order_lt Fl.order_gt
def onceV (n : Nat) (S : El) (r c : Int) (m x b : List C) : List C := vaddL x (solL n S (leftR r c m x b))
def onceE (n : Nat) (S : El) (r c : Int) (m x b : List C) : Int :=
  if r = n ∧ c = n then (if leftE r c m x b = 0 then (if solOk n S (leftR r c m x b) then (if (onceV n S r c m x b).all pFinite then 0 else 6) else 6) else leftE r c m x b) else 4
def onceR (n : Nat) (S : El) (r c : Int) (m x b : List C) : List C := if onceE n S r c m x b = 0 then onceV n S r c m x b else []
/-- What is known of a list that is left: so many finite numbers. -/
theorem leftR_ok {r c : Int} {m x b : List C} (h : leftE r c m x b = 0) : (x.length : Int) = c ∧ (b.length : Int) = r ∧ ((leftR r c m x b).length : Int) = r ∧ (leftR r c m x b).all pFinite = true ∧ x.all pFinite = true := by
  have h' := h
  unfold leftE at h'
  by_cases hs : shape11 r c m x b = true
  · rw [if_pos hs] at h'
    by_cases hn : num11 m x b = true
    · rw [if_pos hn] at h'
      by_cases hf : (leftL r.toNat c.toNat m x b).all pFinite = true
      · have e : leftR r c m x b = leftL r.toNat c.toNat m x b := by unfold leftR; rw [if_pos h]
        unfold shape11 at hs
        simp only [Bool.and_eq_true, decide_eq_true_eq] at hs
        unfold num11 at hn
        simp only [Bool.and_eq_true] at hn
        obtain ⟨k1, _⟩ := okM_iff.1 hs.1.1
        refine ⟨hs.1.2, hs.2, ?_, by rw [e]; exact hf, hn.1.2⟩
        rw [e]; unfold leftL
        rw [List.length_map, List.length_range]; omega
      · rw [if_neg hf] at h'; cases h'
    · rw [if_neg hn] at h'; cases h'
  · rw [if_neg hs] at h'; cases h'
theorem lt_of_fin {l : List C} (h : ∀ z ∈ l, ltC z) : ltCs l := h
structure OnI (w W0 V : World) (r c : Int) (A Ax Ab : Option Addr) (m x b : List C) (cap B e n : Nat) (S : El) : Prop where
  box : V.heap[w.heap.size]? = some (.cells #[.int .i64 r, .int .i64 c, .slice A m.length cap] 27)
  bel : Below w.heap.size w V
  b0 : Below W0.heap.size W0 V
  rm : Reads V V.heap.size A (nums m)
  rx : Reads V V.heap.size Ax (nums x)
  rb : Reads V V.heap.size Ab (nums b)
  h9 : Has9 V B e n S
theorem OnI.below {w W0 V V' : World} {r c : Int} {A Ax Ab : Option Addr} {m x b : List C} {cap B e n : Nat} {S : El} (h : OnI w W0 V r c A Ax Ab m x b cap B e n S) (hb : Below V.heap.size V V') (hl : w.heap.size < V.heap.size) : OnI w W0 V' r c A Ax Ab m x b cap B e n S :=
  ⟨by rw [hb.block _ hl]; exact h.box, h.bel.trans (hb.mono h.bel.size), h.b0.trans (hb.mono h.b0.size), (h.rm.below hb).more hb.size, (h.rx.below hb).more hb.size, (h.rb.below hb).more hb.size, h.h9.below hb⟩
theorem OnI.lt {w W0 V : World} {r c : Int} {A Ax Ab : Option Addr} {m x b : List C} {cap B e n : Nat} {S : El} (h : OnI w W0 V r c A Ax Ab m x b cap B e n S) : w.heap.size < V.heap.size := by
  rcases Nat.lt_or_ge w.heap.size V.heap.size with h1 | h1
  · exact h1
  · have := h.box; rw [Array.getElem?_eq_none h1] at this; cases this
theorem leftR_lt (r c : Int) (m x b : List C) : ltCs (leftR r c m x b) := by
  intro z hz
  unfold leftR at hz
  split at hz
  · unfold leftL at hz
    obtain ⟨i, -, rfl⟩ := List.mem_map.1 hz
    exact ⟨fadd_lt _ _, fadd_lt _ _⟩
  · cases hz
theorem Once_c {B e n : Nat} {S : El} (r c : Int) (A Ax Ab : Option Addr) (m x b : List C) (cap cx cb : Nat) (w : World) (h9 : Has9 w B e n S) (hf : finTo S.E n) (hp : Perm n S.o) (hn : n ≤ 64) (hcap : m.length ≤ cap) (hcx : x.length ≤ cx) (hcb : b.length ≤ cb) (lm : ltCs m) (lx : ltCs x) (lb : ltCs b)
    (rm : Reads w w.heap.size A (nums m)) (rx : Reads w w.heap.size Ax (nums x)) (rb : Reads w w.heap.size Ab (nums b)) :
    Calls Tryz.prog 9 #[mval r c (.slice A m.length cap), .pointer (some ⟨e, 0, none⟩), .slice Ax x.length cx, .slice Ab b.length cb] w (RetLf (onceR n S r c m x b) (onceE n S r c m x b) w) := by
  obtain ⟨W0, hW0⟩ : ∃ W0, W0 = w.alloc (.cells #[.int .i64 r, .int .i64 c, .slice A m.length cap] 27) := ⟨_, rfl⟩
  have hb0 : Below w.heap.size w W0 := by rw [hW0]; exact below_new _ _
  have HI0 := Lib.hid (show OnI w W0 W0 r c A Ax Ab m x b cap B e n S from ⟨by rw [hW0]; exact heap_alloc_new _ _, hb0, Below.refl _ _, (rm.below hb0).more hb0.size, (rx.below hb0).more hb0.size, (rb.below hb0).more hb0.size, h9.below hb0⟩)
  have HW := Lib.hid hW0
  have HFi := Lib.hid (fits_c r c (.slice A m.length cap) W0 HI0.out.h9)
  obtain ⟨fe, hfe⟩ : ∃ fe : Int, fe = if r = n ∧ c = n then 0 else 4 := ⟨_, rfl⟩
  rw [← hfe] at HFi
  obtain ⟨OE, hOE⟩ : ∃ OE, OE = onceE n S r c m x b := ⟨_, rfl⟩
  obtain ⟨OR, hOR⟩ : ∃ OR, OR = onceR n S r c m x b := ⟨_, rfl⟩
  rw [← hOE, ← hOR]
  have HO := Lib.hid (And.intro hOE hOR)
  have HLe := Lib.hid (fun (V : World) (hV : OnI w W0 V r c A Ax Ab m x b cap B e n S) => Left_c r c A Ax Ab m x b cap cx cb V hcap hcx hcb lm lx lb hV.rm hV.rx hV.rb)
  obtain ⟨LE, hLE⟩ : ∃ LE, LE = leftE r c m x b := ⟨_, rfl⟩
  obtain ⟨LR, hLR⟩ : ∃ LR, LR = leftR r c m x b := ⟨_, rfl⟩
  rw [← hLE, ← hLR] at HLe
  have HL := Lib.hid (And.intro hLE hLR)
  have HFe := Lib.hid hfe
  have HF := Lib.hid (And.intro hf (And.intro hp lx))
  clear hW0 hb0 rm rx rb h9 hfe hOE hOR hLE hLR lm lx lb hf hp hcap hcx hcb
  obtain ⟨Mn, hMn⟩ : ∃ Mn, Mn = m.length := ⟨_, rfl⟩
  have HMn := Lib.hid hMn
  rw [← hMn] at HW HFi HLe ⊢
  clear hMn
  go_enter Tryz.func9, Tryz.ntmps9
  go_upto_region 1 with fail
  rw [← HW.out]
  clear HW
  obtain ⟨c0, c1, c2, -⟩ := box3 HI0.out.box
  rw [← HMn.out] at c2
  go_wp2_with fail
  refine (HFi.out).mono ?_
  rintro e1 W1 ⟨rfl, hb1⟩
  have HI1 := Lib.hid (HI0.out.below hb1 HI0.out.lt)
  obtain ⟨d0, d1, d2, -⟩ := box3 HI1.out.box
  rw [← HMn.out] at d2
  clear hb1 c0 c1 c2 HFi HI0
  by_cases hrc : r = n ∧ c = n
  · have hfe : fe = 0 := by rw [HFe.out, if_pos hrc]
    have HRc := Lib.hid hrc
    subst hfe
    clear hrc HFe
    go_wp2_with fail
    refine (HLe.out W1 HI1.out).mono ?_
    rintro e2 W2 ⟨s2, rfl, hown, hb2⟩
    have HI2 := Lib.hid (HI1.out.below hb2 HI1.out.lt)
    obtain ⟨A2, k2, rfl, hr2, -, -⟩ := own_readsT hown
    have HR2 := Lib.hid hr2
    clear hown hb2 hr2 d0 d1 d2 HI1 HLe
    by_cases hle : LE = 0
    · have hle' : (LE != 0) = false := by simp [hle]
      obtain ⟨g1, g2, g3, g4, g5⟩ := leftR_ok (HL.out.1 ▸ hle)
      rw [← HL.out.2] at g3 g4
      have hl2 : LR.length = n := by have := HRc.out.1; omega
      have hlx : x.length = n := by have := HRc.out.2; omega
      have HSo := Lib.hid (Solve_run A2 LR k2 W2 HI2.out.h9 HF.out.1 HF.out.2.1 hn hl2 (List.all_eq_true.1 g4) (by rw [HL.out.2]; exact leftR_lt _ _ _ _ _) HR2.out)
      obtain ⟨ok, hok⟩ : ∃ ok, ok = solOk n S LR := ⟨_, rfl⟩
      rw [← hok] at HSo
      have HOk := Lib.hid hok
      have HLe0 := Lib.hid (And.intro hle (And.intro hl2 hlx))
      clear g1 g2 g3 g4 g5 hle hok hl2 hlx
      go_wp2_with fail
      refine HSo.out.mono ?_
      rintro e3 W3 ⟨s3, rfl, hown, hb3⟩
      have HI3 := Lib.hid (HI2.out.below hb3 HI2.out.lt)
      cases ok
      · have HOe := Lib.hid (show OE = 6 ∧ OR = [] by
          have e1 : OE = 6 := by rw [HO.out.1]; unfold onceE; rw [if_pos HRc.out, if_pos (by rw [← HL.out.1]; exact HLe0.out.1), if_neg (by rw [← HL.out.2, ← HOk.out]; decide)]
          refine ⟨e1, ?_⟩
          rw [HO.out.2]; unfold onceR; rw [← HO.out.1, e1]; rfl)
        clear hown hb3
        go_wp2
        go_ret2
        refine ⟨_, by rw [HOe.out.1]; rfl, ?_, HI3.out.bel⟩
        rw [HOe.out.2]
        exact World.ownsRow_nil _ _ _ _
      · obtain ⟨DL, hDL⟩ : ∃ DL, DL = solL n S LR := ⟨_, rfl⟩
        rw [if_pos rfl] at hown
        rw [← hDL] at hown
        have hdl : DL.length = n := by rw [hDL]; simp [solL]
        obtain ⟨A3, k3, rfl, hr3, -, -⟩ := own_readsT hown
        have HAd := Lib.hid (vAdd_c Ax A3 x DL cx k3 n W3 hn HLe0.out.2.2 hdl HI3.out.rx hr3)
        rw [hdl]
        have HDl := Lib.hid hDL
        have hlx2 := HLe0.out.2.2
        rw [hlx2]
        clear hown hb3 hr3 hDL hdl hlx2 HSo
        go_wp2_with fail
        refine HAd.out.mono ?_
        rintro e4 W4 ⟨s4, zs, rfl, hz, hzl, hown, hb4⟩
        have HI4 := Lib.hid (HI3.out.below hb4 HI3.out.lt)
        obtain ⟨A4, k4, rfl, hr4, -, -⟩ := own_readsT hown
        have hzn : zs.length = n := by
          have h1 := congrArg List.length hz
          rw [List.length_map] at h1
          rw [h1]; unfold vaddL
          rw [List.length_zipWith, HLe0.out.2.2, HDl.out]
          simp [solL]
        have hvl : (vaddL x DL).length = n := by rw [← hz, List.length_map, hzn]
        rw [hvl] at hown ⊢
        have HFz := Lib.hid (finite11_c A4 zs k4 W4 hzl (by omega) hr4)
        rw [hzn, all_fin_cn hz] at HFz
        have HZs := Lib.hid (And.intro hz hzn)
        obtain ⟨okf, hokf⟩ : ∃ okf, okf = (vaddL x DL).all pFinite := ⟨_, rfl⟩
        rw [← hokf] at HFz
        have HKf := Lib.hid hokf
        have HOw := Lib.hid hown
        clear hz hzl hzn hvl hown hb4 hr4 hokf HAd
        go_wp2_with fail
        refine HFz.out.mono ?_
        rintro e5 W5 ⟨d5, rfl, rfl⟩
        have HI5 := Lib.hid (HI4.out.below (below_drewN (Below.refl _ _) d5) HI4.out.lt)
        have hv : onceV n S r c m x b = vaddL x DL := by unfold onceV; rw [HDl.out, HL.out.2]
        cases okf
        · have HOe := Lib.hid (show OE = 6 ∧ OR = [] by
            have e1 : OE = 6 := by rw [HO.out.1]; unfold onceE; rw [if_pos HRc.out, if_pos (by rw [← HL.out.1]; exact HLe0.out.1), if_pos (by rw [← HL.out.2, ← HOk.out]), hv, ← HKf.out]; rfl
            refine ⟨e1, ?_⟩
            rw [HO.out.2]; unfold onceR; rw [← HO.out.1, e1]; rfl)
          clear hv
          go_wp2
          go_ret2
          refine ⟨.slice none 0 0, by rw [HOe.out.1]; rfl, ?_, HI5.out.bel⟩
          rw [HOe.out.2]
          exact World.ownsRow_nil _ _ _ _
        · have HOe := Lib.hid (show OE = 0 ∧ OR = vaddL x DL by
            have e1 : OE = 0 := by rw [HO.out.1]; unfold onceE; rw [if_pos HRc.out, if_pos (by rw [← HL.out.1]; exact HLe0.out.1), if_pos (by rw [← HL.out.2, ← HOk.out]), hv, ← HKf.out]; rfl
            refine ⟨e1, ?_⟩
            rw [HO.out.2]; unfold onceR; rw [← HO.out.1, e1, hv]; rfl)
          have HEx := Lib.hid (fin_exact HZs.out.1 (by rw [all_fin_cn HZs.out.1, ← HKf.out]))
          clear hv
          go_wp2
          go_ret2
          refine ⟨_, by rw [HOe.out.1]; rfl, ?_, HI5.out.bel⟩
          rw [HOe.out.2, ← HEx.out, HZs.out.2]
          exact own_base (own_below HOw.out (below_drewN (Below.refl _ _) d5)) HI3.out.bel.size
    · have hle' : (LE != 0) = true := by simp [hle]
      have HOe := Lib.hid (show OE = LE ∧ OR = [] by
        have e1 : OE = LE := by rw [HO.out.1]; unfold onceE; rw [if_pos HRc.out, if_neg (by rw [← HL.out.1]; exact hle), HL.out.1]
        refine ⟨e1, ?_⟩
        rw [HO.out.2]; unfold onceR; rw [← HO.out.1, e1, if_neg hle])
      clear hle
      go_wp2
      go_ret2
      refine ⟨.slice none 0 0, by rw [HOe.out.1]; rfl, ?_, HI2.out.bel⟩
      rw [HOe.out.2]
      exact World.ownsRow_nil _ _ _ _
  · have hfe : fe = 4 := by rw [HFe.out, if_neg hrc]
    subst hfe
    have HOe := Lib.hid (show OE = 4 ∧ OR = [] by
      have e1 : OE = 4 := by rw [HO.out.1]; unfold onceE; rw [if_neg hrc]
      refine ⟨e1, ?_⟩
      rw [HO.out.2]; unfold onceR; rw [← HO.out.1, e1]; rfl)
    clear hrc HFe
    go_wp2
    go_ret2
    refine ⟨.slice none 0 0, by rw [HOe.out.1]; rfl, ?_, HI1.out.bel⟩
    rw [HOe.out.2]
    exact World.ownsRow_nil _ _ _ _
end Go.Proofs.YtandllekeimpgaaGreat
