/- The document's layer 10: a number less a product, over a number, what refuses a right side. -/
import Derived.Test.YtandllekeimpgaaGreatRC3
import Derived.Test.YtandllekeimpgaaGreatSV0
import Derived.Test.YtandllekeimpgaaGreatRM1
namespace Go.Proofs.YtandllekeimpgaaGreat
open Go.RowKit Fl Ieee
set_option maxRecDepth 20000
attribute [local go_sem] run_store_float run_store_complex
/-- A number is handed back, and whether all is finite is kept. -/
def RetLr (b : Nat) (f : Bool) (v : C) (w : World) (e : Ending) (w' : World) : Prop :=
  ∃ (z : C) (d : Nat), e = .returned (.complex .f64 z.1 z.2) ∧ cnC z = v ∧ ltC z ∧ w' = (w.drewN d).setCell ⟨b, 0, none⟩ (.bool (f && pFinite v))
theorem rless_c (b : Nat) (f : Bool) (s a t : C) (w : World) (hb : w.heap[b]? = some (.cells #[.bool f] 4)) :
    Calls Tryz.prog 70 #[.complex .f64 s.1 s.2, .complex .f64 a.1 a.2, .complex .f64 t.1 t.2, .pointer (some ⟨b, 0, none⟩)] w (RetLr b f (pSub (cnC s) (pMul (cnC a) (cnC t))) w) := by
  obtain ⟨c0, fr⟩ : w.cell? ⟨b, 0, none⟩ = some (.bool f) ∧ w.frozen? ⟨b, 0, none⟩ = false := ⟨by rw [cell_of_row w b 0 _ _ _ hb]; rfl, frozen_of_row w b 0 _ _ hb⟩
  have HM := Lib.hid (fun V => rMul_c a.1 a.2 t.1 t.2 V)
  have HS := Lib.hid (fun (m : C) V => rSub_c s.1 s.2 m.1 m.2 V)
  clear hb
  go_enter Tryz.func70, Tryz.ntmps70
  go_wp2_with fail
  refine (HM.out _).mono ?_
  rintro e w' ⟨x, y, n, rfl, hv, hx, hy, rfl⟩
  have HV := Lib.hid hv
  have HSm := Lib.hid (HS.out (x, y))
  clear hv
  go_wp2_with fail
  refine (HSm.out _).mono ?_
  rintro e w' ⟨p, q, m, rfl, hv2, hp, hq, rfl⟩
  have hz : cnC (p, q) = pSub (cnC s) (pMul (cnC a) (cnC t)) := by
    have h := hv2
    rw [show (cn .f64 (x, y).1, cn .f64 (x, y).2) = pMul (cnC a) (cnC t) from HV.out] at h
    exact h
  have HZ := Lib.hid hz
  have hfi := rFinite_c p q hp hq
  rw [show (cn .f64 p, cn .f64 q) = pSub (cnC s) (pMul (cnC a) (cnC t)) from hz] at hfi
  have HFi := Lib.hid hfi
  obtain ⟨g, hg⟩ : ∃ g, g = pFinite (pSub (cnC s) (pMul (cnC a) (cnC t))) := ⟨_, rfl⟩
  rw [← hg] at HFi
  have HG := Lib.hid hg
  clear hv2 hz hfi hg
  cases f
  · go_wp2
    go_ret
    exact ⟨(p, q), _, rfl, HZ.out, ⟨hp, hq⟩, by rw [← HG.out]; rfl⟩
  · go_wp2_with fail
    refine (HFi.out _).mono ?_
    rintro e w' ⟨d, rfl, rfl⟩
    go_wp2
    go_ret
    exact ⟨(p, q), _, rfl, HZ.out, ⟨hp, hq⟩, by rw [← HG.out]; rfl⟩
theorem rover_c (b : Nat) (f : Bool) (s a : C) (w : World) (hb : w.heap[b]? = some (.cells #[.bool f] 4)) (ha : ltC a) :
    Calls Tryz.prog 72 #[.complex .f64 s.1 s.2, .complex .f64 a.1 a.2, .pointer (some ⟨b, 0, none⟩)] w (RetLr b f (pDiv (cnC s) (cnC a)) w) := by
  obtain ⟨c0, fr⟩ : w.cell? ⟨b, 0, none⟩ = some (.bool f) ∧ w.frozen? ⟨b, 0, none⟩ = false := ⟨by rw [cell_of_row w b 0 _ _ _ hb]; rfl, frozen_of_row w b 0 _ _ hb⟩
  have HD := Lib.hid (fun V => rDiv_c s.1 s.2 a.1 a.2 ha.1 ha.2 V)
  clear hb ha
  go_enter Tryz.func72, Tryz.ntmps72
  go_wp2_with fail
  refine (HD.out _).mono ?_
  rintro e w' ⟨p, q, m, rfl, hv2, hp, hq, rfl⟩
  have HZ := Lib.hid (show cnC (p, q) = pDiv (cnC s) (cnC a) from hv2)
  have hfi := rFinite_c p q hp hq
  rw [show (cn .f64 p, cn .f64 q) = pDiv (cnC s) (cnC a) from hv2] at hfi
  have HFi := Lib.hid hfi
  obtain ⟨g, hg⟩ : ∃ g, g = pFinite (pDiv (cnC s) (cnC a)) := ⟨_, rfl⟩
  rw [← hg] at HFi
  have HG := Lib.hid hg
  clear hv2 hfi hg
  cases f
  · go_wp2
    go_ret
    exact ⟨(p, q), _, rfl, HZ.out, ⟨hp, hq⟩, by rw [← HG.out]; rfl⟩
  · go_wp2_with fail
    refine (HFi.out _).mono ?_
    rintro e w' ⟨d, rfl, rfl⟩
    go_wp2
    go_ret
    exact ⟨(p, q), _, rfl, HZ.out, ⟨hp, hq⟩, by rw [← HG.out]; rfl⟩
theorem rfirst_nil (s : Value) (w : World) : Calls Tryz.prog 66 #[.pointer none, s] w (RetV (.int .i64 1) w) := by
  go_enter Tryz.func66, Tryz.ntmps66
  go_wp2
  go_ret
  exact ⟨rfl, Below.refl _ _⟩
theorem rfirst_c {B b n : Nat} {S : El} {ti : Bool} (A : Option Addr) (l : List C) (cap : Nat) (w : World) (h : rHas w B b n S ti) (hlt : ltCs l) (hl : l.length ≤ 4611686018427387904) (hn : n ≤ 64) (hr : Reads w w.heap.size A (nums l)) :
    Calls Tryz.prog 66 #[.pointer (some ⟨b, 0, none⟩), .slice A l.length cap] w (RetV (.int .i64 (bErr n l)) w) := by
  obtain ⟨er, her⟩ : ∃ er, er = bErr n l := ⟨_, rfl⟩
  rw [← her]
  have HEr := Lib.hid her
  obtain ⟨-, -, -, -, -, -, -, -, c5⟩ := h.cells
  have HSz := Lib.hid (rSize_c w h)
  have HR := Lib.hid hr
  have HLt := Lib.hid hlt
  have hlb : (l.length : Int) ≤ 4611686018427387904 := by omega
  clear h hlt hr her
  go_enter Tryz.func66, Tryz.ntmps66
  go_wp2_with fail
  refine HSz.out.mono ?_
  rintro e w' ⟨rfl, rfl⟩
  by_cases hne : l.length = n
  · subst hne
    have hee : ((l.length : Int) == (l.length : Int)) = true := by simp
    go_wp2
    go_loopw [5] (fun i wr => ∃ k d : Nat, k ≤ l.length ∧ i = .int .i64 (k : Nat) ∧ Hid (∀ i u, i < k → l[i]? = some u → pFinite u = true) ∧ wr = w.drewN d) (fun i _ => l.length - (intOf i).toNat)
    case atStart => exact ⟨0, 0, Nat.zero_le _, rfl, Lib.hid (fun i u h => by omega), rfl⟩
    case round =>
      obtain ⟨k, d, hk, rfl, hf, rfl⟩ := hrel
      by_cases hlt : k < l.length
      · have hlti : (k : Int) < (l.length : Int) := Int.ofNat_lt.2 hlt
        obtain ⟨u, hu⟩ := some_of_lt hlt
        have hv : (nums l)[k]? = some (.complex .f64 u.1 u.2) := by simp [nums, hu]
        obtain ⟨ad, rfl, -, hc⟩ := HR.out.at_ hv
        have hcd : (w.drewN d).cell? (ad.add k) = some (.complex .f64 u.1 u.2) := hc
        obtain ⟨W, hW⟩ : ∃ W, W = w.drewN d := ⟨_, rfl⟩
        have HW := Lib.hid hW
        have HU := Lib.hid hu
        have hlu := HLt.out u (List.mem_of_getElem? hu)
        have HFi := Lib.hid (rFinite_c u.1 u.2 hlu.1 hlu.2 W)
        obtain ⟨g, hg⟩ : ∃ g, g = pFinite (cn .f64 u.1, cn .f64 u.2) := ⟨_, rfl⟩
        rw [← hg] at HFi
        have HG := Lib.hid (hg.trans (pFin_cn u))
        rw [← hW] at hcd ⊢
        clear hv hc hu hlu hg hW
        go_wp2_with fail
        refine HFi.out.mono ?_
        rintro e w' ⟨d', rfl, rfl⟩
        cases g
        · go_wp2
          go_ret
          refine ⟨?_, by rw [HW.out]; exact below_drewN (below_drewN (Below.refl _ _) _) _⟩
          rw [HEr.out]
          unfold bErr
          rw [if_pos rfl, if_pos (by rw [badAt_of hf.out HU.out HG.out.symm]; exact hlt)]
          rfl
        · go_wp2
          go_roundw
          case rel =>
            refine ⟨k + 1, d + d', hlt, by go_num, Lib.hid fun i v hi hv => ?_, by rw [HW.out, World.drewN_drewN]⟩
            by_cases e : i = k
            · subst e
              have : u = v := Option.some.inj (HU.out.symm.trans hv)
              rw [← this]; exact HG.out.symm
            · exact hf.out i v (by omega) hv
          case measure => simp [intOf]; omega
      · have e : k = l.length := by omega
        subst e
        go_wp2
        go_ret
        refine ⟨?_, below_drewN (Below.refl _ _) _⟩
        rw [HEr.out]
        unfold bErr
        rw [if_pos rfl, if_neg fun hb => by
          have h1 : (!pFinite l[badAt l]) = true := List.findIdx_getElem (w := hb)
          rw [hf.out _ _ hb (List.getElem?_eq_getElem hb)] at h1
          cases h1]
        rfl
  · have hnn : ((l.length : Int) == (n : Int)) = false := by simp; omega
    go_wp2
    go_ret
    refine ⟨?_, Below.refl _ _⟩
    rw [HEr.out]
    unfold bErr
    rw [if_neg hne]
    rfl
end Go.Proofs.YtandllekeimpgaaGreat
