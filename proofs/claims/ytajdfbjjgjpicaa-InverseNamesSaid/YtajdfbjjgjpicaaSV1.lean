/- Layer 10: a number less a product, a quotient, and whether what is stored is finite. -/
import Derived.Test.YtajdfbjjgjpicaaMX1
import Derived.Test.YtajdfbjjgjpicaaSV0
import Derived.Test.YtajdfbjjgjpicaaParts2
namespace Go.Proofs.Ytajdfbjjgjpicaa
open Go.RowKit Fl Ieee
set_option maxRecDepth 20000
attribute [local go_sem] run_store_float run_store_complex
/-- A number is handed back, and whether it is finite is kept. -/
def RetLk (b : Nat) (f : Bool) (v : C) (w : World) (e : Ending) (w' : World) : Prop :=
  ∃ (z : C) (d : Nat), e = .returned (.complex .f64 z.1 z.2) ∧ cnC z = v ∧ ltC z ∧ w' = (w.drewN d).setCell ⟨b, 0, none⟩ (.bool (f || !pFinite v))
theorem less_c (b : Nat) (f : Bool) (s a t : C) (w : World) (hb : w.heap[b]? = some (.cells #[.bool f] 113)) :
    Calls Try.prog 86 #[.pointer (some ⟨b, 0, none⟩), .complex .f64 s.1 s.2, .complex .f64 a.1 a.2, .complex .f64 t.1 t.2] w (RetLk b f (pSub (cnC s) (pMul (cnC a) (cnC t))) w) := by
  obtain ⟨c0, fr⟩ : w.cell? ⟨b, 0, none⟩ = some (.bool f) ∧ w.frozen? ⟨b, 0, none⟩ = false := ⟨by rw [cell_of_row w b 0 _ _ _ hb]; rfl, frozen_of_row w b 0 _ _ hb⟩
  have HM := Lib.hid (fun V => Mul_c a.1 a.2 t.1 t.2 V)
  have HS := Lib.hid (fun (m : C) V => Sub_c s.1 s.2 m.1 m.2 V)
  clear hb
  go_enter Try.func86, Try.ntmps86
  go_wp2_with fail
  refine (HM.out _).mono ?_
  rintro e w' ⟨x, y, n, rfl, hv, hx, hy, rfl⟩
  have HV := Lib.hid hv
  have HSm := Lib.hid (HS.out (x, y))
  clear hv
  go_wp2_with fail
  refine (HSm.out _).mono ?_
  rintro e w' ⟨p, q, m, rfl, hv2, hp, hq, rfl⟩
  have hz : cnC (p, q) = pSub (cnC s) (pMul (cnC a) (cnC t)) := by
    have h := hv2
    rw [show (cn .f64 (x, y).1, cn .f64 (x, y).2) = pMul (cnC a) (cnC t) from HV.out] at h
    exact h
  have HZ := Lib.hid hz
  have hfi := Finite_c p q hp hq
  rw [show (cn .f64 p, cn .f64 q) = pSub (cnC s) (pMul (cnC a) (cnC t)) from hz] at hfi
  have HFi := Lib.hid hfi
  obtain ⟨g, hg⟩ : ∃ g, g = pFinite (pSub (cnC s) (pMul (cnC a) (cnC t))) := ⟨_, rfl⟩
  rw [← hg] at HFi
  have HG := Lib.hid hg
  clear hv2 hz hfi hg
  cases f
  · go_wp2_with fail
    refine (HFi.out _).mono ?_
    rintro e w' ⟨d, rfl, rfl⟩
    go_wp2
    go_ret
    exact ⟨(p, q), _, rfl, HZ.out, ⟨hp, hq⟩, by rw [← HG.out]; rfl⟩
  · go_wp2
    go_ret
    exact ⟨(p, q), _, rfl, HZ.out, ⟨hp, hq⟩, by rw [← HG.out]; rfl⟩
theorem by_c (b : Nat) (f : Bool) (s a : C) (w : World) (hb : w.heap[b]? = some (.cells #[.bool f] 113)) (ha : ltC a) :
    Calls Try.prog 87 #[.pointer (some ⟨b, 0, none⟩), .complex .f64 s.1 s.2, .complex .f64 a.1 a.2] w (RetLk b f (pDiv (cnC s) (cnC a)) w) := by
  obtain ⟨c0, fr⟩ : w.cell? ⟨b, 0, none⟩ = some (.bool f) ∧ w.frozen? ⟨b, 0, none⟩ = false := ⟨by rw [cell_of_row w b 0 _ _ _ hb]; rfl, frozen_of_row w b 0 _ _ hb⟩
  have HD := Lib.hid (fun V => Div_c s.1 s.2 a.1 a.2 ha.1 ha.2 V)
  clear hb ha
  go_enter Try.func87, Try.ntmps87
  go_wp2_with fail
  refine (HD.out _).mono ?_
  rintro e w' ⟨p, q, m, rfl, hv2, hp, hq, rfl⟩
  have HZ := Lib.hid (show cnC (p, q) = pDiv (cnC s) (cnC a) from hv2)
  have hfi := Finite_c p q hp hq
  rw [show (cn .f64 p, cn .f64 q) = pDiv (cnC s) (cnC a) from hv2] at hfi
  have HFi := Lib.hid hfi
  obtain ⟨g, hg⟩ : ∃ g, g = pFinite (pDiv (cnC s) (cnC a)) := ⟨_, rfl⟩
  rw [← hg] at HFi
  have HG := Lib.hid hg
  clear hv2 hfi hg
  cases f
  · go_wp2_with fail
    refine (HFi.out _).mono ?_
    rintro e w' ⟨d, rfl, rfl⟩
    go_wp2
    go_ret
    exact ⟨(p, q), _, rfl, HZ.out, ⟨hp, hq⟩, by rw [← HG.out]; rfl⟩
  · go_wp2
    go_ret
    exact ⟨(p, q), _, rfl, HZ.out, ⟨hp, hq⟩, by rw [← HG.out]; rfl⟩
end Go.Proofs.Ytajdfbjjgjpicaa
