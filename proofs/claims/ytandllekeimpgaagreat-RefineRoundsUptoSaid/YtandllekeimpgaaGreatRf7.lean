/- Layer 11: once: a better solution. -/
import Derived.Test.YtandllekeimpgaaGreatRf6
import Derived.Test.YtandllekeimpgaaGreatRf4
import Derived.Test.YtandllekeimpgaaGreatSV0
import Derived.Test.YtandllekeimpgaaGreatLW3
import Derived.Test.YtandllekeimpgaaGreatMX1
import Derived.Test.YtandllekeimpgaaGreatExt
import Derived.Deep.DeepCutAuto
import Derived.Deep.QuietTactic
namespace Go.Proofs.YtandllekeimpgaaGreat
open Go.RowKit Fl Ieee
set_option maxRecDepth 20000
attribute [local go_sem] run_store_float run_store_complex Fl.order_self Fl.order_self' Fl.order_eq Fl.order_ne Fl.order_lt Fl.order_gt
theorem sg_ne (s : Bool) : (sgI s == 0) = false := by cases s <;> rfl
theorem RetP.quiet {P : Program} {f : FuncId} {args : Array Value} {w : World} {n : Nat} {v : Value} (h : Calls P f args (w.drewN n) (RetP v (w.drewN n))) : Calls P f args (w.drewN n) fun e w'' => e = .returned v ∧ ∃ m, w'' = w.drewN m :=
  Calls.quiet_of_same (h.mono fun _ _ ⟨he, hw⟩ => ⟨he, hw.symm⟩)
theorem fits_c {B b n : Nat} {S : El} (r c : Int) (s : Value) (w : World) (h : Has9 w B b n S) :
    Calls Tryz.prog 28 #[mval r c s, .pointer (some ⟨b, 0, none⟩)] w (RetV (.int .i64 (if r = n ∧ c = n then 0 else 4)) w) := by
  obtain ⟨W0, hW0⟩ : ∃ W0, W0 = w.alloc (.cells #[.int .i64 r, .int .i64 c, s] 27) := ⟨_, rfl⟩
  have hrow : W0.heap[w.heap.size]? = some (.cells #[.int .i64 r, .int .i64 c, s] 27) := by rw [hW0]; exact heap_alloc_new _ _
  have hb0 : Below w.heap.size w W0 := by rw [hW0]; exact below_new _ _
  have HB0 := Lib.hid hb0
  have H0 := Lib.hid (h.below hb0)
  have HRow := Lib.hid hrow
  have HW := Lib.hid hW0
  have HSg := Lib.hid (Sign_c W0 H0.out)
  obtain ⟨sg, hsg⟩ : ∃ sg, sg = sgI S.s := ⟨_, rfl⟩
  rw [← hsg] at HSg
  have hs1 : (sg == 0) = false := by rw [hsg]; exact sg_ne _
  have HSz := Lib.hid (fun D => Size_c (W0.drewN D) (H0.out.below (below_drewN (Below.refl _ _) D)))
  obtain ⟨res, hres⟩ : ∃ res : Int, res = if r = n ∧ c = n then 0 else 4 := ⟨_, rfl⟩
  rw [← hres]
  have HRes := Lib.hid hres
  clear hW0 hrow hb0 h hsg hres
  go_enter Tryz.func28, Tryz.ntmps28
  go_upto_region 1 with fail
  rw [← HW.out]
  clear HW
  go_wp2_with fail
  refine HSg.out.mono ?_
  rintro e W1 ⟨rfl, rfl⟩
  obtain ⟨c0, c1, c2, -⟩ := box3 HRow.out
  have c0' : ∀ D, (W0.drewN D).cell? ⟨w.heap.size, 0, none⟩ = some (.int .i64 r) := fun _ => c0
  have c1' : ∀ D, (W0.drewN D).cell? ⟨w.heap.size, 1, none⟩ = some (.int .i64 c) := fun _ => c1
  clear c0 c1 c2 HSg HRow
  go_upto_region 3 with fail
  by_cases h1 : r = n
  · have h1' : (r != (n : Int)) = false := by simp [h1]
    by_cases h2 : c = n
    · have h2' : (c != (n : Int)) = false := by simp [h2]
      have HE := Lib.hid (show res = 0 by rw [HRes.out, if_pos ⟨h1, h2⟩])
      clear h1 h2 HRes
      go_quiet (first | (go_at_call 55; with_reducible exact RetP.quiet (HSz.out _)))
      go_wp2
      go_ret
      exact ⟨ret_int (by rw [HE.out]), below_drewN HB0.out _⟩
    · have h2' : (c != (n : Int)) = true := by simp [h2]
      have HE := Lib.hid (show res = 4 by rw [HRes.out, if_neg (fun h => h2 h.2)])
      clear h1 h2 HRes
      go_quiet (first | (go_at_call 55; with_reducible exact RetP.quiet (HSz.out _)))
      go_wp2
      go_ret
      exact ⟨ret_int (by rw [HE.out]), below_drewN HB0.out _⟩
  · have h1' : (r != (n : Int)) = true := by simp [h1]
    have HE := Lib.hid (show res = 4 by rw [HRes.out, if_neg (fun h => h1 h.1)])
    clear h1 HRes
    go_quiet (first | (go_at_call 55; with_reducible exact RetP.quiet (HSz.out _)))
    go_wp2
    go_ret
    exact ⟨ret_int (by rw [HE.out]), below_drewN HB0.out _⟩
theorem fits_no (r c : Int) (s v : Value) (w : World) (h : NoneV w v) :
    Calls Tryz.prog 28 #[mval r c s, v] w (RetV (.int .i64 1) w) := by
  obtain ⟨W0, hW0⟩ : ∃ W0, W0 = w.alloc (.cells #[.int .i64 r, .int .i64 c, s] 27) := ⟨_, rfl⟩
  have hb0 : Below w.heap.size w W0 := by rw [hW0]; exact below_new _ _
  have HB0 := Lib.hid hb0
  have HW := Lib.hid hW0
  have HSg := Lib.hid (Sign_no W0 (h.below hb0))
  have HN := Lib.hid h
  clear hb0 hW0
  rcases h with rfl | ⟨b, rfl, -, -⟩
  · clear HSg
    go_enter Tryz.func28, Tryz.ntmps28
    go_upto_region 1 with fail
    rw [← HW.out]
    clear HW
    go_wp2
    go_ret
    exact ⟨rfl, HB0.out⟩
  · go_enter Tryz.func28, Tryz.ntmps28
    go_upto_region 1 with fail
    rw [← HW.out]
    clear HW
    go_wp2_with fail
    refine HSg.out.mono ?_
    rintro e W1 ⟨rfl, rfl⟩
    go_wp2
    go_ret
    exact ⟨rfl, HB0.out⟩
end Go.Proofs.YtandllekeimpgaaGreat
