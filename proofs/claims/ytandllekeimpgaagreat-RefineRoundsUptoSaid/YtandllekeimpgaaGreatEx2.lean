/- Exact numbers of 72 limbs: one less another. -/
import Derived.Test.YtandllekeimpgaaGreatExW
import Derived.Test.YtandllekeimpgaaGreatRegK
import Derived.Test.YtandllekeimpgaaGreatExt
import Derived.Deep.WholeRow
import Derived.Deep.DeepCutAuto
import Derived.Deep.CutBlock

namespace Go.Proofs.YtandllekeimpgaaGreat
open Go.RowKit Fl Ieee
set_option maxRecDepth 20000
/-- Both numbers lie. -/
structure LeS (w : World) (a b : Int) (V : World) : Prop where
  x : V.heap[w.heap.size]? = some (.cells (lim a) 143)
  y : V.heap[w.heap.size + 1]? = some (.cells (lim b) 143)
  z : V.heap[w.heap.size + 2]? = some (.cells Tryz.zeroCells143 143)
  bel : Below w.heap.size w V
theorem LeS.below {w V V' : World} {a b : Int} (h : LeS w a b V) (hb : Below V.heap.size V V') : LeS w a b V' :=
  ⟨rowE_keep hb h.x, rowE_keep hb h.y, rowE_keep hb h.z, h.bel.trans (hb.mono h.bel.size)⟩
set_option linter.unusedSimpArgs false in
set_option maxHeartbeats 2000000 in
theorem Less_c (a b : Int) (w : World) : Calls Tryz.prog 119 #[.agg (lim a), .agg (lim b)] w fun e w' => e = .returned (.agg (lim (a - b))) ∧ Below w.heap.size w w' := by
  go_enter Tryz.func119, Tryz.ntmps119
  go_upto_region 1 with fail
  obtain ⟨W0, hW0⟩ : ∃ W0, W0 = ((w.alloc (.cells (lim a) 143)).alloc (.cells (lim b) 143)).alloc (.cells Tryz.zeroCells143 143) := ⟨_, rfl⟩
  have hS : LeS w a b W0.drew := by
    rw [hW0]
    have h := PlW.start w a b
    have hx := h.x
    rw [mixL_zero] at hx
    exact ⟨hx, h.y, h.z, h.bel.drew⟩
  rw [← hW0]
  have HO := Lib.hid (fun (V : World) (hV : LeS w a b V) => (Opp_c b V).mono (fun e w' ⟨he, hb⟩ => (⟨he, hV.below hb⟩ : e = Ending.returned (.agg (lim (-b))) ∧ LeS w a b w')))
  have HP := Lib.hid (fun (V : World) (hV : LeS w a b V) => (Plus_c a (-b) V).mono (fun e w' ⟨he, hb⟩ => (⟨by rw [he, Int.sub_eq_add_neg], hV.below hb⟩ : e = Ending.returned (.agg (lim (a - b))) ∧ LeS w a b w')))
  clear hW0
  refine wp_region_K 4 (by kernel_rfl) (LeS w a b) (by kernel_rfl) (fun hsel hcl => ?_)
  refine wpAnyK_takeNeed [3] (i := 0) (v := .agg (lim a)) rfl hsel hcl (by kernel_rfl) (by kernel_rfl) rfl (by decide +kernel) (fun _ _ _ h => h) rfl hS (fun V hV => exec_load_row 143 _ rfl w.heap.size rfl 143 (lim a) (0, 0) _ hV.x Tryz.underlying143 rfl (by rw [lim_size]; kernel_rfl)) (fun hcl => ?_)
  simp only [Act.put, List.setIfInBounds_toArray, List.set_cons_zero, List.set_cons_succ]
  refine wpAnyK_takeNeed [3, 2] (i := 1) (v := .agg (lim b)) rfl hsel hcl (by kernel_rfl) (by kernel_rfl) rfl (by decide +kernel) (fun _ _ _ h => h) rfl hS (fun V hV => exec_load_row 143 _ rfl (w.heap.size + 1) rfl 143 (lim b) (0, 0) _ hV.y Tryz.underlying143 rfl (by rw [lim_size]; kernel_rfl)) (fun hcl => ?_)
  simp only [Act.put, List.setIfInBounds_toArray, List.set_cons_zero, List.set_cons_succ]
  refine wpAnyK_one (i := 2) rfl (by decide +kernel) rfl rfl ?_
  go_simp
  refine (HO.out _ hS).mono ?_
  rintro e V1 ⟨rfl, hS1⟩
  refine ⟨hS1, ?_⟩
  refine wpAnyK_one (i := 3) rfl (by decide +kernel) rfl rfl ?_
  go_simp
  refine (HP.out _ hS1).mono ?_
  rintro e V2 ⟨rfl, hS2⟩
  refine ⟨hS2, ?_⟩
  refine wpAnyK_storeRowEnd (st := 4) 143 (.tmp 4) (.tmp 8) rfl (by decide +kernel) rfl rfl rfl (w.heap.size + 2) (lim (a - b)) rfl rfl 143 _ hS2.z (by rw [lim_size]; kernel_rfl) (by rw [lim_size]; kernel_rfl) (mixL_one _ _ _) (by decide +kernel) ?_
  obtain ⟨V, hV⟩ : ∃ V, V = V2.setRow (w.heap.size + 2) (lim (a - b)) := ⟨_, rfl⟩
  have HR := Lib.hid (show V.heap[w.heap.size + 2]? = some (.cells (lim (a - b)) 143) by rw [hV]; exact setRow_heap _ _ _ _ _ _ hS2.z)
  have HB := Lib.hid (show Below w.heap.size w V by rw [hV]; exact hS2.bel.grown setRow_grown hS2.bel.size (fun j hj => by injection hj with hj; omega))
  rw [← hV]
  clear hV hS hS1 hS2 HO HP
  go_wp2
  refine bodyPost_ret (v := .agg (lim (a - b))) (results_cell_row rfl _ _ (w.heap.size + 2) 143 (lim (a - b)) (0, 0) _ rfl HR.out Tryz.underlying143 rfl (by rw [lim_size]; kernel_rfl)) rfl ?_
  exact ⟨rfl, HB.out⟩
end Go.Proofs.YtandllekeimpgaaGreat
