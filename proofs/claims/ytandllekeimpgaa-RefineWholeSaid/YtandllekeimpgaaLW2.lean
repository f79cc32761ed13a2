/- Layer 9: a column is eliminated ((*lower.Lower).step). -/
import Derived.Test.YtandllekeimpgaaReg
import Derived.Deep.RegionHeld3
import Derived.Deep.DeepCutAuto
import Derived.BigRegion
namespace Go.Proofs.Ytandllekeimpgaa
open Go.RowKit Fl Ieee
set_option maxRecDepth 20000
attribute [local go_sem] run_store_float run_store_complex Fl.order_self Fl.order_self' Fl.order_eq Fl.order_ne Fl.order_lt Fl.order_gt
/-- How a step ends. -/
def RetStep (n k : Nat) (B b q p qc pc : Nat) (S : El) (w : World) (e : Ending) (w' : World) : Prop :=
  e = .returned (.int .i64 (elErr n k S)) ∧ Below B w w' ∧ (elErr n k S = 0 → ∃ g c, Lo w' B b q p n qc pc g c (elStep n k S))
def ColR (n k m : Nat) (S : El) (w : World) (i : Value) (wr : World) : Prop :=
  ∃ j : Nat, j ≤ n ∧ i = .int .i64 (j : Nat) ∧ Below w.heap.size w wr ∧ rowGe wr m 45 n (fun a => if a < j then .complex .f64 (S.E a k).1 (S.E a k).2 else .complex .f64 0 0)
def Swapped (B b q p n qc pc : Nat) (S : El) (k v : Nat) (w wx : World) : Prop := ∃ g c, Lo wx B b q p n qc pc g c (elSwap k v S) ∧ Below B w wx
set_option linter.unusedSimpArgs false in
set_option maxHeartbeats 64000000 in
theorem step_c (B b q p n qc pc k : Nat) (g c : Nat → Nat) (S : El) (w : World) (hn : n ≤ 64) (hk : k < n) (hL : Lo w B b q p n qc pc g c S) (hf : finTo S.E n) (hB : B ≤ w.heap.size) :
    Calls Try.prog 51 #[.pointer (some ⟨b, 0, none⟩), .int .i64 (k : Nat)] w (RetStep n k B b q p qc pc S w) := by
  have HL := Lib.hid hL
  have HF := Lib.hid hf
  have HB := Lib.hid hB
  have HN := Lib.hid hn
  have hki : (k : Int) < (n : Int) := Int.ofNat_lt.2 hk
  obtain ⟨x0, x1, x2, x3, xf⟩ := box4 hL.box
  have hmk := run_make_row' (P := Try.prog) 26 45 (.complex .f64 0 0) 16 Try.underlying26 infoNum rfl .i64 .i64 n (by omega) (by omega)
  have x1a : ∀ o, (w.alloc o).cell? ⟨b, 1, none⟩ = some (.slice (some ⟨q, 0, none⟩) n qc) := fun o => ((below_new w o).cell (p := ⟨b, 1, none⟩) hL.lt).trans x1
  have hm0 := mk_rowGe w n
  have HM0 := Lib.hid hm0
  clear hL hf hB hn hm0 xf x0 x2 x3
  go_enter Try.func51, Try.ntmps51
  go_wp2
  clear x1a
  go_loopw [26] (fun i wr => ColR n k w.heap.size S w i wr) (fun i _ => n - (intOf i).toNat)
  case atStart => exact ⟨0, Nat.zero_le _, rfl, below_new _ _, HM0.out⟩
  case round =>
    obtain ⟨j, hj, rfl, hb, hr⟩ := hrel
    have HBw := Lib.hid hb
    have HR := Lib.hid hr
    have HLw := Lib.hid (HL.out.below hb)
    obtain ⟨-, y1, y2, y3, yf⟩ := box4 HLw.out.box
    clear hb hr
    by_cases hlt : j < n
    · have hji : (j : Int) < (n : Int) := Int.ofNat_lt.2 hlt
      have hjb : (j : Int) + 1 ≤ 65 := by have := HN.out; omega
      have hq := HLw.out.tab.cellS hlt
      have hz := HLw.out.tab.cellZ hlt hk
      have hm := HR.out.cell hlt
      have hmf := HR.out.frozen j
      have hset := HR.out.set j (.complex .f64 (S.E j k).1 (S.E j k).2)
      have HS := Lib.hid hset
      clear hset
      go_wp2
      go_roundw
      case rel =>
        refine ⟨j + 1, hlt, by go_num, HBw.out.setCell (Nat.le_refl _) _, HS.out.congr fun a ha => ?_⟩
        by_cases e : a = j
        · subst e; rw [if_pos rfl, if_pos (by omega)]
        · rw [if_neg e]
          by_cases e2 : a < j
          · rw [if_pos e2, if_pos (by omega)]
          · rw [if_neg e2, if_neg (by omega)]
      case measure => simp [intOf]; omega
    · have e : n = j := by omega
      subst e
      have hcells : ∀ i, i < n → wr.cell? ⟨w.heap.size, i, none⟩ = some (.complex .f64 (S.E i k).1 (S.E i k).2) := fun i hi => by
        have := HR.out.cell hi; rw [if_pos hi] at this; exact this
      have hch := Choose_c (fun i => S.E i k) w.heap.size n n k wr HN.out hk hcells (fun i hi => HLw.out.tab.lt i k hi hk) (fun i _ hi => HF.out i k hi hk)
      obtain ⟨nl, hnl⟩ : ∃ x, nilUp (fun i => S.E i k) k (n - k) = x := ⟨_, rfl⟩
      obtain ⟨v, hv⟩ : ∃ x, pivUp (fun i => S.E i k) k (n - k) = x := ⟨_, rfl⟩
      rw [hnl, hv] at hch
      have HCh := Lib.hid hch
      have HNl := Lib.hid hnl
      have HV := Lib.hid hv
      clear hch hcells hnl hv
      cases nl
      · rw [if_neg Bool.false_ne_true, if_neg Bool.false_ne_true] at HCh
        have hvn : v < n := by rw [← HV.out]; exact pivUp_lt _ hk
        have hvi : (v : Int) < (n : Int) := Int.ofNat_lt.2 hvn
        go_wp2_with fail
        refine HCh.out.mono ?_
        rintro e W2 ⟨rfl, d, hW2⟩
        have HL2 := Lib.hid (show Lo W2 B b q p n qc pc g c S by rw [hW2]; exact HLw.out.below (below_drewN (Below.refl _ _) _))
        have HB2 := Lib.hid (show Below B w W2 by rw [hW2]; exact below_drewN (HBw.out.mono HB.out) _)
        clear hW2 y1 y2 y3 yf HLw HBw HCh HR
        go_upto_if 50 with fail
        go_cut [] (fun wx => Swapped B b q p n qc pc S k v w wx)
        case first =>
          by_cases hvk : v = k
          · subst hvk
            go_wp2
            go_meet
            exact ⟨g, c, HL2.out.same, HB2.out⟩
          · have hne : ((v : Int) == (k : Int)) = false := by simp; omega
            obtain ⟨-, z1, z2, z3, zf⟩ := box4 HL2.out.box
            have zf3 := zf 3
            have qk := HL2.out.tab.cellS hk
            have qv := HL2.out.tab.cellS hvn
            have pk := HL2.out.tab.cellO hk
            have pv := HL2.out.tab.cellO hvn
            have qkf := HL2.out.tab.rows.frozen k
            have qvf := HL2.out.tab.rows.frozen v
            have pkf := HL2.out.tab.ord.frozen k
            have pvf := HL2.out.tab.ord.frozen v
            clear zf
            go_wp2_with fail
            have ew : IntKind.i64.wrap (- sgI S.s) = - sgI S.s := by unfold sgI; cases S.s <;> decide
            have d1 := HL2.out.tab.qp
            have d2 : p ≠ q := fun e => d1 e.symm
            have d3 := HL2.out.bq
            have d4 := HL2.out.bp
            have d5 : q ≠ b := fun e => d3 e.symm
            have d6 : p ≠ b := fun e => d4 e.symm
            have d7 : k ≠ v := fun e => hvk e.symm
            simp only [List.append_eq, List.cons_append, List.nil_append]
            refine wp_region_K 55 (by kernel_rfl) (fun V => V = W2.drew) (by kernel_rfl) (fun hsel hcl => ?_)
            refine wpAnyK_takeFree (i := 0) (v := ?v0) rfl hsel hcl (by kernel_rfl) (by kernel_rfl) rfl (fun _ _ _ h => h) rfl rfl ?hy0 (fun hcl => ?h0)
            case hy0 => (intro w'; go_simp; first | done | with_reducible rfl)
            simp only [Act.put, List.setIfInBounds_toArray, List.set_cons_zero, List.set_cons_succ]
            refine wpAnyK_takeFree (i := 1) (v := ?v1) rfl hsel hcl (by kernel_rfl) (by kernel_rfl) rfl (fun _ _ _ h => h) rfl rfl ?hy1 (fun hcl => ?h1)
            case hy1 => (intro w'; go_simp; first | done | with_reducible rfl)
            simp only [Act.put, List.setIfInBounds_toArray, List.set_cons_zero, List.set_cons_succ]
            refine wpAnyK_takeFree (i := 2) (v := ?v2) rfl hsel hcl (by kernel_rfl) (by kernel_rfl) rfl (fun _ _ _ h => h) rfl rfl ?hy2 (fun hcl => ?h2)
            case hy2 => (intro w'; go_simp; first | done | with_reducible rfl)
            simp only [Act.put, List.setIfInBounds_toArray, List.set_cons_zero, List.set_cons_succ]
            refine wpAnyK_takeNeed [] (i := 3) (v := ?v3) rfl hsel hcl (by kernel_rfl) (by kernel_rfl) rfl (by decide +kernel) (fun _ _ _ h => h) rfl rfl ?hy3 (fun hcl => ?h3)
            case hy3 => (rintro w' rfl; go_simp; first | done | with_reducible rfl)
            simp only [Act.put, List.setIfInBounds_toArray, List.set_cons_zero, List.set_cons_succ]
            refine wpAnyK_takeFree (i := 4) (v := ?v4) rfl hsel hcl (by kernel_rfl) (by kernel_rfl) rfl (fun _ _ _ h => h) rfl rfl ?hy4 (fun hcl => ?h4)
            case hy4 => (intro w'; go_simp; first | done | with_reducible rfl)
            simp only [Act.put, List.setIfInBounds_toArray, List.set_cons_zero, List.set_cons_succ]
            refine wpAnyK_takeFree (i := 5) (v := ?v5) rfl hsel hcl (by kernel_rfl) (by kernel_rfl) rfl (fun _ _ _ h => h) rfl rfl ?hy5 (fun hcl => ?h5)
            case hy5 => (intro w'; go_simp; first | done | with_reducible rfl)
            simp only [Act.put, List.setIfInBounds_toArray, List.set_cons_zero, List.set_cons_succ]
            refine wpAnyK_takeFree (i := 6) (v := ?v6) rfl hsel hcl (by kernel_rfl) (by kernel_rfl) rfl (fun _ _ _ h => h) rfl rfl ?hy6 (fun hcl => ?h6)
            case hy6 => (intro w'; go_simp; first | done | with_reducible rfl)
            simp only [Act.put, List.setIfInBounds_toArray, List.set_cons_zero, List.set_cons_succ]
            refine wpAnyK_takeFree (i := 7) (v := ?v7) rfl hsel hcl (by kernel_rfl) (by kernel_rfl) rfl (fun _ _ _ h => h) rfl rfl ?hy7 (fun hcl => ?h7)
            case hy7 => (intro w'; go_simp; first | done | with_reducible rfl)
            simp only [Act.put, List.setIfInBounds_toArray, List.set_cons_zero, List.set_cons_succ]
            refine wpAnyK_takeNeed [] (i := 8) (v := ?v8) rfl hsel hcl (by kernel_rfl) (by kernel_rfl) rfl (by decide +kernel) (fun _ _ _ h => h) rfl rfl ?hy8 (fun hcl => ?h8)
            case hy8 => (rintro w' rfl; go_simp; first | done | with_reducible rfl)
            simp only [Act.put, List.setIfInBounds_toArray, List.set_cons_zero, List.set_cons_succ]
            refine wpAnyK_takeFree (i := 9) (v := ?v9) rfl hsel hcl (by kernel_rfl) (by kernel_rfl) rfl (fun _ _ _ h => h) rfl rfl ?hy9 (fun hcl => ?h9)
            case hy9 => (intro w'; go_simp; first | done | with_reducible rfl)
            simp only [Act.put, List.setIfInBounds_toArray, List.set_cons_zero, List.set_cons_succ]
            refine wpAnyK_takeFree (i := 10) (v := ?v10) rfl hsel hcl (by kernel_rfl) (by kernel_rfl) rfl (fun _ _ _ h => h) rfl rfl ?hy10 (fun hcl => ?h10)
            case hy10 => (intro w'; go_simp; first | done | with_reducible rfl)
            simp only [Act.put, List.setIfInBounds_toArray, List.set_cons_zero, List.set_cons_succ]
            refine wpAnyK_takeFree (i := 11) (v := ?v11) rfl hsel hcl (by kernel_rfl) (by kernel_rfl) rfl (fun _ _ _ h => h) rfl rfl ?hy11 (fun hcl => ?h11)
            case hy11 => (intro w'; go_simp; first | done | with_reducible rfl)
            simp only [Act.put, List.setIfInBounds_toArray, List.set_cons_zero, List.set_cons_succ]
            refine wpAnyK_takeFree (i := 12) (v := ?v12) rfl hsel hcl (by kernel_rfl) (by kernel_rfl) rfl (fun _ _ _ h => h) rfl rfl ?hy12 (fun hcl => ?h12)
            case hy12 => (intro w'; go_simp; first | done | with_reducible rfl)
            simp only [Act.put, List.setIfInBounds_toArray, List.set_cons_zero, List.set_cons_succ]
            refine wpAnyK_takeNeed [] (i := 13) (v := ?v13) rfl hsel hcl (by kernel_rfl) (by kernel_rfl) rfl (by decide +kernel) (fun _ _ _ h => h) rfl rfl ?hy13 (fun hcl => ?h13)
            case hy13 => (rintro w' rfl; go_simp; first | done | with_reducible rfl)
            simp only [Act.put, List.setIfInBounds_toArray, List.set_cons_zero, List.set_cons_succ]
            refine wpAnyK_takeFree (i := 14) (v := ?v14) rfl hsel hcl (by kernel_rfl) (by kernel_rfl) rfl (fun _ _ _ h => h) rfl rfl ?hy14 (fun hcl => ?h14)
            case hy14 => (intro w'; go_simp; first | done | with_reducible rfl)
            simp only [Act.put, List.setIfInBounds_toArray, List.set_cons_zero, List.set_cons_succ]
            refine wpAnyK_takeFree (i := 15) (v := ?v15) rfl hsel hcl (by kernel_rfl) (by kernel_rfl) rfl (fun _ _ _ h => h) rfl rfl ?hy15 (fun hcl => ?h15)
            case hy15 => (intro w'; go_simp; first | done | with_reducible rfl)
            simp only [Act.put, List.setIfInBounds_toArray, List.set_cons_zero, List.set_cons_succ]
            refine wpAnyK_takeFree (i := 16) (v := ?v16) rfl hsel hcl (by kernel_rfl) (by kernel_rfl) rfl (fun _ _ _ h => h) rfl rfl ?hy16 (fun hcl => ?h16)
            case hy16 => (intro w'; go_simp; first | done | with_reducible rfl)
            simp only [Act.put, List.setIfInBounds_toArray, List.set_cons_zero, List.set_cons_succ]
            refine wpAnyK_takeFree (i := 17) (v := ?v17) rfl hsel hcl (by kernel_rfl) (by kernel_rfl) rfl (fun _ _ _ h => h) rfl rfl ?hy17 (fun hcl => ?h17)
            case hy17 => (intro w'; go_simp; first | done | with_reducible rfl)
            simp only [Act.put, List.setIfInBounds_toArray, List.set_cons_zero, List.set_cons_succ]
            refine wpAnyK_takeNeed [] (i := 18) (v := ?v18) rfl hsel hcl (by kernel_rfl) (by kernel_rfl) rfl (by decide +kernel) (fun _ _ _ h => h) rfl rfl ?hy18 (fun hcl => ?h18)
            case hy18 => (rintro w' rfl; go_simp; first | done | with_reducible rfl)
            simp only [Act.put, List.setIfInBounds_toArray, List.set_cons_zero, List.set_cons_succ]
            refine wpAnyK_takeFree (i := 19) (v := ?v19) rfl hsel hcl (by kernel_rfl) (by kernel_rfl) rfl (fun _ _ _ h => h) rfl rfl ?hy19 (fun hcl => ?h19)
            case hy19 => (intro w'; go_simp; first | done | with_reducible rfl)
            simp only [Act.put, List.setIfInBounds_toArray, List.set_cons_zero, List.set_cons_succ]
            refine wpAnyK_takeFree (i := 20) (v := ?v20) rfl hsel hcl (by kernel_rfl) (by kernel_rfl) rfl (fun _ _ _ h => h) rfl rfl ?hy20 (fun hcl => ?h20)
            case hy20 => (intro w'; go_simp; first | done | with_reducible rfl)
            simp only [Act.put, List.setIfInBounds_toArray, List.set_cons_zero, List.set_cons_succ]
            refine wpAnyK_takeFree (i := 21) (v := ?v21) rfl hsel hcl (by kernel_rfl) (by kernel_rfl) rfl (fun _ _ _ h => h) rfl rfl ?hy21 (fun hcl => ?h21)
            case hy21 => (intro w'; go_simp; first | done | with_reducible rfl)
            simp only [Act.put, List.setIfInBounds_toArray, List.set_cons_zero, List.set_cons_succ]
            refine wpAnyK_takeFree (i := 22) (v := ?v22) rfl hsel hcl (by kernel_rfl) (by kernel_rfl) rfl (fun _ _ _ h => h) rfl rfl ?hy22 (fun hcl => ?h22)
            case hy22 => (intro w'; go_simp; first | done | with_reducible rfl)
            simp only [Act.put, List.setIfInBounds_toArray, List.set_cons_zero, List.set_cons_succ]
            refine wpAnyK_takeFree (i := 23) (v := ?v23) rfl hsel hcl (by kernel_rfl) (by kernel_rfl) rfl (fun _ _ _ h => h) rfl rfl ?hy23 (fun hcl => ?h23)
            case hy23 => (intro w'; go_simp; first | done | with_reducible rfl)
            simp only [Act.put, List.setIfInBounds_toArray, List.set_cons_zero, List.set_cons_succ]
            refine wpAnyK_takeNeed [] (i := 24) (v := ?v24) rfl hsel hcl (by kernel_rfl) (by kernel_rfl) rfl (by decide +kernel) (fun _ _ _ h => h) rfl rfl ?hy24 (fun hcl => ?h24)
            case hy24 => (rintro w' rfl; go_simp; first | done | with_reducible rfl)
            simp only [Act.put, List.setIfInBounds_toArray, List.set_cons_zero, List.set_cons_succ]
            refine wpAnyK_takeFree (i := 25) (v := ?v25) rfl hsel hcl (by kernel_rfl) (by kernel_rfl) rfl (fun _ _ _ h => h) rfl rfl ?hy25 (fun hcl => ?h25)
            case hy25 => (intro w'; go_simp; first | done | with_reducible rfl)
            simp only [Act.put, List.setIfInBounds_toArray, List.set_cons_zero, List.set_cons_succ]
            refine wpAnyK_takeFree (i := 26) (v := ?v26) rfl hsel hcl (by kernel_rfl) (by kernel_rfl) rfl (fun _ _ _ h => h) rfl rfl ?hy26 (fun hcl => ?h26)
            case hy26 => (intro w'; go_simp; first | done | with_reducible rfl)
            simp only [Act.put, List.setIfInBounds_toArray, List.set_cons_zero, List.set_cons_succ]
            refine wpAnyK_takeNeed [] (i := 27) (v := ?v27) rfl hsel hcl (by kernel_rfl) (by kernel_rfl) rfl (by decide +kernel) (fun _ _ _ h => h) rfl rfl ?hy27 (fun hcl => ?h27)
            case hy27 => (rintro w' rfl; go_simp; first | done | with_reducible rfl)
            simp only [Act.put, List.setIfInBounds_toArray, List.set_cons_zero, List.set_cons_succ]
            refine wpAnyK_takeFree (i := 28) (v := ?v28) rfl hsel hcl (by kernel_rfl) (by kernel_rfl) rfl (fun _ _ _ h => h) rfl rfl ?hy28 (fun hcl => ?h28)
            case hy28 => (intro w'; go_simp; first | done | with_reducible rfl)
            simp only [Act.put, List.setIfInBounds_toArray, List.set_cons_zero, List.set_cons_succ]
            refine wpAnyK_takeFree (i := 29) (v := ?v29) rfl hsel hcl (by kernel_rfl) (by kernel_rfl) rfl (fun _ _ _ h => h) rfl rfl ?hy29 (fun hcl => ?h29)
            case hy29 => (intro w'; go_simp; first | done | with_reducible rfl)
            simp only [Act.put, List.setIfInBounds_toArray, List.set_cons_zero, List.set_cons_succ]
            refine wpAnyK_takeFree (i := 30) (v := ?v30) rfl hsel hcl (by kernel_rfl) (by kernel_rfl) rfl (fun _ _ _ h => h) rfl rfl ?hy30 (fun hcl => ?h30)
            case hy30 => (intro w'; go_simp; first | done | with_reducible rfl)
            simp only [Act.put, List.setIfInBounds_toArray, List.set_cons_zero, List.set_cons_succ]
            refine wpAnyK_takeNeed [] (i := 31) (v := ?v31) rfl hsel hcl (by kernel_rfl) (by kernel_rfl) rfl (by decide +kernel) (fun _ _ _ h => h) rfl rfl ?hy31 (fun hcl => ?h31)
            case hy31 => (rintro w' rfl; go_simp; first | done | with_reducible rfl)
            simp only [Act.put, List.setIfInBounds_toArray, List.set_cons_zero, List.set_cons_succ]
            refine wpAnyK_takeFree (i := 32) (v := ?v32) rfl hsel hcl (by kernel_rfl) (by kernel_rfl) rfl (fun _ _ _ h => h) rfl rfl ?hy32 (fun hcl => ?h32)
            case hy32 => (intro w'; go_simp; first | done | with_reducible rfl)
            simp only [Act.put, List.setIfInBounds_toArray, List.set_cons_zero, List.set_cons_succ]
            refine wpAnyK_takeFree (i := 33) (v := ?v33) rfl hsel hcl (by kernel_rfl) (by kernel_rfl) rfl (fun _ _ _ h => h) rfl rfl ?hy33 (fun hcl => ?h33)
            case hy33 => (intro w'; go_simp; first | done | with_reducible rfl)
            simp only [Act.put, List.setIfInBounds_toArray, List.set_cons_zero, List.set_cons_succ]
            refine wpAnyK_takeNeed [] (i := 34) (v := ?v34) rfl hsel hcl (by kernel_rfl) (by kernel_rfl) rfl (by decide +kernel) (fun _ _ _ h => h) rfl rfl ?hy34 (fun hcl => ?h34)
            case hy34 => (rintro w' rfl; go_simp; first | done | with_reducible rfl)
            simp only [Act.put, List.setIfInBounds_toArray, List.set_cons_zero, List.set_cons_succ]
            refine wpAnyK_takeFree (i := 35) (v := ?v35) rfl hsel hcl (by kernel_rfl) (by kernel_rfl) rfl (fun _ _ _ h => h) rfl rfl ?hy35 (fun hcl => ?h35)
            case hy35 => (intro w'; go_simp; first | done | with_reducible rfl)
            simp only [Act.put, List.setIfInBounds_toArray, List.set_cons_zero, List.set_cons_succ]
            refine wpAnyK_takeFree (i := 36) (v := ?v36) rfl hsel hcl (by kernel_rfl) (by kernel_rfl) rfl (fun _ _ _ h => h) rfl rfl ?hy36 (fun hcl => ?h36)
            case hy36 => (intro w'; go_simp; first | done | with_reducible rfl)
            simp only [Act.put, List.setIfInBounds_toArray, List.set_cons_zero, List.set_cons_succ]
            refine wpAnyK_takeFree (i := 37) (v := ?v37) rfl hsel hcl (by kernel_rfl) (by kernel_rfl) rfl (fun _ _ _ h => h) rfl rfl ?hy37 (fun hcl => ?h37)
            case hy37 => (intro w'; go_simp; first | done | with_reducible rfl)
            simp only [Act.put, List.setIfInBounds_toArray, List.set_cons_zero, List.set_cons_succ]
            refine wpAnyK_takeNeed [] (i := 38) (v := ?v38) rfl hsel hcl (by kernel_rfl) (by kernel_rfl) rfl (by decide +kernel) (fun _ _ _ h => h) rfl rfl ?hy38 (fun hcl => ?h38)
            case hy38 => (rintro w' rfl; go_simp; first | done | with_reducible rfl)
            simp only [Act.put, List.setIfInBounds_toArray, List.set_cons_zero, List.set_cons_succ]
            refine wpAnyK_takeFree (i := 39) (v := ?v39) rfl hsel hcl (by kernel_rfl) (by kernel_rfl) rfl (fun _ _ _ h => h) rfl rfl ?hy39 (fun hcl => ?h39)
            case hy39 => (intro w'; go_simp; first | done | with_reducible rfl)
            simp only [Act.put, List.setIfInBounds_toArray, List.set_cons_zero, List.set_cons_succ]
            refine wpAnyK_takeFree (i := 40) (v := ?v40) rfl hsel hcl (by kernel_rfl) (by kernel_rfl) rfl (fun _ _ _ h => h) rfl rfl ?hy40 (fun hcl => ?h40)
            case hy40 => (intro w'; go_simp; first | done | with_reducible rfl)
            simp only [Act.put, List.setIfInBounds_toArray, List.set_cons_zero, List.set_cons_succ]
            refine wpAnyK_takeNeed [] (i := 41) (v := ?v41) rfl hsel hcl (by kernel_rfl) (by kernel_rfl) rfl (by decide +kernel) (fun _ _ _ h => h) rfl rfl ?hy41 (fun hcl => ?h41)
            case hy41 => (rintro w' rfl; go_simp; first | done | with_reducible rfl)
            simp only [Act.put, List.setIfInBounds_toArray, List.set_cons_zero, List.set_cons_succ]
            refine wpAnyK_takeFree (i := 42) (v := ?v42) rfl hsel hcl (by kernel_rfl) (by kernel_rfl) rfl (fun _ _ _ h => h) rfl rfl ?hy42 (fun hcl => ?h42)
            case hy42 => (intro w'; go_simp; first | done | with_reducible rfl)
            simp only [Act.put, List.setIfInBounds_toArray, List.set_cons_zero, List.set_cons_succ]
            refine wpAnyK_takeFree (i := 43) (v := ?v43) rfl hsel hcl (by kernel_rfl) (by kernel_rfl) rfl (fun _ _ _ h => h) rfl rfl ?hy43 (fun hcl => ?h43)
            case hy43 => (intro w'; go_simp; first | done | with_reducible rfl)
            simp only [Act.put, List.setIfInBounds_toArray, List.set_cons_zero, List.set_cons_succ]
            refine wpAnyK_takeFree (i := 44) (v := ?v44) rfl hsel hcl (by kernel_rfl) (by kernel_rfl) rfl (fun _ _ _ h => h) rfl rfl ?hy44 (fun hcl => ?h44)
            case hy44 => (intro w'; go_simp; first | done | with_reducible rfl)
            simp only [Act.put, List.setIfInBounds_toArray, List.set_cons_zero, List.set_cons_succ]
            refine wpAnyK_takeNeed [] (i := 45) (v := ?v45) rfl hsel hcl (by kernel_rfl) (by kernel_rfl) rfl (by decide +kernel) (fun _ _ _ h => h) rfl rfl ?hy45 (fun hcl => ?h45)
            case hy45 => (rintro w' rfl; go_simp; first | done | with_reducible rfl)
            simp only [Act.put, List.setIfInBounds_toArray, List.set_cons_zero, List.set_cons_succ]
            refine wpAnyK_takeFree (i := 46) (v := ?v46) rfl hsel hcl (by kernel_rfl) (by kernel_rfl) rfl (fun _ _ _ h => h) rfl rfl ?hy46 (fun hcl => ?h46)
            case hy46 => (intro w'; go_simp; first | done | with_reducible rfl)
            simp only [Act.put, List.setIfInBounds_toArray, List.set_cons_zero, List.set_cons_succ]
            refine wpAnyK_takeFree (i := 47) (v := ?v47) rfl hsel hcl (by kernel_rfl) (by kernel_rfl) rfl (fun _ _ _ h => h) rfl rfl ?hy47 (fun hcl => ?h47)
            case hy47 => (intro w'; go_simp; first | done | with_reducible rfl)
            simp only [Act.put, List.setIfInBounds_toArray, List.set_cons_zero, List.set_cons_succ]
            refine wpAnyK_takeNeed [] (i := 48) (v := ?v48) rfl hsel hcl (by kernel_rfl) (by kernel_rfl) rfl (by decide +kernel) (fun _ _ _ h => h) rfl rfl ?hy48 (fun hcl => ?h48)
            case hy48 => (rintro w' rfl; go_simp; first | done | with_reducible rfl)
            simp only [Act.put, List.setIfInBounds_toArray, List.set_cons_zero, List.set_cons_succ]
            refine wpAnyK_takeFree (i := 49) (v := ?v49) rfl hsel hcl (by kernel_rfl) (by kernel_rfl) rfl (fun _ _ _ h => h) rfl rfl ?hy49 (fun hcl => ?h49)
            case hy49 => (intro w'; go_simp; first | done | with_reducible rfl)
            simp only [Act.put, List.setIfInBounds_toArray, List.set_cons_zero, List.set_cons_succ]
            refine wpAnyK_takeFree (i := 50) (v := ?v50) rfl hsel hcl (by kernel_rfl) (by kernel_rfl) rfl (fun _ _ _ h => h) rfl rfl ?hy50 (fun hcl => ?h50)
            case hy50 => (intro w'; go_simp; first | done | with_reducible rfl)
            simp only [Act.put, List.setIfInBounds_toArray, List.set_cons_zero, List.set_cons_succ]
            refine wpAnyK_takeFree (i := 51) (v := ?v51) rfl hsel hcl (by kernel_rfl) (by kernel_rfl) rfl (fun _ _ _ h => h) rfl rfl ?hy51 (fun hcl => ?h51)
            case hy51 => (intro w'; go_simp; first | done | with_reducible rfl)
            simp only [Act.put, List.setIfInBounds_toArray, List.set_cons_zero, List.set_cons_succ]
            refine wpAnyK_takeNeed [] (i := 52) (v := ?v52) rfl hsel hcl (by kernel_rfl) (by kernel_rfl) rfl (by decide +kernel) (fun _ _ _ h => h) rfl rfl ?hy52 (fun hcl => ?h52)
            case hy52 => (rintro w' rfl; go_simp; first | done | with_reducible rfl)
            simp only [Act.put, List.setIfInBounds_toArray, List.set_cons_zero, List.set_cons_succ]
            refine wpAnyK_takeFree (i := 53) (v := ?v53) rfl hsel hcl (by kernel_rfl) (by kernel_rfl) rfl (fun _ _ _ h => h) rfl rfl ?hy53 (fun hcl => ?h53)
            case hy53 => (intro w'; go_simp; first | done | with_reducible rfl)
            simp only [Act.put, List.setIfInBounds_toArray, List.set_cons_zero, List.set_cons_succ]
            refine wpAnyK_takeFree (i := 54) (v := ?v54) rfl hsel hcl (by kernel_rfl) (by kernel_rfl) rfl (fun _ _ _ h => h) rfl rfl ?hy54 (fun hcl => ?h54)
            case hy54 => (intro w'; go_simp; first | done | with_reducible rfl)
            simp only [Act.put, List.setIfInBounds_toArray, List.set_cons_zero, List.set_cons_succ]
            refine wpAnyK_store (st := 55) rfl (by decide +kernel) rfl ?_
            go_simp
            refine wpAny_one (i := 56) rfl (by decide +kernel) rfl ?_
            go_simp
            refine wpAny_one (i := 57) rfl (by decide +kernel) rfl ?_
            go_simp
            refine wpAny_one (i := 58) rfl (by decide +kernel) rfl ?_
            go_simp
            refine wpAny_one (i := 59) rfl (by decide +kernel) rfl ?_
            go_simp
            refine wpAny_one (i := 60) rfl (by decide +kernel) rfl ?_
            go_simp
            refine wpAny_one (i := 61) rfl (by decide +kernel) rfl ?_
            go_simp
            refine wpAny_one (i := 62) rfl (by decide +kernel) rfl ?_
            go_simp
            refine wpAny_one (i := 63) rfl (by decide +kernel) rfl ?_
            go_simp
            refine wpAny_one (i := 64) rfl (by decide +kernel) rfl ?_
            go_simp
            refine wpAny_done (by decide +kernel) ?_ _
            clear ew d2 d3 d4 d5 d6 d7 qk qv pk pv qkf qvf pkf pvf z1 z2 z3 zf3
            go_wp2
            go_meet
            have h1 := (HL2.out.below (Below.refl _ W2).drew).swap hk hvn hvk
            refine ⟨_, _, h1, ?_⟩
            exact (((((HB2.out.drew.setCell HL2.out.tab.qB _).setCell HL2.out.tab.qB _).setCell HL2.out.tab.pB _).setCell HL2.out.tab.pB _).setCell HL2.out.bB _)
        case rest =>
          obtain ⟨g', c', hLo, hBel⟩ := hcut
          rename World => W3
          obtain ⟨S1, hS1⟩ : ∃ S1, S1 = elSwap k v S := ⟨_, rfl⟩
          rw [← hS1] at hLo
          have hf1 : finTo S1.E n := fun i j hi hj => by rw [hS1]; exact HF.out _ j (xch_lt hk hvn hi) hj
          have HS1 := Lib.hid hS1
          have HF1 := Lib.hid hf1
          have HL3 := Lib.hid hLo
          have HB3 := Lib.hid hBel
          clear hS1 hLo hBel hf1 HL2 HB2
          have hk1 : (k : Int) + 1 ≤ 64 := by have := HN.out; omega
          go_wp2
          go_loopw [10, 11] (fun fv iv wr => Rel2 B b q p n qc pc k g' c' S1 w fv iv wr) (fun _ iv _ => n - (intOf iv).toNat)
          case atStart => exact ⟨k + 1, S1.E, Nat.lt_succ_self k, hk, by go_num, by rw [Nat.sub_self]; rfl, HL3.out, ElimR.start _ _ _, HB3.out⟩
          case round =>
            rename World => wi
            obtain ⟨i, Z, hki2, hin, rfl, rfl, hLo, hEl, hBel⟩ := hrel
            obtain ⟨f0, hf0⟩ : ∃ x, fineTo (elE S1.E k) n k (i - (k + 1)) = x := ⟨_, rfl⟩
            rw [hf0]
            have HF0 := Lib.hid hf0
            have HLi := Lib.hid hLo
            have HEl := Lib.hid hEl
            have HBi := Lib.hid hBel
            obtain ⟨-, y1, -, -, -⟩ := box4 hLo.box
            clear hf0 hLo hEl hBel
            have hib : (i : Int) + 1 ≤ 65 := by have := HN.out; omega
            by_cases hlt : i < n
            · have hlti : (i : Int) < (n : Int) := Int.ofNat_lt.2 hlt
              have hqi := HLi.out.tab.cellS hlt
              have hqk := HLi.out.tab.cellS hk
              have hEi : Z i k = S1.E i k := (HEl.out i k hlt hk).2 (Nat.le_refl _)
              have hEk : Z k k = S1.E k k := HEl.out.old HF1.out (Nat.le_refl _) hki2 hk hk
              have hzi := HLi.out.tab.cellZ hlt hk
              have hzk := HLi.out.tab.cellZ hk hk
              rw [show (⟨Z, S1.o, S1.s⟩ : El).E = Z from rfl, hEi] at hzi
              rw [show (⟨Z, S1.o, S1.s⟩ : El).E = Z from rfl, hEk] at hzk
              have lt1 : ltC (S1.E i k) := by rw [← hEi]; exact HLi.out.tab.lt i k hlt hk
              have lt2 : ltC (S1.E k k) := by rw [← hEk]; exact HLi.out.tab.lt k k hk hk
              obtain ⟨F, hF⟩ : ∃ F, elF S1.E k i = F := ⟨_, rfl⟩
              have hdiv : ∀ V, Below wi.heap.size wi V → Calls Try.prog 74 #[.complex .f64 (S1.E i k).1 (S1.E i k).2, .complex .f64 (S1.E k k).1 (S1.E k k).2] V (FromZ F wi.heap.size wi) := fun V hV => by
                have h := Div_c (S1.E i k).1 (S1.E i k).2 (S1.E k k).1 (S1.E k k).2 lt2.1 lt2.2 V
                have f1 := fin_cn1 (HF1.out i k hlt hk)
                have f2 := fin_cn1 (HF1.out k k hk hk)
                rw [f1.1, f1.2, f2.1, f2.2] at h
                rw [← hF]
                exact from_c h hV
              have hkp : ∀ V, Below wi.heap.size wi V → V.cell? ⟨b, 1, none⟩ = some (.slice (some ⟨q, 0, none⟩) n qc) ∧ V.cell? ⟨q, k, none⟩ = some (.slice (some ⟨g' k, 0, none⟩) n (c' k)) ∧ V.cell? ⟨g' i, k, none⟩ = some (.complex .f64 (S1.E i k).1 (S1.E i k).2) ∧ V.cell? ⟨g' k, k, none⟩ = some (.complex .f64 (S1.E k k).1 (S1.E k k).2) := fun V hV =>
                have go : ∀ {p : Addr} {v : Value}, wi.cell? p = some v → V.cell? p = some v := fun h => (hV.cell (block_lt_of_cell h)).trans h
                ⟨go y1, go hqk, go hzi, go hzk⟩
              have HDiv := Lib.hid hdiv
              have HKP := Lib.hid hkp
              have HFe := Lib.hid hF
              clear hdiv hkp hEi hEk hqk hzi hzk lt1 lt2 hF
              go_wp2_with fail
              clear hqi
              go_cut [13] (fun s13 wx => ∃ z : C, s13 = .complex .f64 z.1 z.2 ∧ cnC z = F ∧ ltC z ∧ Below wi.heap.size wi wx)
              case first =>
                go_region_held3 (fun V => V.cell? ⟨b, 1, none⟩ = some (.slice (some ⟨q, 0, none⟩) n qc) ∧ V.cell? ⟨q, k, none⟩ = some (.slice (some ⟨g' k, 0, none⟩) n (c' k)) ∧ V.cell? ⟨g' i, k, none⟩ = some (.complex .f64 (S1.E i k).1 (S1.E i k).2) ∧ V.cell? ⟨g' k, k, none⟩ = some (.complex .f64 (S1.E k k).1 (S1.E k k).2))
                  (with_reducible refine HKP.out _ ?_; (repeat (first | with_reducible assumption | with_reducible refine Below.drew ?_ | with_reducible exact Below.refl _ _)); done)
                  (first
                  | (go_at_call 74; (with_reducible refine (HDiv.out _ ?_).mono ?_); (repeat (first | with_reducible assumption | with_reducible refine Below.drew ?_ | with_reducible exact Below.refl _ _)); (rintro e V ⟨z, rfl, hz, lz, hV⟩)))
                all_goals
                  go_wp2_with fail
                  go_meet
                  exact ⟨z, rfl, hz, lz, hV⟩
              case rest =>
                obtain ⟨zf, rfl, hz, lz, hV⟩ := hcut
                rename World => wf
                have HZf := Lib.hid hz
                have LZf := Lib.hid lz
                have HLf := Lib.hid (HLi.out.below hV)
                have HBf := Lib.hid (HBi.out.trans (hV.mono (Nat.le_trans HB.out HBi.out.size)))
                clear hz lz hV HKP HDiv y1 HLi HBi
                obtain ⟨ff, hff⟩ : ∃ x, pFinite F = x := ⟨_, rfl⟩
                have hfi := Finite_c zf.1 zf.2 LZf.out.1 LZf.out.2
                rw [show (cn .f64 zf.1, cn .f64 zf.2) = F from HZf.out, hff] at hfi
                have HFi := Lib.hid hfi
                have HFf := Lib.hid hff
                clear hfi hff
                go_upto_region 18 with fail
                go_cut [10] (fun s10 wx => Fin1 (f0 && ff) wf.heap.size wf s10 wx)
                case first =>
                  cases f0
                  · go_wp2
                    go_meet
                    exact ⟨rfl, Below.refl _ _⟩
                  · go_wp2_with fail
                    refine (HFi.out _).mono ?_
                    rintro e w' ⟨d, rfl, rfl⟩
                    go_wp2
                    go_meet
                    exact ⟨rfl, below_drewN (Below.refl _ _) _⟩
                case rest =>
                  obtain ⟨rfl, hV⟩ := hcut
                  rename World => wg
                  have HLg := Lib.hid (HLf.out.below hV)
                  have HBg := Lib.hid (HBf.out.trans (hV.mono (Nat.le_trans HB.out HBf.out.size)))
                  clear hV HLf HBf HFi
                  go_wp2
                  go_loopw [10, 14] (fun fv jv wr => Rel3 B b q p n qc pc k i g' c' S1 f0 w fv jv wr) (fun _ jv _ => n - (intOf jv).toNat)
                  case atStart =>
                    refine ⟨k + 1, Z, Nat.lt_succ_self k, hk, by go_num, ?_, HLg.out, RowR.start HEl.out, HBg.out⟩
                    rw [Nat.sub_self, ← HFf.out, ← HFe.out, ← elE_fac hki2]; rfl
                  case round =>
                    rename World => wj
                    obtain ⟨j, Z', hkj, hjn, rfl, rfl, hLo, hRow, hBel⟩ := hrel
                    obtain ⟨f1, hf1⟩ : ∃ x, (f0 && fineRow (elE S1.E k) k i (j - (k + 1))) = x := ⟨_, rfl⟩
                    rw [hf1]
                    have HF1r := Lib.hid hf1
                    have HLj := Lib.hid hLo
                    have HRow := Lib.hid hRow
                    have HBj := Lib.hid hBel
                    obtain ⟨-, y1, -, -, -⟩ := box4 hLo.box
                    clear hf1 hLo hRow hBel HLg HBg
                    have hjb : (j : Int) + 1 ≤ 65 := by have := HN.out; omega
                    by_cases hltj : j < n
                    · have hltij : (j : Int) < (n : Int) := Int.ofNat_lt.2 hltj
                      have hqk := HLj.out.tab.cellS hk
                      have hEi : Z' i j = S1.E i j := (HRow.out i j hlt hltj).2.2.2 rfl (.inr (Nat.le_refl _))
                      have hEk : Z' k j = S1.E k j := HRow.out.old HF1.out (Nat.le_refl _) hki2 hk hltj
                      have hzi := HLj.out.tab.cellZ hlt hltj
                      have hzk := HLj.out.tab.cellZ hk hltj
                      have hzf := (HLj.out.tab.row i hlt).frozen j
                      rw [show (⟨Z', S1.o, S1.s⟩ : El).E = Z' from rfl, hEi] at hzi
                      rw [show (⟨Z', S1.o, S1.s⟩ : El).E = Z' from rfl, hEk] at hzk
                      have hmul : ∀ V, Below wj.heap.size wj V → Calls Try.prog 76 #[.complex .f64 zf.1 zf.2, .complex .f64 (S1.E k j).1 (S1.E k j).2] V (FromZ (pMul F (S1.E k j)) wj.heap.size wj) := fun V hV => by
                        have h := Mul_c zf.1 zf.2 (S1.E k j).1 (S1.E k j).2 V
                        have f2 := fin_cn1 (HF1.out k j hk hltj)
                        rw [show (cn .f64 zf.1, cn .f64 zf.2) = F from HZf.out, f2.1, f2.2] at h
                        exact from_c h hV
                      have hsub : ∀ V (m : C), cnC m = pMul F (S1.E k j) → Below wj.heap.size wj V → Calls Try.prog 75 #[.complex .f64 (S1.E i j).1 (S1.E i j).2, .complex .f64 m.1 m.2] V (FromZ (elE S1.E k i j) wj.heap.size wj) := fun V m hm hV => by
                        have h := Sub_c (S1.E i j).1 (S1.E i j).2 m.1 m.2 V
                        have f2 := fin_cn1 (HF1.out i j hlt hltj)
                        rw [show (cn .f64 m.1, cn .f64 m.2) = pMul F (S1.E k j) from hm, f2.1, f2.2] at h
                        rw [elE_new hki2 hkj, HFe.out]
                        exact from_c h hV
                      have hkp : ∀ V, Below wj.heap.size wj V → V.cell? ⟨b, 1, none⟩ = some (.slice (some ⟨q, 0, none⟩) n qc) ∧ V.cell? ⟨q, k, none⟩ = some (.slice (some ⟨g' k, 0, none⟩) n (c' k)) ∧ V.cell? ⟨g' k, j, none⟩ = some (.complex .f64 (S1.E k j).1 (S1.E k j).2) := fun V hV =>
                        have go : ∀ {p : Addr} {v : Value}, wj.cell? p = some v → V.cell? p = some v := fun h => (hV.cell (block_lt_of_cell h)).trans h
                        ⟨go y1, go hqk, go hzk⟩
                      have hkc : ∀ V, Below wj.heap.size wj V → V.cell? ⟨g' i, j, none⟩ = some (.complex .f64 (S1.E i j).1 (S1.E i j).2) ∧ V.frozen? ⟨g' i, j, none⟩ = false := fun V hV =>
                        ⟨(hV.cell (p := ⟨g' i, j, none⟩) (HLj.out.tab.row i hlt).lt).trans hzi, (hV.frozen (p := ⟨g' i, j, none⟩) (HLj.out.tab.row i hlt).lt).trans hzf⟩
                      have hks : ∀ V v, Below wj.heap.size wj V → (V.setCell ⟨g' i, j, none⟩ v).cell? ⟨b, 1, none⟩ = some (.slice (some ⟨q, 0, none⟩) n qc) ∧ (V.setCell ⟨g' i, j, none⟩ v).cell? ⟨q, k, none⟩ = some (.slice (some ⟨g' k, 0, none⟩) n (c' k)) ∧ (V.setCell ⟨g' i, j, none⟩ v).cell? ⟨g' k, j, none⟩ = some (.complex .f64 (S1.E k j).1 (S1.E k j).2) := fun V v hV => by
                        obtain ⟨a1, a2, a3⟩ := hkp V hV
                        have n1 : g' i ≠ b := HLj.out.bg i hlt
                        have n2 : g' i ≠ q := HLj.out.tab.farq i hlt
                        have n3 : g' i ≠ g' k := fun e => by have := HLj.out.tab.inj i k hlt hk e; omega
                        exact ⟨(World.cell?_setCell_other _ _ _ _ (fun e => n1 (by injection e))).trans a1, (World.cell?_setCell_other _ _ _ _ (fun e => n2 (by injection e))).trans a2, (World.cell?_setCell_other _ _ _ _ (fun e => n3 (by injection e))).trans a3⟩
                      have HMul := Lib.hid hmul
                      have HSub := Lib.hid hsub
                      have HKP := Lib.hid hkp
                      have HKC := Lib.hid hkc
                      have HKS := Lib.hid hks
                      clear hmul hsub hkp hkc hks hEi hEk hqk hzk
                      go_wp2_with fail
                      go_cut [] (fun wx => Put B b q p n qc pc g' c' S1 Z' k i j w wx)
                      case first =>
                        refine wp_region_K 20 (by kernel_rfl) (Below wj.heap.size wj) (by kernel_rfl) (fun hsel hcl => ?_)
                        have hW0 := (Below.refl wj.heap.size wj).drew
                        refine wpAnyK_takeFree (i := 0) (v := ?vb0) rfl hsel hcl (by kernel_rfl) (by kernel_rfl) rfl (fun _ _ _ h => h) rfl hW0 ?hyb0 (fun hcl => ?hb0)
                        case hyb0 => (intro w'; go_simp; first | done | with_reducible rfl)
                        simp only [Act.put, List.setIfInBounds_toArray, List.set_cons_zero, List.set_cons_succ]
                        refine wpAnyK_takeFree (i := 1) (v := ?vb1) rfl hsel hcl (by kernel_rfl) (by kernel_rfl) rfl (fun _ _ _ h => h) rfl hW0 ?hyb1 (fun hcl => ?hb1)
                        case hyb1 => (intro w'; go_simp; first | done | with_reducible rfl)
                        simp only [Act.put, List.setIfInBounds_toArray, List.set_cons_zero, List.set_cons_succ]
                        refine wpAnyK_takeFree (i := 2) (v := ?vb2) rfl hsel hcl (by kernel_rfl) (by kernel_rfl) rfl (fun _ _ _ h => h) rfl hW0 ?hyb2 (fun hcl => ?hb2)
                        case hyb2 => (intro w'; go_simp; first | done | with_reducible rfl)
                        simp only [Act.put, List.setIfInBounds_toArray, List.set_cons_zero, List.set_cons_succ]
                        refine wpAnyK_takeFree (i := 3) (v := ?vb3) rfl hsel hcl (by kernel_rfl) (by kernel_rfl) rfl (fun _ _ _ h => h) rfl hW0 ?hyb3 (fun hcl => ?hb3)
                        case hyb3 => (intro w'; go_simp; first | done | with_reducible rfl)
                        simp only [Act.put, List.setIfInBounds_toArray, List.set_cons_zero, List.set_cons_succ]
                        refine wpAnyK_takeFree (i := 4) (v := ?vb4) rfl hsel hcl (by kernel_rfl) (by kernel_rfl) rfl (fun _ _ _ h => h) rfl hW0 ?hyb4 (fun hcl => ?hb4)
                        case hyb4 => (intro w'; go_simp; first | done | with_reducible rfl)
                        simp only [Act.put, List.setIfInBounds_toArray, List.set_cons_zero, List.set_cons_succ]
                        refine wpAnyK_takeNeed [18] (i := 5) (v := ?vb5) rfl hsel hcl (by kernel_rfl) (by kernel_rfl) rfl (by decide +kernel) (fun _ _ _ h => h) rfl hW0 ?hyb5 (fun hcl => ?hb5)
                        case hyb5 => ((intro V0 hV0; have e1 := HKP.out V0 hV0; have e2 := HKC.out V0 hV0); go_simp; first | done | with_reducible rfl)
                        simp only [Act.put, List.setIfInBounds_toArray, List.set_cons_zero, List.set_cons_succ]
                        refine wpAnyK_takeFree (i := 6) (v := ?vb6) rfl hsel hcl (by kernel_rfl) (by kernel_rfl) rfl (fun _ _ _ h => h) rfl hW0 ?hyb6 (fun hcl => ?hb6)
                        case hyb6 => (intro w'; go_simp; first | done | with_reducible rfl)
                        simp only [Act.put, List.setIfInBounds_toArray, List.set_cons_zero, List.set_cons_succ]
                        refine wpAnyK_takeFree (i := 7) (v := ?vb7) rfl hsel hcl (by kernel_rfl) (by kernel_rfl) rfl (fun _ _ _ h => h) rfl hW0 ?hyb7 (fun hcl => ?hb7)
                        case hyb7 => (intro w'; go_simp; first | done | with_reducible rfl)
                        simp only [Act.put, List.setIfInBounds_toArray, List.set_cons_zero, List.set_cons_succ]
                        refine wpAnyK_takeFree (i := 8) (v := ?vb8) rfl hsel hcl (by kernel_rfl) (by kernel_rfl) rfl (fun _ _ _ h => h) rfl hW0 ?hyb8 (fun hcl => ?hb8)
                        case hyb8 => (intro w'; go_simp; first | done | with_reducible rfl)
                        simp only [Act.put, List.setIfInBounds_toArray, List.set_cons_zero, List.set_cons_succ]
                        refine wpAnyK_takeFree (i := 9) (v := ?vb9) rfl hsel hcl (by kernel_rfl) (by kernel_rfl) rfl (fun _ _ _ h => h) rfl hW0 ?hyb9 (fun hcl => ?hb9)
                        case hyb9 => (intro w'; go_simp; first | done | with_reducible rfl)
                        simp only [Act.put, List.setIfInBounds_toArray, List.set_cons_zero, List.set_cons_succ]
                        refine wpAnyK_takeNeed [18, 17, 16, 15, 13, 12] (i := 10) (v := ?vb10) rfl hsel hcl (by kernel_rfl) (by kernel_rfl) rfl (by decide +kernel) (fun _ _ _ h => h) rfl hW0 ?hyb10 (fun hcl => ?hb10)
                        case hyb10 => ((intro V0 hV0; have e1 := HKP.out V0 hV0; have e2 := HKC.out V0 hV0); go_simp; first | done | with_reducible rfl)
                        simp only [Act.put, List.setIfInBounds_toArray, List.set_cons_zero, List.set_cons_succ]
                        refine wpAnyK_takeFree (i := 11) (v := ?vb11) rfl hsel hcl (by kernel_rfl) (by kernel_rfl) rfl (fun _ _ _ h => h) rfl hW0 ?hyb11 (fun hcl => ?hb11)
                        case hyb11 => (intro w'; go_simp; first | done | with_reducible rfl)
                        simp only [Act.put, List.setIfInBounds_toArray, List.set_cons_zero, List.set_cons_succ]
                        refine wpAnyK_takeFree (i := 12) (v := ?vb12) rfl hsel hcl (by kernel_rfl) (by kernel_rfl) rfl (fun _ _ _ h => h) rfl hW0 ?hyb12 (fun hcl => ?hb12)
                        case hyb12 => (intro w'; go_simp; first | done | with_reducible rfl)
                        simp only [Act.put, List.setIfInBounds_toArray, List.set_cons_zero, List.set_cons_succ]
                        refine wpAnyK_takeNeed [18, 17, 16, 15] (i := 13) (v := ?vb13) rfl hsel hcl (by kernel_rfl) (by kernel_rfl) rfl (by decide +kernel) (fun _ _ _ h => h) rfl hW0 ?hyb13 (fun hcl => ?hb13)
                        case hyb13 => ((intro V0 hV0; have e1 := HKP.out V0 hV0; have e2 := HKC.out V0 hV0); go_simp; first | done | with_reducible rfl)
                        simp only [Act.put, List.setIfInBounds_toArray, List.set_cons_zero, List.set_cons_succ]
                        refine wpAnyK_takeFree (i := 14) (v := ?vb14) rfl hsel hcl (by kernel_rfl) (by kernel_rfl) rfl (fun _ _ _ h => h) rfl hW0 ?hyb14 (fun hcl => ?hb14)
                        case hyb14 => (intro w'; go_simp; first | done | with_reducible rfl)
                        simp only [Act.put, List.setIfInBounds_toArray, List.set_cons_zero, List.set_cons_succ]
                        refine wpAnyK_takeFree (i := 15) (v := ?vb15) rfl hsel hcl (by kernel_rfl) (by kernel_rfl) rfl (fun _ _ _ h => h) rfl hW0 ?hyb15 (fun hcl => ?hb15)
                        case hyb15 => (intro w'; go_simp; first | done | with_reducible rfl)
                        simp only [Act.put, List.setIfInBounds_toArray, List.set_cons_zero, List.set_cons_succ]
                        refine wpAnyK_takeNeed [18, 17] (i := 16) (v := ?vb16) rfl hsel hcl (by kernel_rfl) (by kernel_rfl) rfl (by decide +kernel) (fun _ _ _ h => h) rfl hW0 ?hyb16 (fun hcl => ?hb16)
                        case hyb16 => ((intro V0 hV0; have e1 := HKP.out V0 hV0; have e2 := HKC.out V0 hV0); go_simp; first | done | with_reducible rfl)
                        simp only [Act.put, List.setIfInBounds_toArray, List.set_cons_zero, List.set_cons_succ]
                        refine wpAnyK_one (i := 17) rfl (by decide +kernel) rfl rfl ?_
                        go_simp
                        refine (HMul.out _ hW0).mono ?_
                        rintro e V ⟨m, rfl, hm, lm, hV⟩
                        refine ⟨hV, ?_⟩
                        clear hW0
                        refine wpAnyK_one (i := 18) rfl (by decide +kernel) rfl rfl ?_
                        go_simp
                        refine (HSub.out _ _ hm hV).mono ?_
                        rintro e V' ⟨z, rfl, hz, lz, hV'⟩
                        refine ⟨hV', ?_⟩
                        clear hV hm lm
                        obtain ⟨e4, e5⟩ := HKC.out V' hV'
                        refine wpAnyK_one (i := 19) rfl (by decide +kernel) rfl rfl ?_
                        go_simp
                        try (refine ⟨hV', ?_⟩)
                        refine wpAnyK_store (st := 20) rfl (by decide +kernel) rfl ?_
                        go_simp
                        refine wpAny_done (by decide +kernel) ?_ _
                        all_goals
                          have HZz := Lib.hid hz
                          have HVV := Lib.hid hV'
                          have LZz := Lib.hid lz
                          clear hz hV' lz
                          go_wp2_with fail
                          go_meet
                          refine ⟨z, HZz.out, LZz.out, ?_, ?_⟩
                          · have h := HLj.out.below HVV.out
                            exact h.set hlt hltj LZz.out
                          · exact (HBj.out.trans (HVV.out.mono (Nat.le_trans HB.out HBj.out.size))).setCell (HLj.out.tab.gB i hlt) _
                      case rest =>
                        obtain ⟨z, hz, lz, hLo, hBel⟩ := hcut
                        rename World => wk
                        have HZz := Lib.hid hz
                        have HLk := Lib.hid hLo
                        have HBk := Lib.hid hBel
                        have hcz := hLo.tab.cellZ hlt hltj
                        rw [show (⟨upd Z' i j z, S1.o, S1.s⟩ : El).E = upd Z' i j z from rfl, upd_same] at hcz
                        obtain ⟨f2, hf2⟩ : ∃ x, pFinite (elE S1.E k i j) = x := ⟨_, rfl⟩
                        have hfi := Finite_c z.1 z.2 lz.1 lz.2
                        rw [show (cn .f64 z.1, cn .f64 z.2) = elE S1.E k i j from hz, hf2] at hfi
                        have HFi := Lib.hid hfi
                        have HF2 := Lib.hid hf2
                        clear hz lz hLo hBel hfi hf2 HMul HSub HKP HKC HKS HLj HBj y1 hzi hzf
                        have hfr : (f0 && fineRow (elE S1.E k) k i (j + 1 - (k + 1))) = (f1 && f2) := by
                          rw [← HF1r.out, ← HF2.out, show j + 1 - (k + 1) = (j - (k + 1)) + 1 by omega, fineRow, show k + 1 + (j - (k + 1)) = j by omega, Bool.and_assoc]
                        have HFr := Lib.hid hfr
                        clear hfr
                        cases f1
                        · go_wp2
                          go_roundw
                          case rel =>
                            refine ⟨j + 1, upd Z' i j z, by omega, hltj, by go_num, ?_, HLk.out, HRow.out.next hkj (.inr HZz.out), HBk.out⟩
                            rw [HFr.out]; rfl
                          case measure => simp [intOf]; omega
                        · go_wp2_with fail
                          refine (HFi.out _).mono ?_
                          rintro e w' ⟨d, rfl, rfl⟩
                          go_wp2
                          go_roundw
                          case rel =>
                            refine ⟨j + 1, upd Z' i j z, by omega, hltj, by go_num, ?_, HLk.out.below (below_drewN (Below.refl _ _) _), HRow.out.next hkj (.inr HZz.out), below_drewN HBk.out _⟩
                            rw [HFr.out]; rfl
                          case measure => simp [intOf]; omega
                    · have e : n = j := by omega
                      subst e
                      have hci := HLj.out.tab.cellZ hlt hk
                      have hcf := (HLj.out.tab.row i hlt).frozen k
                      clear y1
                      go_wp2
                      go_roundw
                      case rel =>
                        refine ⟨i + 1, upd Z' i k zf, by omega, hlt, by go_num, ?_, HLj.out.set hlt hk LZf.out, HRow.out.finish hki2 (.inr (by rw [elE_fac hki2, HFe.out]; exact HZf.out)), HBj.out.setCell (HLj.out.tab.gB i hlt) _⟩
                        rw [← HF1r.out, ← HF0.out, show i + 1 - (k + 1) = (i - (k + 1)) + 1 by omega, fineTo, show k + 1 + (i - (k + 1)) = i by omega]
                      case measure => simp [intOf]; omega
            · have e : n = i := by omega
              subst e
              have he : elErr n k S = if f0 then 0 else 6 := by
                unfold elErr elNil elPiv
                rw [HNl.out, HV.out, ← HS1.out, ← HF0.out]; rfl
              have hst : elStep n k S = elNext k S1 := by
                unfold elStep elPiv
                rw [HV.out, ← HS1.out]
              have HE := Lib.hid he
              have HSt := Lib.hid hst
              clear he hst
              cases f0
              · go_wp2
                go_ret
                refine ⟨by rw [HE.out]; rfl, HBi.out, fun h => ?_⟩
                rw [HE.out] at h; cases h
              · go_wp2
                go_ret
                refine ⟨by rw [HE.out]; rfl, HBi.out, fun h => ⟨g', c', ?_⟩⟩
                rw [HSt.out]
                exact { HLi.out with tab := HLi.out.tab.congr fun a b ha hb => HEl.out.done HF1.out hk HF0.out a b ha hb }
      · rw [if_pos rfl, if_pos rfl] at HCh
        go_wp2_with fail
        refine HCh.out.mono ?_
        rintro e W2 ⟨rfl, d, rfl⟩
        go_wp2
        go_ret
        have he : elErr n k S = 7 := by unfold elErr elNil; rw [HNl.out]; rfl
        exact ⟨by rw [he]; rfl, (HBw.out.mono HB.out).trans (below_drewN (Below.refl _ _) _), fun h => by rw [he] at h; cases h⟩
end Go.Proofs.Ytandllekeimpgaa
