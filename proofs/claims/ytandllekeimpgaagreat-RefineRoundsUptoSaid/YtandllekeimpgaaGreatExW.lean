/- Exact numbers of 72 limbs: the functions of gridworkref01. -/
import Derived.Test.YtandllekeimpgaaGreatExP
import Derived.Test.YtandllekeimpgaaGreatRegK
import Derived.Test.YtandllekeimpgaaGreatExt
import Derived.Deep.WholeRow
import Derived.Deep.DeepCutAuto
import Derived.Deep.CutBlock
namespace Go.Proofs.YtandllekeimpgaaGreat
open Go.RowKit Fl Ieee
set_option maxRecDepth 20000
theorem belowE_new (w : World) (o : Obj) : Below w.heap.size w (w.alloc o) := (Below.refl _ w).alloc (Nat.le_refl _) o
theorem rowE_keep {Z V : World} {b : Nat} {o : Obj} (h : Below Z.heap.size Z V) (hr : Z.heap[b]? = some o) : V.heap[b]? = some o := by
  have hl : b < Z.heap.size := by
    rcases Nat.lt_or_ge b Z.heap.size with h | h
    · exact h
    · rw [Array.getElem?_eq_none h] at hr; cases hr
  rw [h.block b hl]; exact hr
theorem rowE_alloc {Z : World} {b : Nat} {o o' : Obj} (hr : Z.heap[b]? = some o) : (Z.alloc o').heap[b]? = some o := rowE_keep (belowE_new Z o') hr
theorem rowE_new2 (Z : World) (o o' : Obj) : ((Z.alloc o).alloc o').heap[Z.heap.size + 1]? = some o' := by
  have h := heap_alloc_last (Z.alloc o) o'
  simpa using h
theorem heapE_set (W : World) (b i : Nat) (cs : Array Value) (t : TypeId) (v : Value) (h : W.heap[b]? = some (.cells cs t)) : (W.setCell ⟨b, i, none⟩ v).heap[b]? = some (.cells (cs.setIfInBounds i v) t) := by
  exact heap_setCell_same W b i cs t v h
/-- While limbs are added. -/
structure PlW (w wr : World) (a b : Int) (k : Nat) : Prop where
  x : wr.heap[w.heap.size]? = some (.cells (mixL (a + b) a k) 143)
  y : wr.heap[w.heap.size + 1]? = some (.cells (lim b) 143)
  z : wr.heap[w.heap.size + 2]? = some (.cells Tryz.zeroCells143 143)
  bel : Below w.heap.size w wr
theorem PlW.start (w : World) (a b : Int) : PlW w (((w.alloc (.cells (lim a) 143)).alloc (.cells (lim b) 143)).alloc (.cells Tryz.zeroCells143 143)) a b 0 where
  x := by rw [mixL_zero]; exact rowE_alloc (rowE_alloc (heap_alloc_last w _))
  y := rowE_alloc (rowE_new2 w _ _)
  z := by
    have h := heap_alloc_last ((w.alloc (.cells (lim a) 143)).alloc (.cells (lim b) 143)) (.cells Tryz.zeroCells143 143)
    simpa using h
  bel := ((belowE_new w _).new (Nat.le_refl _) _).new (Nat.le_refl _) _
theorem PlW.next {w wr : World} {a b : Int} {k : Nat} (h : PlW w wr a b k) (hk : k < 72) : PlW w (wr.setCell ⟨w.heap.size, k, none⟩ (.int .u64 (limb (a + b) k))) a b (k + 1) where
  x := by rw [heapE_set _ _ k _ _ _ h.x, mixL_set hk]
  y := by rw [Below.heap_setCell _ _ _ _ (by show w.heap.size + 1 ≠ w.heap.size; omega)]; exact h.y
  z := by rw [Below.heap_setCell _ _ _ _ (by show w.heap.size + 2 ≠ w.heap.size; omega)]; exact h.z
  bel := h.bel.setCell (Nat.le_refl _) _
theorem PlW.drewN {w wr : World} {a b : Int} {k : Nat} (h : PlW w wr a b k) (d : Nat) : PlW w (wr.drewN d) a b k := ⟨h.x, h.y, h.z, below_drewN h.bel d⟩
theorem setRow_grown {W : World} {g : Nat} {cs : Array Value} : W.grownBy (W.setRow g cs) (some g) where
  os := rfl
  tape := rfl
  output := rfl
  size := by simp [World.setRow]
  block k _ hk := by
    show (W.heap.modify g _)[k]? = _
    rw [Array.getElem?_modify, if_neg (fun e => hk (by rw [e]))]
theorem exec_load_row {P : Program} {a : Act} {o : Oper} {V : World} (ty : TypeId) (x : Operand) (ho : o.op = .load ty x) (g : Nat) (hx : a.eval x = .pointer (some ⟨g, 0, none⟩)) (t : TypeId) (cs : Array Value) (fr : Nat × Nat) (d : TypeDesc) (hg : V.heap[g]? = some (.cells cs t fr))
    (hu : P.underlying ty = some d) (hd : (match d with | .struct _ | .array _ _ => true | _ => false) = true) (hi : (P.info? ty).map (·.size) = some cs.size) : (execOp a.eval o).run P V = .ok (.value (.agg cs)) V := by
  unfold execOp
  simp only [ho, hx, Instr.loadAt, Instr.sureAddr, Sem.run_bind, Sem.run_pure, Result.andThen_ok, run_loadVar_row V g t ty cs fr d hg hu hd hi]
theorem frozen_of_row {W : World} {b i : Nat} {cs : Array Value} {t : TypeId} (h : W.heap[b]? = some (.cells cs t)) : W.frozen? ⟨b, i, none⟩ = false := by
  simp [World.frozen?, h]
theorem Plus_c (a b : Int) (w : World) : Calls Tryz.prog 129 #[.agg (lim a), .agg (lim b)] w fun e w' => e = .returned (.agg (lim (a + b))) ∧ Below w.heap.size w w' := by
  go_enter Tryz.func129, Tryz.ntmps129
  go_wp2
  go_loopw [5, 6] (fun cv iv wr => ∃ k : Nat, k ≤ 72 ∧ iv = .int .i64 (k : Nat) ∧ cv = .int .u64 (car a b k) ∧ PlW w wr a b k) (fun _ iv _ => 72 - (intOf iv).toNat)
  case atStart => exact ⟨0, by omega, rfl, by rw [car_zero], PlW.start w a b⟩
  case round =>
    obtain ⟨k, hk, rfl, rfl, hP⟩ := hrel
    have HP := Lib.hid hP
    by_cases hlt : k < 72
    · have hlti : (k : Int) < 72 := by omega
      have hk0 : (0 : Int) ≤ k := by omega
      obtain ⟨la, hla⟩ : ∃ la, la = limb a k := ⟨_, rfl⟩
      obtain ⟨lb, hlb⟩ : ∃ lb, lb = limb b k := ⟨_, rfl⟩
      obtain ⟨cc, hcc⟩ : ∃ cc, cc = car a b k := ⟨_, rfl⟩
      rw [← hcc]
      rename World => wr
      have c1 : ∀ D, (wr.drewN D).cell? ⟨w.heap.size, k, none⟩ = some (.int .u64 la) := fun _ => by
        show wr.cell? _ = _
        rw [cell_of_row _ _ k _ _ _ hP.x, mixL_at hlt, if_neg (Nat.lt_irrefl _), hla]
      have c2 : ∀ D, (wr.drewN D).cell? ⟨w.heap.size + 1, k, none⟩ = some (.int .u64 lb) := fun _ => by
        show wr.cell? _ = _
        rw [cell_of_row _ _ k _ _ _ hP.y, lim_at hlt, hlb]
      have c3 : ∀ D, (wr.drewN D).frozen? ⟨w.heap.size, k, none⟩ = false := fun _ => by
        show wr.frozen? _ = _
        exact frozen_of_row hP.x
      have l1 := limb_nonneg a k
      have l2 := limb_lt a k
      have l3 := limb_nonneg b k
      have l4 := limb_lt b k
      obtain ⟨l5, l6⟩ := car_le a b k
      have e1 := limb_add a b k
      have e2 := car_succ a b k
      rw [← hla, ← hlb, ← hcc] at e1 e2
      rw [← hla] at l1 l2
      rw [← hlb] at l3 l4
      rw [← hcc] at l5 l6
      clear hP hla hlb hcc
      have HE := Lib.hid (And.intro e1 e2)
      obtain ⟨S, o1, hS, hSc⟩ : ∃ (S : Int) (o1 : Bool), IntKind.u64.wrap (la + lb) = S ∧ (decide (S < la) = o1 ∧ 0 ≤ S ∧ S < 18446744073709551616 ∧ la + lb = S + if o1 then 18446744073709551616 else 0) := by
        by_cases h : la + lb < 18446744073709551616
        · exact ⟨la + lb, false, by rw [u64_wrap]; omega, decide_eq_false (by omega), by omega, by omega, by simp⟩
        · exact ⟨la + lb - 18446744073709551616, true, by rw [u64_wrap]; omega, decide_eq_true (by omega), by omega, by omega, by simp⟩
      obtain ⟨hS1, hS2, hS3, hS4⟩ := hSc
      obtain ⟨T, o2, hT, hTc⟩ : ∃ (T : Int) (o2 : Bool), IntKind.u64.wrap (S + cc) = T ∧ (decide (T < S) = o2 ∧ 0 ≤ T ∧ T < 18446744073709551616 ∧ S + cc = T + if o2 then 18446744073709551616 else 0) := by
        by_cases h : S + cc < 18446744073709551616
        · exact ⟨S + cc, false, by rw [u64_wrap]; omega, decide_eq_false (by omega), by omega, by omega, by simp⟩
        · exact ⟨S + cc - 18446744073709551616, true, by rw [u64_wrap]; omega, decide_eq_true (by omega), by omega, by omega, by simp⟩
      obtain ⟨hT1, hT2, hT3, hT4⟩ := hTc
      have HF := Lib.hid (show limb (a + b) k = T ∧ car a b (k + 1) = if o1 || o2 then 1 else 0 by
        rw [HE.out.1, HE.out.2]
        cases o1 <;> cases o2 <;> simp at hS4 hT4 ⊢ <;> omega)
      clear HE e1 e2 l1 l2 l3 l4 l5 l6 hS2 hS3 hS4 hT2 hT3 hT4
      cases o1 <;> cases o2
      all_goals
        first | replace hS1 := of_decide_eq_true hS1 | replace hS1 := of_decide_eq_false hS1
        first | replace hT1 := of_decide_eq_true hT1 | replace hT1 := of_decide_eq_false hT1
        go_wp2
        go_quiet (fail)
        go_wp2
        go_roundw
        case rel =>
          refine ⟨k + 1, hlt, by go_num, by rw [HF.out.2]; rfl, ?_⟩
          rw [← HF.out.1]
          exact (HP.out.drewN _).next hlt
        case measure => simp [intOf]; omega
    · have e : k = 72 := by omega
      subst e
      have hx := hP.x
      rw [mixL_end (Nat.le_refl _)] at hx
      have hz := hP.z
      rename World => wr
      have HX := Lib.hid hx
      have HZ := Lib.hid hz
      have HBe := Lib.hid hP.bel
      have hsz : Tryz.zeroCells143.size = 72 := by kernel_rfl
      have HSz := Lib.hid hsz
      clear hP HP hx hz hsz
      go_upto_region 14 with fail
      refine wp_region_lit ?_
      refine wpList_load_row rfl 143 _ rfl w.heap.size rfl 143 (lim (a + b)) (0, 0) _ HX.out Tryz.underlying143 rfl (by rw [lim_size]; kernel_rfl) ?_
      refine wpList_store_row rfl 143 _ _ rfl (w.heap.size + 2) (lim (a + b)) rfl rfl 143 _ HZ.out (by rw [lim_size]; kernel_rfl) (by rw [lim_size]; exact HSz.out) (mixL_one _ _ _) ?_
      obtain ⟨V, hV⟩ : ∃ V, V = wr.setRow (w.heap.size + 2) (lim (a + b)) := ⟨_, rfl⟩
      have hrow : V.heap[w.heap.size + 2]? = some (.cells (lim (a + b)) 143) := by rw [hV]; exact setRow_heap _ _ _ _ _ _ HZ.out
      have hbel : Below w.heap.size w V := by rw [hV]; exact HBe.out.grown setRow_grown HBe.out.size (fun j hj => by injection hj with hj; omega)
      have HR := Lib.hid hrow
      have HB := Lib.hid hbel
      rw [← hV]
      clear hV hrow hbel HX HZ HBe HSz
      go_wp2
      refine bodyPost_ret (v := .agg (lim (a + b))) (results_cell_row rfl _ _ (w.heap.size + 2) 143 (lim (a + b)) (0, 0) _ rfl HR.out Tryz.underlying143 rfl (by rw [lim_size]; kernel_rfl)) rfl ?_
      exact ⟨rfl, HB.out⟩
theorem zero_lim : Tryz.zeroCells143 = lim 0 := by kernel_rfl
theorem one_lim : (Tryz.zeroCells143).setIfInBounds 0 (.int .u64 1) = lim 1 := by kernel_rfl
/-- While limbs are turned. -/
structure OpW (w wr : World) (a : Int) (k : Nat) : Prop where
  x : wr.heap[w.heap.size]? = some (.cells (mixL (-1 - a) a k) 143)
  z : wr.heap[w.heap.size + 1]? = some (.cells Tryz.zeroCells143 143)
  bel : Below w.heap.size w wr
theorem OpW.start (w : World) (a : Int) : OpW w ((w.alloc (.cells (lim a) 143)).alloc (.cells Tryz.zeroCells143 143)) a 0 where
  x := by rw [mixL_zero]; exact rowE_alloc (heap_alloc_last w _)
  z := rowE_new2 w _ _
  bel := (belowE_new w _).new (Nat.le_refl _) _
theorem OpW.next {w wr : World} {a : Int} {k : Nat} (h : OpW w wr a k) (hk : k < 72) : OpW w (wr.setCell ⟨w.heap.size, k, none⟩ (.int .u64 (limb (-1 - a) k))) a (k + 1) where
  x := by rw [heapE_set _ _ k _ _ _ h.x, mixL_set hk]
  z := by rw [Below.heap_setCell _ _ _ _ (by show w.heap.size + 1 ≠ w.heap.size; omega)]; exact h.z
  bel := h.bel.setCell (Nat.le_refl _) _
theorem OpW.drewN {w wr : World} {a : Int} {k : Nat} (h : OpW w wr a k) (d : Nat) : OpW w (wr.drewN d) a k := ⟨h.x, h.z, below_drewN h.bel d⟩
theorem xor_all (x : Nat) (h : x < 18446744073709551616) : 18446744073709551615 ^^^ x = 18446744073709551615 - x := by
  have h1 : (BitVec.allOnes 64 ^^^ BitVec.ofNat 64 x).toNat = (~~~(BitVec.ofNat 64 x)).toNat := by rw [BitVec.allOnes_xor]
  rw [BitVec.toNat_xor, BitVec.toNat_not, BitVec.toNat_allOnes, BitVec.toNat_ofNat, Nat.mod_eq_of_lt (by exact h)] at h1
  exact h1
theorem not_limb {z : Int} (h0 : 0 ≤ z) (h1 : z < 18446744073709551616) : bits .xor .u64 (if IntKind.u64.signed = true then -1 else IntKind.u64.max) z = 18446744073709551615 - z := by
  obtain ⟨n, rfl⟩ : ∃ n : Nat, z = n := ⟨z.toNat, by omega⟩
  have h := u64_xor_nat 18446744073709551615 n (by omega) (by omega)
  rw [xor_all n (by omega)] at h
  have e : (if IntKind.u64.signed = true then -1 else IntKind.u64.max) = ((18446744073709551615 : Nat) : Int) := by decide
  rw [e, h]; omega
theorem Opp_c (a : Int) (w : World) : Calls Tryz.prog 123 #[.agg (lim a)] w fun e w' => e = .returned (.agg (lim (-a))) ∧ Below w.heap.size w w' := by
  go_enter Tryz.func123, Tryz.ntmps123
  go_wp2
  go_loopw [3] (fun iv wr => ∃ k : Nat, k ≤ 72 ∧ iv = .int .i64 (k : Nat) ∧ OpW w wr a k) (fun iv _ => 72 - (intOf iv).toNat)
  case atStart => exact ⟨0, by omega, rfl, OpW.start w a⟩
  case round =>
    obtain ⟨k, hk, rfl, hP⟩ := hrel
    have HP := Lib.hid hP
    rename World => wr
    by_cases hlt : k < 72
    · have hlti : (k : Int) < 72 := by omega
      have hk0 : (0 : Int) ≤ k := by omega
      obtain ⟨la, hla⟩ : ∃ la, la = limb a k := ⟨_, rfl⟩
      have c1 : wr.cell? ⟨w.heap.size, k, none⟩ = some (.int .u64 la) := by
        rw [cell_of_row _ _ k _ _ _ hP.x, mixL_at hlt, if_neg (Nat.lt_irrefl _), hla]
      have c3 : wr.frozen? ⟨w.heap.size, k, none⟩ = false := frozen_of_row hP.x
      have HF := Lib.hid (limb_not a k)
      rw [← hla] at HF
      have c4 := Lib.hid (not_limb (limb_nonneg a k) (limb_lt a k))
      rw [← hla] at c4
      clear hP hla
      go_wp2
      go_roundw
      case rel =>
        refine ⟨k + 1, hlt, by go_num, ?_⟩
        rw [c4.out, ← HF.out]
        exact HP.out.next hlt
      case measure => simp [intOf]; omega
    · have e : k = 72 := by omega
      subst e
      have hx := hP.x
      rw [mixL_end (Nat.le_refl _)] at hx
      have HX := Lib.hid hx
      have HZ := Lib.hid hP.z
      have HBe := Lib.hid hP.bel
      clear hP HP hx
      go_upto_region 7 with fail
      rw [one_lim]
      obtain ⟨q, hq⟩ : ∃ q, q = wr.heap.size := ⟨_, rfl⟩
      obtain ⟨V0, hV0⟩ : ∃ V0, V0 = wr.alloc (.cells (lim 1) 143) := ⟨_, rfl⟩
      rw [← hV0, ← hq]
      have H1 := Lib.hid (show V0.heap[q]? = some (.cells (lim 1) 143) by rw [hV0, hq]; exact heap_alloc_last wr _)
      have HX' := Lib.hid (show V0.heap[w.heap.size]? = some (.cells (lim (-1 - a)) 143) by rw [hV0]; exact rowE_alloc HX.out)
      have HZ' := Lib.hid (show V0.heap[w.heap.size + 1]? = some (.cells Tryz.zeroCells143 143) by rw [hV0]; exact rowE_alloc HZ.out)
      have HB' := Lib.hid (show Below w.heap.size w V0 by rw [hV0]; exact HBe.out.new (Nat.le_refl _) _)
      have HPl := Lib.hid (Plus_c (-1 - a) 1 V0)
      rw [show -1 - a + 1 = -a by omega] at HPl
      clear hV0 hq HX HZ HBe
      refine wp_region_lit ?_
      refine wpList_load_row rfl 143 _ rfl w.heap.size rfl 143 (lim (-1 - a)) (0, 0) _ HX'.out Tryz.underlying143 rfl (by rw [lim_size]; kernel_rfl) ?_
      refine wpList_load_row rfl 143 _ rfl q rfl 143 (lim 1) (0, 0) _ H1.out Tryz.underlying143 rfl (by rw [lim_size]; kernel_rfl) ?_
      go_wp2_with fail
      refine HPl.out.mono ?_
      rintro e V1 ⟨rfl, hb⟩
      have HZ1 := Lib.hid (rowE_keep hb HZ'.out)
      have HB1 := Lib.hid (HB'.out.trans (hb.mono HB'.out.size))
      clear hb HPl H1 HX' HZ' HB'
      dsimp only
      rename_i hK
      refine hK _ _ ?_
      refine wpList_store_row rfl 143 _ _ rfl (w.heap.size + 1) (lim (-a)) rfl rfl 143 _ HZ1.out (by rw [lim_size]; kernel_rfl) (by rw [lim_size]; kernel_rfl) (mixL_one _ _ _) ?_
      obtain ⟨V, hV⟩ : ∃ V, V = V1.setRow (w.heap.size + 1) (lim (-a)) := ⟨_, rfl⟩
      have hrow : V.heap[w.heap.size + 1]? = some (.cells (lim (-a)) 143) := by rw [hV]; exact setRow_heap _ _ _ _ _ _ HZ1.out
      have hbel : Below w.heap.size w V := by rw [hV]; exact HB1.out.grown setRow_grown HB1.out.size (fun j hj => by injection hj with hj; omega)
      have HR := Lib.hid hrow
      have HB := Lib.hid hbel
      rw [← hV]
      clear hV hrow hbel HZ1 HB1
      go_wp2
      refine bodyPost_ret (v := .agg (lim (-a))) (results_cell_row rfl _ _ (w.heap.size + 1) 143 (lim (-a)) (0, 0) _ rfl HR.out Tryz.underlying143 rfl (by rw [lim_size]; kernel_rfl)) rfl ?_
      exact ⟨rfl, HB.out⟩
def belowX (a : Int) : Bool := decide (9223372036854775808 ≤ limb a 71)
theorem Below_c (a : Int) (w : World) : Calls Tryz.prog 122 #[.agg (lim a)] w fun e w' => e = .returned (.bool (belowX a)) ∧ Below w.heap.size w w' := by
  have hrow := heap_alloc_last w (.cells (lim a) 143)
  obtain ⟨z, hz⟩ : ∃ z, z = limb a 71 := ⟨_, rfl⟩
  have c1 : (w.alloc (.cells (lim a) 143)).cell? ⟨w.heap.size, 71, none⟩ = some (.int .u64 z) := by
    rw [cell_of_row _ _ 71 _ _ _ hrow, lim_at (by omega), hz]
  have HB := Lib.hid (belowE_new w (.cells (lim a) 143))
  unfold belowX
  rw [← hz]
  have h0 : 0 ≤ z := by rw [hz]; exact limb_nonneg _ _
  have h1 : z < 18446744073709551616 := by rw [hz]; exact limb_lt _ _
  clear hz hrow
  go_enter Tryz.func122, Tryz.ntmps122
  go_wp2
  go_ret
  refine ⟨ret_bool ?_, HB.out⟩
  by_cases h : 9223372036854775808 ≤ z
  · rw [decide_eq_true h, show z / 9223372036854775808 = 1 by omega]; rfl
  · rw [decide_eq_false h, show z / 9223372036854775808 = 0 by omega]; rfl
end Go.Proofs.YtandllekeimpgaaGreat
