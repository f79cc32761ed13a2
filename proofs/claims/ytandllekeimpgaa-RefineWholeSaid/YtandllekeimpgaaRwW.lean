/- Layer 11: whole parts: the law's walk. -/
import Derived.Test.YtandllekeimpgaaRwQ
import Derived.Test.YtandllekeimpgaaRwX
import Derived.Test.YtandllekeimpgaaRf5
import Derived.Test.YtandllekeimpgaaMX21
import Derived.Test.YtandllekeimpgaaRegK
import Derived.Deep.DeepCutAuto
import Derived.Deep.CutBlock
import Derived.Deep.QuietTactic
import Derived.Deep.RegionHeld3
import Derived.Maps.AppendAt
namespace Go.Proofs.Ytandllekeimpgaa
open Go.RowKit Fl Ieee
set_option maxRecDepth 20000
attribute [local go_sem] run_store_float run_store_complex
theorem wrap_small11 {x : Int} (h : x.natAbs < 9007199254740992) : wrap64 x = x := by unfold wrap64; omega
theorem feq_order {x y : Nat} (h : feq .f64 x y = true) : FloatKind.f64.format.order x y = some Ordering.eq := by
  unfold feq at h
  simpa using h
theorem wp_append_at {P : Program} {w : World} {o : Oper} {a : Act} {K : Act → World → Prop} {Q : Exit → Act → World → Prop} (s x : Operand) (t : TypeId)
    (ho : o.op = .call { callee := .builtin .append, args := #[s, x], argTypes := #[t, t] })
    (base : Nat) (e : TypeId) (i : TypeInfo) (z : Value) (size bytes : Nat) (ht : P.underlying t = some (.slice e)) (hi : P.info? e = some i) (hz : i.zero = some z)
    (hsize : i.size = size) (hby : i.bytes = bytes) (hzs : z.cells.size = size) (hsz : 0 < size)
    (v : Value) (n : Nat) (xs : List Value) (hs : a.eval s = v) (hown : w.ownsRow base e size v n xs)
    (ad : Addr) (m c : Nat) (news : List Value) (hx : a.eval x = .slice (some ad) m c) (hl : news.length = m * size) (hnews : ∀ j u, news[j]? = some u → w.cell? (ad.add j) = some u) (h1 : ∀ u ∈ news, u.oneCell' = true)
    (h63 : n + m ≤ maxLen) (hbytes : (n + m) * bytes ≤ 140737488355328) (hbase : base ≤ w.heap.size)
    (h : ∀ v' w', w'.ownsRow base e size v' (n + m) (xs ++ news) → w.grownBy w' v.ownBlock → (v'.ownBlock = v.ownBlock ∨ v'.ownBlock = some w.heap.size) → K (a.put o.dst v') w') :
    Oper.wp P o a w K Q := by
  obtain ⟨v', w', hr, h2, h3, h4, h5⟩ := run_append_own_at (P := P) w base t o.type e i z size bytes ht hi hz hsize hby hzs hsz v n xs hown ad m c news hl hnews h1 h63 hbytes hbase
  unfold Oper.wp execOp
  simp only [ho, resolve, invoke, builtin, Sem.run_bind, Sem.run_pure, Result.andThen_ok, List.map_toArray, List.map_cons, List.map_nil, hs, hx, hr]
  exact h _ _ h2 h3 h5
theorem smL_succ (l : List (Int × Int)) (n : Nat) : nums (smL l (n + 1)) = nums (smL l n) ++ [.complex .f64 (smC (pAt l n)).1 (smC (pAt l n)).2] := by unfold smL; rw [List.range_succ, List.map_append]; simp [nums]
theorem rgL_succ (l : List (Int × Int)) (n : Nat) : nums (rgL l (n + 1)) = nums (rgL l n) ++ [.complex .f64 (rgC (pAt l n)).1 (rgC (pAt l n)).2] := by unfold rgL; rw [List.range_succ, List.map_append]; simp [nums]
/-- The matrix is being filled. -/
structure FmK (w V : World) (R C : Nat) (l : List (Int × Int)) (i : Nat) (s : Value) : Prop where
  row : V.heap[w.heap.size]? = some (.cells #[.int .i64 (R : Nat), .int .i64 (C : Nat), s] 28)
  own : V.ownsRow (w.heap.size + 1) 45 1 s i (nums (smL l i))
  bel : Below w.heap.size w V
theorem FmK.cells {w V W : World} {R C : Nat} {l : List (Int × Int)} {i : Nat} {s : Value} (h : FmK w V R C l i s) (hb : Below (w.heap.size + 1) V W) : W.cell? ⟨w.heap.size, 0, none⟩ = some (.int .i64 (R : Nat)) ∧ W.cell? ⟨w.heap.size, 1, none⟩ = some (.int .i64 (C : Nat)) ∧ W.cell? ⟨w.heap.size, 2, none⟩ = some s ∧ W.frozen? ⟨w.heap.size, 2, none⟩ = false := by
  obtain ⟨y0, y1, y2, f⟩ := box3 ((hb.block _ (Nat.lt_succ_self _)).trans h.row)
  exact ⟨y0, y1, y2, f 2⟩
/-- A number more. -/
theorem FmK.add {w V W W2 : World} {R C : Nat} {l : List (Int × Int)} {i : Nat} {s s' : Value} (h : FmK w V R C l i s) (hb : Below V.heap.size V W)
    (hown : W2.ownsRow (w.heap.size + 1) 45 1 s' (i + 1) (nums (smL l i) ++ [.complex .f64 (smC (pAt l i)).1 (smC (pAt l i)).2])) (hg : W.grownBy W2 s.ownBlock) : FmK w (W2.setCell ⟨w.heap.size, 2, none⟩ s') R C l (i + 1) s' where
  row := by
    have h1 : W2.heap[w.heap.size]? = some (.cells #[.int .i64 (R : Nat), .int .i64 (C : Nat), s] 28) := by
      rw [hg.block _ (Nat.lt_of_lt_of_le (row_lt h.row) hb.size) (fun e => by have := (h.own.lt _ e.symm).1; omega)]
      exact row_keep hb h.row
    rw [heap_setCell_same _ _ _ _ _ _ h1]
    rfl
  own := by
    rw [smL_succ]
    exact ownsRow_setCell_below hown (by show w.heap.size < w.heap.size + 1; omega) _
  bel := ((h.bel.trans (hb.mono h.bel.size)).grown hg (Nat.le_trans h.bel.size hb.size) (fun g hg => by have := (h.own.lt g hg).1; omega)).setCell (Nat.le_refl _) _
theorem FmK.lt {w V : World} {R C : Nat} {l : List (Int × Int)} {i : Nat} {s : Value} (h : FmK w V R C l i s) : w.heap.size < V.heap.size := row_lt h.row
theorem FmK.below {w V W : World} {R C : Nat} {l : List (Int × Int)} {i : Nat} {s : Value} (h : FmK w V R C l i s) (hb : Below V.heap.size V W) : FmK w W R C l i s :=
  ⟨row_keep hb h.row, own_below h.own hb, h.bel.trans (hb.mono h.bel.size)⟩
theorem set3bw {w : World} {b : Nat} {x0 x1 x2 u v s : Value} {T : TypeId} (h : w.heap[b]? = some (.cells #[x0, x1, x2] T)) :
    (((w.setCell ⟨b, 0, none⟩ u).setCell ⟨b, 1, none⟩ v).setCell ⟨b, 2, none⟩ s).heap[b]? = some (.cells #[u, v, s] T) := by
  have h1 := heap_setCell_same w b 0 _ T u h
  have h2 := heap_setCell_same _ b 1 _ T v h1
  have h3 := heap_setCell_same _ b 2 _ T s h2
  rw [h3]; rfl
theorem Copymw_c (r c : Int) (A : Option Addr) (l : List C) (cap : Nat) (w : World) (hl : l.length ≤ 1000000) (hA : A = none → cap = 0) (hr : Reads w w.heap.size A (nums l)) :
    Calls Try.prog 20 #[mval r c (.slice A l.length cap)] w (RetMs r c l w) := by
  have hb0 : Below w.heap.size w ((w.alloc (.cells #[.int .i64 r, .int .i64 c, .slice A l.length cap] 28)).alloc (.cells #[.int .i64 0, .int .i64 0, .slice none 0 0] 28)) := ((Below.refl _ w).new (Nat.le_refl _) _).new (Nat.le_refl _) _
  have HCp := Lib.hid (Copy_c A l cap _ hl hA ((hr.below hb0).more hb0.size))
  have HB0 := Lib.hid hb0
  clear hb0 hr hA hl
  go_enter Try.func20, Try.ntmps20
  go_wp2_with fail
  refine HCp.out.mono ?_
  rintro e W1 ⟨s, rfl, hown, hb⟩
  have hx := row_keep hb (row_alloc (heap_alloc_new w (.cells #[.int .i64 r, .int .i64 c, .slice A l.length cap] 28)))
  have hy := row_keep hb (row_new2 w (.cells #[.int .i64 r, .int .i64 c, .slice A l.length cap] 28) (.cells #[.int .i64 0, .int .i64 0, .slice none 0 0] 28))
  have HO := Lib.hid (own_base hown (show w.heap.size + 2 ≤ _ by simp))
  have HB := Lib.hid (HB0.out.trans (hb.mono HB0.out.size))
  obtain ⟨sA, sn, sc, rfl, -⟩ := slice_of_own hown
  obtain ⟨x0, x1, x2, fx⟩ := box3 hx
  obtain ⟨y0, y1, y2, fy⟩ := box3 hy
  have fx2 := fx 2
  have fy0 := fy 0
  have fy1 := fy 1
  have fy2 := fy 2
  have hy' : (W1.setCell ⟨w.heap.size, 2, none⟩ (.slice sA sn sc)).heap[w.heap.size + 1]? = some (.cells #[.int .i64 0, .int .i64 0, .slice none 0 0] 28) := by
    rw [Below.heap_setCell _ _ _ _ (by show w.heap.size + 1 ≠ w.heap.size; omega)]; exact hy
  obtain ⟨q0, q1, q2, -⟩ := box3 (set3bw (u := .int .i64 r) (v := .int .i64 c) (s := .slice sA sn sc) hy')
  clear hx hy hy' fx fy hb hown
  go_wp2
  refine bodyPost_ret (v := mval r c (.slice sA sn sc)) (by simp [results, Try.results20, go_sem, q0, q1, q2]) rfl ?_
  refine ⟨_, rfl, ?_, (((HB.out.setCell (Nat.le_refl _) _).setCell (Nat.le_succ _) _).setCell (Nat.le_succ _) _).setCell (Nat.le_succ _) _⟩
  exact own_base (ownsRow_setCell_below (ownsRow_setCell_below (ownsRow_setCell_below (ownsRow_setCell_below HO.out (by show w.heap.size < _; omega) _) (by show w.heap.size + 1 < _; omega) _) (by show w.heap.size + 1 < _; omega) _) (by show w.heap.size + 1 < _; omega) _) (by omega)
def negX (z : C) : C := (flip double z.1, flip double z.2)
theorem negX_eq {z : C} {p q : Int} (h : Wh z p q) : negX z = pNeg z := by
  unfold negX pNeg
  rw [fneg_of_not h.re.nan, fneg_of_not h.im.nan]
/-- The first j turned about. -/
def tL (L : List C) (j : Nat) : List C := (L.take j).map negX ++ L.drop j
theorem tL_len (L : List C) (j : Nat) : (tL L j).length = L.length := by unfold tL; simp; omega
theorem tL_at {L : List C} {j : Nat} {z : C} (h : L[j]? = some z) : (tL L j)[j]? = some z := by
  have hj := lt_of_some h
  unfold tL
  rw [List.getElem?_append_right (by simp; omega)]
  have e : j - ((L.take j).map negX).length = 0 := by simp; omega
  rw [e, List.getElem?_drop, Nat.add_zero]; exact h
theorem tL_succ {L : List C} {j : Nat} {z : C} (h : L[j]? = some z) : (tL L j).set j (negX z) = tL L (j + 1) := by
  have hj := lt_of_some h
  have hz : L[j] = z := by rw [List.getElem?_eq_getElem hj] at h; exact Option.some.inj h
  unfold tL
  have hl : ((L.take j).map negX).length = j := by simp; omega
  rw [List.set_append_right _ _ (by omega), hl, Nat.sub_self, List.take_succ_eq_append_getElem hj, List.map_append, List.append_assoc]
  congr 1
  rw [List.drop_eq_getElem_cons hj, hz]
  rfl
theorem tL_all (L : List C) : tL L L.length = L.map negX := by unfold tL; simp
theorem tL_zero (L : List C) : tL L 0 = L := by unfold tL; simp
/-- The copy is being turned about. -/
structure TnK (B : Nat) (w V : World) (g R C : Nat) (L : List Fl.C) (j : Nat) (s : Value) : Prop where
  row : V.heap[g]? = some (.cells #[.int .i64 (R : Nat), .int .i64 (C : Nat), s] 28)
  own : V.ownsRow B 45 1 s (tL L j).length (nums (tL L j))
  bel : Below B w V
  blk : ∀ b, s.ownBlock = some b → b < g
theorem TnK.below {B : Nat} {w V W : World} {g R C : Nat} {L : List Fl.C} {j : Nat} {s : Value} (h : TnK B w V g R C L j s) (hB : B ≤ V.heap.size) (hb : Below V.heap.size V W) : TnK B w W g R C L j s :=
  ⟨row_keep hb h.row, own_below h.own hb, h.bel.trans (hb.mono hB), h.blk⟩
theorem TnK.put {B : Nat} {w V : World} {g R C : Nat} {L : List Fl.C} {j gd n c : Nat} {z : Fl.C} (h : TnK B w V g R C L j (.slice (some ⟨gd, 0, none⟩) n c)) (hn : n = L.length) (hz : L[j]? = some z) :
    TnK B w (V.setCell ⟨gd, j, none⟩ (.complex .f64 (negX z).1 (negX z).2)) g R C L (j + 1) (.slice (some ⟨gd, 0, none⟩) n c) := by
  have hg := h.blk gd rfl
  have hlt := h.own.lt gd rfl
  have ho := h.own
  have e : n = (tL L j).length := by rw [tL_len]; exact hn
  subst e
  have hs := (ho.stored j (.complex .f64 (negX z).1 (negX z).2)).1
  rw [nums_set, tL_succ hz] at hs
  refine ⟨?_, ?_, h.bel.setCell hlt.1 _, h.blk⟩
  · rw [Below.heap_setCell _ _ _ _ (show g ≠ gd by omega)]; exact h.row
  · rw [show (tL L (j + 1)).length = (tL L j).length by rw [tL_len, tL_len]]; exact hs
theorem own_cell {W : World} {B g n c j : Nat} {e : TypeId} {u : Value} {xs : List Value} (h : W.ownsRow B e 1 (.slice (some ⟨g, 0, none⟩) n c) n xs) (hu : xs[j]? = some u) : W.cell? ⟨g, j, none⟩ = some u ∧ W.frozen? ⟨g, j, none⟩ = false := by
  refine ⟨?_, ?_⟩
  · have := h.cells (g := g) rfl j u hu
    have hz : (⟨g, 0, none⟩ : Addr).add j = ⟨g, j, none⟩ := by unfold Addr.add; split <;> simp_all
    rwa [hz] at this
  · rcases h.2 with ⟨e, -⟩ | ⟨g', cap, cur, hv, hb, hg, -⟩
    · cases e
    · injection hv with e1
      injection e1 with e1
      injection e1 with e1
      subst e1
      exact frozen_of_row W g j _ _ hg
theorem negs_lt {l : List C} (h : ltCs l) : ltCs (l.map negX) := fun z hz => by
  obtain ⟨y, hy, rfl⟩ := List.mem_map.1 hz
  exact ⟨flip_lt64 (h y hy).1, flip_lt64 (h y hy).2⟩
theorem negs_succ (l : List (Int × Int)) (n : Nat) : nums ((smL l (n + 1)).map negX) = nums ((smL l n).map negX) ++ [.complex .f64 (negX (smC (pAt l n))).1 (negX (smC (pAt l n))).2] := by unfold smL; rw [List.range_succ, List.map_append, List.map_append]; simp [nums]
theorem negs_at {l : List (Int × Int)} {n i : Nat} (h : i < n) : ((smL l n).map negX)[i]? = some (pNeg (smC (pAt l i))) := by
  rw [List.getElem?_map, smL_at h]
  show some (negX (smC (pAt l i))) = _
  rw [negX_eq (wh_sm (pAt l i)).1]
set_option linter.unusedSimpArgs false in
set_option maxHeartbeats 16000000 in
theorem Whole_walk (r0 c0 : Nat) (hr0 : r0 < 256) (hc0 : c0 < 256) (A0 A1 A2 : Option Addr) (l0 l1 l2 : List (Int × Int)) (k0 k1 k2 : Nat) (w : World) (h0 : RdP w w.heap.size A0 l0) (h1 : RdP w w.heap.size A1 l1) (h2 : RdP w w.heap.size A2 l2) (wf2 : wfs l2) :
    Calls Try.prog 4 #[.int .u8 (r0 : Nat), .int .u8 (c0 : Nat), .slice A0 l0.length k0, .slice A1 l1.length k1, .slice A2 l2.length k2] w (RetBB true w) := by
  obtain ⟨R, hR⟩ : ∃ R : Nat, R = r0 % 6 := ⟨_, rfl⟩
  obtain ⟨Cc, hC⟩ : ∃ C : Nat, C = c0 % 33 := ⟨_, rfl⟩
  have hR6 : R < 6 := by omega
  have hC33 : Cc < 33 := by omega
  have eR : (r0 : Int).tmod 6 = (R : Int) := by rw [Int.tmod_eq_emod_of_nonneg (by omega)]; omega
  have eC : (c0 : Int).tmod 33 = (Cc : Int) := by rw [Int.tmod_eq_emod_of_nonneg (by omega)]; omega
  obtain ⟨N, hN⟩ : ∃ N, N = R * Cc := ⟨_, rfl⟩
  have hN200 : N ≤ 200 := by rw [hN]; exact Nat.le_trans (Nat.mul_le_mul (show R ≤ 5 by omega) (show Cc ≤ 32 by omega)) (by decide)
  have eN : (R : Int) * (Cc : Int) = (N : Int) := by rw [hN]; simp
  have H0 := Lib.hid h0
  have H1 := Lib.hid h1
  have H2 := Lib.hid (And.intro h2 wf2)
  have HN := Lib.hid (And.intro hN (And.intro hR6 hC33))
  obtain ⟨j0, hj0, hy0, hy1, hy2⟩ := info_parts infoNum
  clear h0 h1 h2 wf2 hR hC hN
  go_enter Try.func4, Try.ntmps4
  go_wp2_with fail
  refine (lives_c _).mono ?_
  rintro e W1 ⟨rfl, hb⟩
  have B1 := Lib.hid hb
  clear hb
  have HF0 := Lib.hid (show FmK W1 (W1.alloc (.cells #[.int .i64 (R : Nat), .int .i64 (Cc : Nat), .slice none 0 0] 28)) R Cc l0 0 (.slice none 0 0) from ⟨heap_alloc_new _ _, World.ownsRow_nil _ _ _ _, below_new _ _⟩)
  have eN' : wrap64 ((R : Int) * (Cc : Int)) = (N : Int) := by rw [eN]; unfold wrap64; omega
  clear eN
  go_wp2_with fail
  go_loopw [13] (fun iv wr => ∃ (i : Nat) (s : Value), i ≤ N ∧ iv = .int .i64 (i : Nat) ∧ Hid (FmK W1 wr R Cc l0 i s)) (fun iv _ => N - (intOf iv).toNat)
  case atStart => exact ⟨0, _, Nat.zero_le _, rfl, HF0⟩
  case round =>
    obtain ⟨i, s, hi, rfl, HF⟩ := hrel
    rename World => wr
    clear HF0 eR eC
    obtain ⟨x0, x1, x2, x3⟩ := HF.out.cells (Below.refl _ _)
    by_cases hin : i < N
    · have hin' : (i : Int) < N := by omega
      have HKb := Lib.hid (fun V (hV : Below (W1.heap.size + 1) wr V) => HF.out.cells hV)
      have HRd := Lib.hid (fun V (hV : Below (W1.heap.size + 1) wr V) => (show RdP V V.heap.size A0 l0 from H0.out.below ((B1.out.trans (HF.out.bel.mono B1.out.size)).trans (hV.mono (Nat.le_succ_of_le B1.out.size)))))
      have HSz := Lib.hid (show i + 1 ≤ maxLen ∧ (i + 1) * 16 ≤ 140737488355328 from by unfold maxLen; omega)
      have HWr := Lib.hid (show W1.heap.size + 1 ≤ wr.heap.size from HF.out.lt)
      clear hi
      go_upto_region 8 with fail
      refine wp_region_K 10 (by kernel_rfl) (Below (W1.heap.size + 1) wr) (by kernel_rfl) (fun hsel hcl => ?_)
      have hW0 : Below (W1.heap.size + 1) wr wr.drew := (Below.refl _ _).drew
      have hw0 : Below wr.heap.size wr wr.drew := (Below.refl _ _).drew
      refine wpAnyK_takeFree (i := 0) (v := ?va0) rfl hsel hcl (by kernel_rfl) (by kernel_rfl) rfl (fun _ _ _ h => h) rfl hW0 ?hya0 (fun hcl => ?ha0)
      case hya0 => (intro w'; go_simp; first | done | with_reducible rfl)
      simp only [Act.put, List.setIfInBounds_toArray, List.set_cons_zero, List.set_cons_succ]
      refine wpAnyK_takeNeed [8] (i := 1) (v := ?va1) rfl hsel hcl (by kernel_rfl) (by kernel_rfl) rfl (by decide +kernel) (fun _ _ _ h => h) rfl hW0 ?hya1 (fun hcl => ?ha1)
      case hya1 => ((intro V0 hV0; obtain ⟨y0, y1, y2, y3⟩ := HKb.out V0 hV0); go_simp; first | done | with_reducible rfl)
      simp only [Act.put, List.setIfInBounds_toArray, List.set_cons_zero, List.set_cons_succ]
      refine wpAnyK_takeFree (i := 2) (v := ?va2) rfl hsel hcl (by kernel_rfl) (by kernel_rfl) rfl (fun _ _ _ h => h) rfl hW0 ?hya2 (fun hcl => ?ha2)
      case hya2 => (intro w'; go_simp; first | done | with_reducible rfl)
      simp only [Act.put, List.setIfInBounds_toArray, List.set_cons_zero, List.set_cons_succ]
      refine wpAnyK_takeFree (i := 3) (v := ?va3) rfl hsel hcl (by kernel_rfl) (by kernel_rfl) rfl (fun _ _ _ h => h) rfl hW0 ?hya3 (fun hcl => ?ha3)
      case hya3 => (intro w'; go_simp; first | done | with_reducible rfl)
      simp only [Act.put, List.setIfInBounds_toArray, List.set_cons_zero, List.set_cons_succ]
      refine wpAnyK_takeFree (i := 4) (v := ?va4) rfl hsel hcl (by kernel_rfl) (by kernel_rfl) rfl (fun _ _ _ h => h) rfl hW0 ?hya4 (fun hcl => ?ha4)
      case hya4 => (intro w'; go_simp; first | done | with_reducible rfl)
      simp only [Act.put, List.setIfInBounds_toArray, List.set_cons_zero, List.set_cons_succ]
      refine wpAnyK_one (i := 5) rfl (by decide +kernel) rfl rfl ?_
      go_simp
      refine (at11_c A0 l0 k0 i _ (HRd.out _ hW0)).mono ?_
      rintro e V1 ⟨rfl, hb1⟩
      have hw1 : Below wr.heap.size wr V1 := hw0.trans (hb1.mono hw0.size)
      refine ⟨hw1.mono HWr.out, ?_⟩
      clear hb1 hw0 hW0
      refine wpAnyK_one (i := 6) rfl (by decide +kernel) rfl rfl ?_
      go_simp
      refine (small_c _ _ _).mono ?_
      rintro e V2 ⟨rfl, hb1⟩
      have hw2 : Below wr.heap.size wr V2 := hw1.trans (hb1.mono hw1.size)
      refine ⟨hw2.mono HWr.out, ?_⟩
      clear hb1 hw1
      refine wpAnyK_one (i := 7) rfl (by decide +kernel) rfl rfl ?_
      go_simp
      have hw3 : Below wr.heap.size wr (V2.alloc (.cells #[.complex .f64 (FloatKind.f64.nearest ((pAt l0 i).1.tmod 1048576)) (FloatKind.f64.nearest ((pAt l0 i).2.tmod 1048576))] 45)) := hw2.new (Nat.le_refl _) _
      refine ⟨hw3.mono HWr.out, ?_⟩
      refine wpAnyK_one (i := 8) rfl (by decide +kernel) rfl rfl ?_
      refine wp_append_at (.tmp 56) (.tmp 62) 26 rfl (W1.heap.size + 1) 45 j0 (.complex .f64 0 0) 1 16 Try.underlying26 hj0 hy0 hy1 hy2 rfl (by decide) _ _ _ rfl (own_below HF.out.own hw3) ⟨V2.heap.size, 0, none⟩ 1 1 [.complex .f64 (smC (pAt l0 i)).1 (smC (pAt l0 i)).2] rfl rfl (cell_one_new _ _ _) (by intro u hu; simp at hu; subst hu; rfl) HSz.out.1 HSz.out.2 (Nat.le_trans HWr.out hw3.size) ?_
      intro s' W3 hown1 hgrow1 hat1
      obtain ⟨sA, sn, sc, rfl, -⟩ := slice_of_own hown1
      have HG := Lib.hid (HF.out.add hw3 hown1 hgrow1)
      have hS3 := (hw3.mono HWr.out).grown hgrow1 (Nat.le_trans HWr.out hw3.size) (fun g hg => (HF.out.own.lt g hg).1)
      refine ⟨hS3, ?_⟩
      obtain ⟨z0, z1, z2, z3⟩ := HKb.out _ hS3
      clear hown1 hgrow1 hat1 hw3 hw2
      refine wpAnyK_one (i := 9) rfl (by decide +kernel) rfl rfl ?_
      go_simp
      clear hS3
      refine wpAnyK_store (st := 10) rfl (by decide +kernel) rfl ?_
      go_simp
      refine wpAny_done (by decide +kernel) ?_ _
      clear z0 z1 z2 z3
      go_wp2
      go_roundw
      case rel => exact ⟨i + 1, _, hin, by go_num, HG⟩
      case measure => simp [intOf]; omega
    · have e : i = N := by omega
      subst e
      obtain ⟨Am, km, rfl, hrm, hlm, hnm⟩ := own_reads HF.out.own
      have HRm := Lib.hid (And.intro hrm (And.intro hlm hnm))
      obtain ⟨WA, hWA⟩ : ∃ WA, WA = wr := ⟨_, rfl⟩
      rw [← hWA] at HF HRm ⊢
      clear hrm hlm hnm hi hWA x0 x1 x2 x3
      obtain ⟨x0, x1, x2, -⟩ := HF.out.cells (Below.refl _ _)
      have HKb := Lib.hid (fun V (hV : Below (W1.heap.size + 1) WA V) => HF.out.cells hV)
      have HWA := Lib.hid (show W1.heap.size + 1 ≤ WA.heap.size from HF.out.lt)
      have BA := Lib.hid (B1.out.trans (HF.out.bel.mono B1.out.size))
      clear x0 x1 x2
      obtain ⟨x0, x1, x2, x3⟩ := HKb.out WA (Below.refl _ _)
      go_wp2
      rw [eN']
      clear eN'
      go_loopw [14, 16] (fun uv kv wr => ∃ k : Nat, k ≤ Cc ∧ kv = .int .i64 (k : Nat) ∧ Hid (wr.ownsRow WA.heap.size 45 1 uv k (nums (smL l1 k))) ∧ Hid (Below WA.heap.size WA wr)) (fun _ kv _ => Cc - (intOf kv).toNat)
      case atStart => exact ⟨0, Nat.zero_le _, rfl, Lib.hid (World.ownsRow_nil _ _ _ _), Lib.hid (Below.refl _ _)⟩
      case round =>
        obtain ⟨k, hk, rfl, HO, HB⟩ := hrel
        rename World => wr
        clear x0 x1 x2 x3
        obtain ⟨x0, x1, x2, x3⟩ := HKb.out wr (HB.out.mono HWA.out)
        by_cases hkc : k < Cc
        · have hkc' : (k : Int) < Cc := by omega
          have HRd := Lib.hid (show RdP wr wr.heap.size A1 l1 from H1.out.below (BA.out.trans (HB.out.mono BA.out.size)))
          have HSz := Lib.hid (show k + 1 ≤ maxLen ∧ (k + 1) * 16 ≤ 140737488355328 from by unfold maxLen; omega)
          clear hk
          go_wp2_with fail
          refine (at11_c A1 l1 k1 k wr HRd.out).mono ?_
          rintro e V1 ⟨rfl, hb1⟩
          have HW1 := Lib.hid hb1
          clear hb1
          go_wp2_with fail
          refine (small_c _ _ _).mono ?_
          rintro e V2 ⟨rfl, hb1⟩
          have HW2 := Lib.hid (HW1.out.trans (hb1.mono HW1.out.size))
          clear hb1 HW1
          go_wp2_with (at_builtin; refine wpList_append_stays _ rfl (.tmp 71) (.tmp 77) 26 rfl WA.heap.size 45 j0 (.complex .f64 0 0) 16 Try.underlying26 hj0 hy0 hy1 hy2 rfl _ _ _ rfl ((own_below HO.out HW2.out).alloc _) ⟨V2.heap.size, 0, none⟩ 1 1 [.complex .f64 (smC (pAt l1 k)).1 (smC (pAt l1 k)).2] rfl rfl (cell_one_new _ _ _) (by intro u hu; simp at hu; subst hu; rfl) HSz.out.1 HSz.out.2 (Nat.le_trans HB.out.size (Nat.le_trans HW2.out.size (below_new _ _).size)) ?_; intro v' w2 hown1 hgrow1 hat1)
          have HO2 := Lib.hid (show w2.ownsRow WA.heap.size 45 1 v' (k + 1) (nums (smL l1 (k + 1))) by rw [smL_succ]; exact hown1)
          have HB2 := Lib.hid (show Below WA.heap.size WA w2 from ((HB.out.trans (HW2.out.mono HB.out.size)).new (Nat.le_refl _) _).grown hgrow1 (Nat.le_trans HB.out.size (Nat.le_trans HW2.out.size (below_new _ _).size)) (fun g hg => (HO.out.lt g hg).1))
          clear hown1 hgrow1 hat1
          go_roundw
          case rel => exact ⟨k + 1, hkc, by go_num, HO2, HB2⟩
          case measure => simp [intOf]; omega
        · have e : k = Cc := by omega
          subst e
          obtain ⟨Au, ku, rfl, hru, hlu, hnu⟩ := own_reads HO.out
          have HRu := Lib.hid (And.intro hru hlu)
          obtain ⟨WB, hWB⟩ : ∃ WB, WB = wr := ⟨_, rfl⟩
          rw [← hWB] at HO HB HRu x0 x1 x2 x3 ⊢
          clear hru hlu hnu hk hWB
          go_wp2
          go_loopw [15, 17] (fun vv iv wr => ∃ i : Nat, i ≤ R ∧ iv = .int .i64 (i : Nat) ∧ Hid (wr.ownsRow WB.heap.size 45 1 vv i (nums (rgL l2 i))) ∧ Hid (Below WB.heap.size WB wr)) (fun _ iv _ => R - (intOf iv).toNat)
          case atStart => exact ⟨0, Nat.zero_le _, rfl, Lib.hid (World.ownsRow_nil _ _ _ _), Lib.hid (Below.refl _ _)⟩
          case round =>
            obtain ⟨i2, hi, rfl, HOv, HBv⟩ := hrel
            rename World => wr
            clear x0 x1 x2 x3
            have HBw := Lib.hid (HB.out.trans (HBv.out.mono HB.out.size))
            obtain ⟨x0, x1, x2, x3⟩ := HKb.out wr (HBw.out.mono HWA.out)
            by_cases hir : i2 < R
            · have hir' : (i2 : Int) < R := by omega
              have HRd := Lib.hid (show RdP wr wr.heap.size A2 l2 from H2.out.1.below (BA.out.trans (HBw.out.mono BA.out.size)))
              have HSz := Lib.hid (show i2 + 1 ≤ maxLen ∧ (i2 + 1) * 16 ≤ 140737488355328 from by unfold maxLen; omega)
              clear hi
              go_wp2_with fail
              refine (at11_c A2 l2 k2 i2 wr HRd.out).mono ?_
              rintro e V1 ⟨rfl, hb1⟩
              obtain ⟨V2, hV2⟩ : ∃ V2, V2 = V1.alloc (.cells #[.int .i32 (pAt l2 i2).1, .int .i32 (pAt l2 i2).2] 43) := ⟨_, rfl⟩
              have HW1 := Lib.hid (show Below wr.heap.size wr V2 by rw [hV2]; exact hb1.trans ((below_new V1 _).mono hb1.size))
              have q0 : V2.cell? ⟨V1.heap.size, 0, none⟩ = some (.int .i32 (pAt l2 i2).1) := by rw [hV2, cell_of_row _ _ 0 _ _ _ (heap_alloc_new _ _)]; rfl
              have q1 : V2.cell? ⟨V1.heap.size, 1, none⟩ = some (.int .i32 (pAt l2 i2).2) := by rw [hV2, cell_of_row _ _ 1 _ _ _ (heap_alloc_new _ _)]; rfl
              clear hb1
              go_upto_region 18 with fail
              rw [← hV2]
              clear hV2
              go_wp2_with (at_builtin; refine wpList_append_stays _ rfl (.tmp 89) (.tmp 97) 26 rfl WB.heap.size 45 j0 (.complex .f64 0 0) 16 Try.underlying26 hj0 hy0 hy1 hy2 rfl _ _ _ rfl ((own_below HOv.out HW1.out).alloc _) ⟨V2.heap.size, 0, none⟩ 1 1 [.complex .f64 (rgC (pAt l2 i2)).1 (rgC (pAt l2 i2)).2] rfl rfl (cell_one_new _ _ _) (by intro u hu; simp at hu; subst hu; rfl) HSz.out.1 HSz.out.2 (Nat.le_trans HBv.out.size (Nat.le_trans HW1.out.size (below_new _ _).size)) ?_; intro v' w2 hown1 hgrow1 hat1)
              have HO2 := Lib.hid (show w2.ownsRow WB.heap.size 45 1 v' (i2 + 1) (nums (rgL l2 (i2 + 1))) by rw [rgL_succ]; exact hown1)
              have HB2 := Lib.hid (show Below WB.heap.size WB w2 from ((HBv.out.trans (HW1.out.mono HBv.out.size)).new (Nat.le_refl _) _).grown hgrow1 (Nat.le_trans HBv.out.size (Nat.le_trans HW1.out.size (below_new _ _).size)) (fun g hg => (HOv.out.lt g hg).1))
              clear hown1 hgrow1 hat1 q0 q1
              go_roundw
              case rel => exact ⟨i2 + 1, hir, by go_num, HO2, HB2⟩
              case measure => simp [intOf]; omega
            · have e2 : i2 = R := by omega
              subst e2
              obtain ⟨Av, kv, rfl, hrv, hlv, hnv⟩ := own_reads HOv.out
              have HRv := Lib.hid (And.intro hrv hlv)
              obtain ⟨WC, hWC⟩ : ∃ WC, WC = wr := ⟨_, rfl⟩
              rw [← hWC] at HOv HBv HBw HRv x0 x1 x2 x3 ⊢
              clear hrv hlv hnv hi hWC
              obtain ⟨LL, hLL⟩ : ∃ LL : List C, LL = (List.range i2).map fun a => leftAt (fun b => smC (pAt l0 (a * k + b))) (fun b => smC (pAt l1 b)) (rgC (pAt l2 a)) k := ⟨_, rfl⟩
              have HLL := Lib.hid (show LL.length = i2 by rw [hLL]; simp)
              have HLq := Lib.hid hLL
              have HLs := Lib.hid (show ∀ (m x : List C) (t : C → C), (t = id ∨ t = pNeg) → m.length = i → x.length = k → (∀ a, a < i → m[a]? = some (t (smC (pAt l0 a)))) → (∀ a, a < k → x[a]? = some (t (smC (pAt l1 a)))) → leftE i2 k m x (rgL l2 i2) = 0 ∧ leftR i2 k m x (rgL l2 i2) = LL from fun m x t ht h1 h2 h3 h4 => by
                have hq : Lists i2 k i l0 l1 l2 m x t := ⟨HN.out.1, HN.out.2.1, HN.out.2.2, H2.out.2, h1, h2, h3, h4, fun p => by
                  rcases ht with rfl | rfl
                  · exact (wh_sm p).1.fin
                  · exact pFin_neg (wh_sm p).1⟩
                rw [hLL]
                exact whole_left hq ht)
              clear hLL
              obtain ⟨g1, g2⟩ := HLs.out (smL l0 i) (smL l1 k) id (.inl rfl) (smL_len _ _) (smL_len _ _) (fun a ha => smL_at ha) (fun a ha => smL_at ha)
              have hL := Left_c (i2 : Nat) (k : Nat) Am Au Av (smL l0 i) (smL l1 k) (rgL l2 i2) km ku kv WC (by rw [smL_len]; exact HRm.out.2.1) (by rw [smL_len]; exact HRu.out.2) (by rw [rgL_len]; exact HRv.out.2) (smL_lt _ _) (smL_lt _ _) (rgL_lt H2.out.2 _)
                ((HRm.out.1.below HBw.out).more HBw.out.size) ((HRu.out.1.below HBv.out).more HBv.out.size) HRv.out.1
              rw [smL_len, smL_len, rgL_len, g1, g2] at hL
              have HLe := Lib.hid hL
              have hC := Copymw_c (i2 : Nat) (k : Nat) Am (smL l0 i) km
              rw [smL_len] at hC
              have HCp := Lib.hid hC
              clear hL hC g1 g2
              go_wp2_with fail
              refine HLe.out.mono ?_
              rintro e WD ⟨s, rfl, hown, hb⟩
              obtain ⟨Al, kl, rfl, hrl, hll, -⟩ := own_reads hown
              rw [HLL.out]
              have HRl := Lib.hid hrl
              have HBd := Lib.hid hb
              have HBx := Lib.hid (HBw.out.trans (hb.mono HBw.out.size))
              have HRd := Lib.hid (show Reads WD WD.heap.size Am (nums (smL l0 i)) from (HRm.out.1.below HBx.out).more HBx.out.size)
              clear hown hrl hll hb x0 x1 x2 x3 HLe
              obtain ⟨x0, x1, x2, x3⟩ := HKb.out WD (HBx.out.mono HWA.out)
              go_wp2_with fail
              refine (HCp.out WD (by omega) HRm.out.2.2 HRd.out).mono ?_
              rintro e WE ⟨s, rfl, hown, hb⟩
              obtain ⟨Ac, nc, kc, rfl, -⟩ := slice_of_own hown
              have hnc : nc = i := by have := (own_slice hown).1; rw [smL_len] at this; exact this
              subst nc
              obtain ⟨g2, hg2⟩ : ∃ g2, g2 = WE.heap.size := ⟨_, rfl⟩
              obtain ⟨WF, hWF⟩ : ∃ WF, WF = WE.alloc (.cells #[.int .i64 (i2 : Nat), .int .i64 (k : Nat), .slice Ac i kc] 28) := ⟨_, rfl⟩
              have hbn : Below WE.heap.size WE WF := by rw [hWF]; exact below_new _ _
              have hbf := hb.trans (hbn.mono hb.size)
              have HT := Lib.hid (show TnK WD.heap.size WD WF g2 i2 k (smL l0 i) 0 (.slice Ac i kc) from
                ⟨by rw [hWF, hg2]; exact heap_alloc_new _ _, by rw [tL_zero]; exact own_below hown hbn, hbf, fun b hb' => by rw [hg2]; exact (hown.lt b hb').2⟩)
              have HSf := Lib.hid (show g2 < WF.heap.size ∧ WD.heap.size ≤ WE.heap.size ∧ g2 = WE.heap.size from ⟨by rw [hWF, hg2]; simp, hb.size, hg2⟩)
              clear hown hb hbn hbf x0 x1 x2 x3 HCp
              go_upto_region 21 with fail
              rw [← hWF, ← hg2]
              clear hWF hg2
              go_wp2
              go_loopw [22] (fun iv wr => ∃ j : Nat, j ≤ i ∧ iv = .int .i64 (j : Nat) ∧ Hid (TnK WD.heap.size WD wr g2 i2 k (smL l0 i) j (.slice Ac i kc))) (fun iv _ => i - (intOf iv).toNat)
              case atStart => exact ⟨0, Nat.zero_le _, rfl, HT⟩
              case round =>
                obtain ⟨j, hj, rfl, HTj⟩ := hrel
                rename World => wr
                obtain ⟨x0, x1, x2, -⟩ := box3 HTj.out.row
                by_cases hjn : j < i
                · have hjn' : (j : Int) < i := by omega
                  obtain ⟨gd, cap, hv, -, hgl⟩ := HTj.out.own.form (by rw [tL_len, smL_len]; omega)
                  injection hv with e1 e2 e3
                  subst e1
                  have hz : (smL l0 i)[j]? = some (smC (pAt l0 j)) := smL_at hjn
                  obtain ⟨z, hzz⟩ : ∃ z, z = smC (pAt l0 j) := ⟨_, rfl⟩
                  rw [← hzz] at hz
                  have hzl : ltC z := by rw [hzz]; exact smL_lt l0 (j + 1) _ (List.mem_of_getElem? (smL_at (Nat.lt_succ_self j)))
                  have HKd := Lib.hid (fun V (hV : Below wr.heap.size wr V) => (show V.cell? ⟨g2, 0, none⟩ = some (.int .i64 (i2 : Nat)) ∧ V.cell? ⟨g2, 1, none⟩ = some (.int .i64 (k : Nat)) ∧ V.cell? ⟨g2, 2, none⟩ = some (.slice (some ⟨gd, 0, none⟩) i kc) ∧ V.cell? ⟨gd, j, none⟩ = some (.complex .f64 z.1 z.2) ∧ V.frozen? ⟨gd, j, none⟩ = false from by
                    obtain ⟨y0, y1, y2, -⟩ := box3 (row_keep hV HTj.out.row)
                    have ho := own_below HTj.out.own hV
                    have hl : (tL (smL l0 i) j).length = i := by rw [tL_len, smL_len]
                    rw [hl] at ho
                    obtain ⟨y3, y4⟩ := own_cell ho (j := j) (u := .complex .f64 z.1 z.2) (by simp [nums, tL_at hz])
                    exact ⟨y0, y1, y2, y3, y4⟩))
                  have HNg := Lib.hid (Neg_c z.1 z.2 hzl.1 hzl.2)
                  have HPt := Lib.hid (fun V (hV : Below wr.heap.size wr V) => (HTj.out.below (HTj.out.bel.size) hV).put (smL_len l0 i).symm hz)
                  clear e2 e3 hz hzz hzl hj hgl x0 x1 x2
                  obtain ⟨x0, x1, x2, x3, x4⟩ := HKd.out wr (Below.refl _ _)
                  go_upto_region 24 with fail
                  refine wp_region_noPanic ?_
                  refine wp_region_K 10 (by kernel_rfl) (Below wr.heap.size wr) (by kernel_rfl) (fun hsel hcl => ?_)
                  have hW0 : Below wr.heap.size wr wr.drew := (Below.refl _ _).drew
                  refine wpAnyK_takeFree (i := 0) (v := ?vt0) rfl hsel hcl (by kernel_rfl) (by kernel_rfl) rfl (fun _ _ _ h => h) rfl hW0 ?hyt0 (fun hcl => ?ht0)
                  case hyt0 => (intro w'; go_simp; first | done | with_reducible rfl)
                  simp only [Act.put, List.setIfInBounds_toArray, List.set_cons_zero, List.set_cons_succ]
                  refine wpAnyK_takeNeed [9] (i := 1) (v := ?vt1) rfl hsel hcl (by kernel_rfl) (by kernel_rfl) rfl (by decide +kernel) (fun _ _ _ h => h) rfl hW0 ?hyt1 (fun hcl => ?ht1)
                  case hyt1 => ((intro V0 hV0; obtain ⟨y0, y1, y2, y3, y4⟩ := HKd.out V0 hV0); go_simp; first | done | with_reducible rfl)
                  simp only [Act.put, List.setIfInBounds_toArray, List.set_cons_zero, List.set_cons_succ]
                  refine wpAnyK_takeFree (i := 2) (v := ?vt2) rfl hsel hcl (by kernel_rfl) (by kernel_rfl) rfl (fun _ _ _ h => h) rfl hW0 ?hyt2 (fun hcl => ?ht2)
                  case hyt2 => (intro w'; go_simp; first | done | with_reducible rfl)
                  simp only [Act.put, List.setIfInBounds_toArray, List.set_cons_zero, List.set_cons_succ]
                  refine wpAnyK_takeFree (i := 3) (v := ?vt3) rfl hsel hcl (by kernel_rfl) (by kernel_rfl) rfl (fun _ _ _ h => h) rfl hW0 ?hyt3 (fun hcl => ?ht3)
                  case hyt3 => (intro w'; go_simp; first | done | with_reducible rfl)
                  simp only [Act.put, List.setIfInBounds_toArray, List.set_cons_zero, List.set_cons_succ]
                  refine wpAnyK_takeNeed [8, 7, 6] (i := 4) (v := ?vt4) rfl hsel hcl (by kernel_rfl) (by kernel_rfl) rfl (by decide +kernel) (fun _ _ _ h => h) rfl hW0 ?hyt4 (fun hcl => ?ht4)
                  case hyt4 => ((intro V0 hV0; obtain ⟨y0, y1, y2, y3, y4⟩ := HKd.out V0 hV0); go_simp; first | done | with_reducible rfl)
                  simp only [Act.put, List.setIfInBounds_toArray, List.set_cons_zero, List.set_cons_succ]
                  refine wpAnyK_takeFree (i := 5) (v := ?vt5) rfl hsel hcl (by kernel_rfl) (by kernel_rfl) rfl (fun _ _ _ h => h) rfl hW0 ?hyt5 (fun hcl => ?ht5)
                  case hyt5 => (intro w'; go_simp; first | done | with_reducible rfl)
                  simp only [Act.put, List.setIfInBounds_toArray, List.set_cons_zero, List.set_cons_succ]
                  refine wpAnyK_takeFree (i := 6) (v := ?vt6) rfl hsel hcl (by kernel_rfl) (by kernel_rfl) rfl (fun _ _ _ h => h) rfl hW0 ?hyt6 (fun hcl => ?ht6)
                  case hyt6 => (intro w'; go_simp; first | done | with_reducible rfl)
                  simp only [Act.put, List.setIfInBounds_toArray, List.set_cons_zero, List.set_cons_succ]
                  refine wpAnyK_takeNeed [8] (i := 7) (v := ?vt7) rfl hsel hcl (by kernel_rfl) (by kernel_rfl) rfl (by decide +kernel) (fun _ _ _ h => h) rfl hW0 ?hyt7 (fun hcl => ?ht7)
                  case hyt7 => ((intro V0 hV0; obtain ⟨y0, y1, y2, y3, y4⟩ := HKd.out V0 hV0); go_simp; first | done | with_reducible rfl)
                  simp only [Act.put, List.setIfInBounds_toArray, List.set_cons_zero, List.set_cons_succ]
                  refine wpAnyK_one (i := 8) rfl (by decide +kernel) rfl rfl ?_
                  go_simp
                  refine (HNg.out _).mono ?_
                  rintro e V1 ⟨rfl, rfl⟩
                  refine ⟨hW0, ?_⟩
                  obtain ⟨z0, z1, z2, z3, z4⟩ := HKd.out _ hW0
                  have HP := Lib.hid (HPt.out _ hW0)
                  refine wpAnyK_one (i := 9) rfl (by decide +kernel) rfl rfl ?_
                  go_simp
                  refine wpAnyK_store (st := 10) rfl (by decide +kernel) rfl ?_
                  go_simp
                  refine wpAny_done (by decide +kernel) ?_ _
                  refine NoPanic.normal ?_
                  clear z0 z1 z2 z3 z4 hW0 x0 x1 x2 x3 x4
                  go_wp2
                  go_roundw
                  case rel => exact ⟨j + 1, hjn, by go_num, HP⟩
                  case measure => simp [intOf]; omega
                · have e3 : i = j := by omega
                  subst e3
                  have eT : tL (smL l0 i) i = (smL l0 i).map negX := by have := tL_all (smL l0 i); rwa [smL_len] at this
                  have hrow := HTj.out.row
                  have hown := HTj.out.own
                  rw [eT] at hown
                  obtain ⟨WG, hWG⟩ : ∃ WG, WG = wr := ⟨_, rfl⟩
                  have HRc := Lib.hid (show Reads WG WG.heap.size Ac (nums ((smL l0 i).map negX)) ∧ i ≤ kc from by
                    rw [hWG]
                    have hq := hown
                    rw [List.length_map, smL_len] at hq
                    exact ⟨Reads.of_own hq, (own_slice hq).2.1⟩)
                  have HRow := Lib.hid (show WG.heap[g2]? = some (.cells #[.int .i64 (i2 : Nat), .int .i64 (k : Nat), .slice Ac i kc] 28) by rw [hWG]; exact hrow)
                  have HBg := Lib.hid (show Below WD.heap.size WD WG by rw [hWG]; exact HTj.out.bel)
                  have HBu := Lib.hid (show Below WB.heap.size WB WG from HBv.out.trans ((HBd.out.trans (HBg.out.mono HBd.out.size)).mono HBv.out.size))
                  rw [← hWG] at x0 x1 x2 ⊢
                  clear eT hrow hown hWG hj HTj HT HSf
                  go_wp2
                  go_loopw [23, 24] (fun nv kv wr => ∃ a : Nat, a ≤ k ∧ kv = .int .i64 (a : Nat) ∧ Hid (wr.ownsRow WG.heap.size 45 1 nv a (nums ((smL l1 a).map negX))) ∧ Hid (Below WG.heap.size WG wr)) (fun _ kv _ => k - (intOf kv).toNat)
                  case atStart => exact ⟨0, Nat.zero_le _, rfl, Lib.hid (World.ownsRow_nil _ _ _ _), Lib.hid (Below.refl _ _)⟩
                  case round =>
                    obtain ⟨a, ha, rfl, HOn, HBn⟩ := hrel
                    rename World => wr
                    clear x0 x1 x2
                    by_cases hak : a < k
                    · have hak' : (a : Int) < k := by omega
                      have hz : (smL l1 k)[a]? = some (smC (pAt l1 a)) := smL_at hak
                      obtain ⟨z, hzz⟩ : ∃ z, z = smC (pAt l1 a) := ⟨_, rfl⟩
                      rw [← hzz] at hz
                      have hzl : ltC z := smL_lt l1 k _ (List.mem_of_getElem? hz)
                      have hBr := HBu.out.trans (HBn.out.mono HBu.out.size)
                      obtain ⟨au, rfl, -, hcu⟩ := (HRu.out.1.below hBr).at_ (k := a) (u := .complex .f64 z.1 z.2) (by simp [nums, hz])
                      have HNg := Lib.hid (Neg_c z.1 z.2 hzl.1 hzl.2)
                      have HZz := Lib.hid hzz
                      have HSz := Lib.hid (show a + 1 ≤ maxLen ∧ (a + 1) * 16 ≤ 140737488355328 from by have := HN.out.2.2; unfold maxLen; omega)
                      clear hz hzz hzl hBr ha
                      go_wp2_with fail
                      refine (HNg.out _).mono ?_
                      rintro e V1 ⟨rfl, rfl⟩
                      go_wp2_with (at_builtin; refine wpList_append_stays _ rfl (.tmp 131) (.tmp 137) 26 rfl WG.heap.size 45 j0 (.complex .f64 0 0) 16 Try.underlying26 hj0 hy0 hy1 hy2 rfl _ _ _ rfl (HOn.out.alloc _) ⟨wr.heap.size, 0, none⟩ 1 1 [.complex .f64 (negX z).1 (negX z).2] rfl rfl (cell_one_new _ _ _) (by intro u hu; simp at hu; subst hu; rfl) HSz.out.1 HSz.out.2 (Nat.le_trans HBn.out.size (below_new _ _).size) ?_; intro v' w2 hown1 hgrow1 hat1)
                      have HO2 := Lib.hid (show w2.ownsRow WG.heap.size 45 1 v' (a + 1) (nums ((smL l1 (a + 1)).map negX)) by rw [negs_succ, ← HZz.out]; exact hown1)
                      have HB2 := Lib.hid (show Below WG.heap.size WG w2 from (HBn.out.new (Nat.le_refl _) _).grown hgrow1 (Nat.le_trans HBn.out.size (below_new _ _).size) (fun g hg => (HOn.out.lt g hg).1))
                      clear hown1 hgrow1 hat1 hcu
                      go_roundw
                      case rel => exact ⟨a + 1, hak, by go_num, HO2, HB2⟩
                      case measure => simp [intOf]; omega
                    · have e4 : k = a := by omega
                      subst e4
                      obtain ⟨An, kn, rfl, hrn, hln, hnn⟩ := own_reads HOn.out
                      obtain ⟨g1, g2'⟩ := HLs.out ((smL l0 i).map negX) ((smL l1 k).map negX) pNeg (.inr rfl) (by rw [List.length_map, smL_len]) (by rw [List.length_map, smL_len]) (fun a ha => negs_at ha) (fun a ha => negs_at ha)
                      have hL := Left_c (i2 : Nat) (k : Nat) Ac An Av ((smL l0 i).map negX) ((smL l1 k).map negX) (rgL l2 i2) kc kn kv wr (by rw [List.length_map, smL_len]; exact HRc.out.2) (by rw [List.length_map, smL_len]; exact hln) (by rw [rgL_len]; exact HRv.out.2) (negs_lt (smL_lt _ _)) (negs_lt (smL_lt _ _)) (rgL_lt H2.out.2 _)
                        ((HRc.out.1.below HBn.out).more HBn.out.size) hrn ((HRv.out.1.below (HBd.out.trans ((HBg.out.trans (HBn.out.mono HBg.out.size)).mono HBd.out.size))).more (Nat.le_trans HBd.out.size (Nat.le_trans HBg.out.size HBn.out.size)))
                      rw [List.length_map, List.length_map, smL_len, smL_len, rgL_len, g1, g2'] at hL
                      have HLe := Lib.hid hL
                      obtain ⟨x0, x1, x2, -⟩ := box3 (row_keep HBn.out HRow.out)
                      clear hrn hln hnn g1 g2' hL ha
                      go_wp2_with fail
                      refine HLe.out.mono ?_
                      rintro e WI ⟨s, rfl, hown, hb⟩
                      obtain ⟨Al2, kl2, rfl, hrl2, -, -⟩ := own_reads hown
                      rw [HLL.out]
                      have HBi := Lib.hid (show Below WD.heap.size WD WI from HBg.out.trans ((HBn.out.trans (hb.mono HBn.out.size)).mono HBg.out.size))
                      have HRi := Lib.hid (show Reads WI WI.heap.size Al (nums LL) from (HRl.out.below HBi.out).more HBi.out.size)
                      have HSm := Lib.hid (SameNumbers_t Al Al2 LL LL i2 kl kl2 WI HLL.out HLL.out rfl (by omega) HRi.out hrl2)
                      have HBm := Lib.hid (show Below WA.heap.size WA WI from HBx.out.trans (HBi.out.mono HBx.out.size))
                      clear hown hb hrl2 HLe x0 x1 x2 HBn HOn HRc HRow HLs
                      obtain ⟨x0, x1, x2, x3⟩ := HKb.out WI (HBm.out.mono HWA.out)
                      go_wp2_with fail
                      refine HSm.out.mono ?_
                      rintro e WJ' ⟨n, rfl, WJe⟩
                      obtain ⟨WJ, hWJ⟩ : ∃ V, V = WJ' := ⟨_, rfl⟩
                      have hbj : Below WI.heap.size WI WJ := by rw [hWJ, WJe]; exact below_drewN (Below.refl _ _) n
                      have HBj := Lib.hid (HBm.out.trans (hbj.mono HBm.out.size))
                      have HBl := Lib.hid (HBi.out.trans (hbj.mono HBi.out.size))
                      rw [← hWJ]
                      clear WJe hWJ hbj HSm x0 x1 x2 x3 HRi HBi HBm
                      obtain ⟨x0, x1, x2, x3⟩ := HKb.out WJ (HBj.out.mono HWA.out)
                      go_wp2
                      go_loopw [27] (fun av wr => ∃ a : Nat, a ≤ i2 ∧ av = .int .i64 (a : Nat) ∧ Hid (Below WJ.heap.size WJ wr)) (fun av _ => i2 - (intOf av).toNat)
                      case atStart => exact ⟨0, Nat.zero_le _, rfl, Lib.hid (Below.refl _ _)⟩
                      case round =>
                        obtain ⟨a, ha, rfl, HBa⟩ := hrel
                        rename World => wr
                        clear x0 x1 x2 x3
                        have HBw2 := Lib.hid (show Below WA.heap.size WA wr from HBj.out.trans (HBa.out.mono HBj.out.size))
                        have HBw3 := Lib.hid (show Below WD.heap.size WD wr from HBl.out.trans (HBa.out.mono HBl.out.size))
                        obtain ⟨x0, x1, x2, x3⟩ := HKb.out wr (HBw2.out.mono HWA.out)
                        by_cases hai : a < i2
                        · have hai' : (a : Int) < i2 := by omega
                          have HRd2 := Lib.hid (show RdP wr wr.heap.size A2 l2 from H2.out.1.below (BA.out.trans (HBw2.out.mono BA.out.size)))
                          have hrg := wh_rg (pAt_wf H2.out.2 a)
                          obtain ⟨ri, hri⟩ : ∃ ri, ri = (pAt l2 a).1 := ⟨_, rfl⟩
                          obtain ⟨rj, hrj⟩ : ∃ rj, rj = (pAt l2 a).2 := ⟨_, rfl⟩
                          have hbi : ri.natAbs ≤ 2147483648 := by rw [hri]; exact hrg.2.1
                          have hbj : rj.natAbs ≤ 2147483648 := by rw [hrj]; exact hrg.2.2
                          have w0 : wrap64 ri = ri := wrap_small11 (by omega)
                          have w1 : wrap64 rj = rj := wrap_small11 (by omega)
                          have HBd2 := Lib.hid (And.intro hbi hbj)
                          have HAt := Lib.hid (at11_c A2 l2 k2 a wr HRd2.out)
                          rw [← hri, ← hrj] at HAt
                          have HRr := Lib.hid (And.intro hri hrj)
                          clear ha hrg hri hrj hbi hbj HRd2
                          go_wp2_with fail
                          refine HAt.out.mono ?_
                          rintro e V1 ⟨rfl, hb1⟩
                          obtain ⟨V2, hV2⟩ : ∃ V2, V2 = V1.alloc (.cells #[.int .i32 ri, .int .i32 rj] 43) := ⟨_, rfl⟩
                          have HW1 := Lib.hid (show Below wr.heap.size wr V2 by rw [hV2]; exact hb1.trans ((below_new V1 _).mono hb1.size))
                          have q0 : V2.cell? ⟨V1.heap.size, 0, none⟩ = some (.int .i32 ri) := by rw [hV2, cell_of_row _ _ 0 _ _ _ (heap_alloc_new _ _)]; rfl
                          have q1 : V2.cell? ⟨V1.heap.size, 1, none⟩ = some (.int .i32 rj) := by rw [hV2, cell_of_row _ _ 1 _ _ _ (heap_alloc_new _ _)]; rfl
                          have p0 : ∀ D, (V2.drewN D).cell? ⟨V1.heap.size, 0, none⟩ = some (.int .i32 ri) := fun _ => q0
                          have p1 : ∀ D, (V2.drewN D).cell? ⟨V1.heap.size, 1, none⟩ = some (.int .i32 rj) := fun _ => q1
                          clear hb1 HAt
                          go_upto_region 37 with fail
                          rw [← hV2]
                          clear hV2
                          go_quiet (fail)
                          rw [w0, w1]
                          generalize hV3 : World.drewN V2 _ = V3
                          have HV3 := Lib.hid (show Below wr.heap.size wr V3 by rw [← hV3]; exact below_drewN HW1.out _)
                          have HB3 := Lib.hid (show Below WA.heap.size WA V3 from HBw2.out.trans (HV3.out.mono HBw2.out.size))
                          have HB4 := Lib.hid (show Below WD.heap.size WD V3 from HBw3.out.trans (HV3.out.mono HBw3.out.size))
                          clear hV3 p0 p1 q0 q1 w0 w1 HW1 x0 x1 x2 x3
                          obtain ⟨x0, x1, x2, x3⟩ := HKb.out V3 (HB3.out.mono HWA.out)
                          go_wp2
                          go_loopw [29, 30, 31] (fun rv sv kv wx => ∃ b : Nat, b ≤ k ∧ kv = .int .i64 (b : Nat) ∧ rv = .int .i64 (wre (qP l0 (a * k)) (qQ l0 (a * k)) (qP l1 0) (qQ l1 0) ri b) ∧ sv = .int .i64 (wim (qP l0 (a * k)) (qQ l0 (a * k)) (qP l1 0) (qQ l1 0) rj b) ∧ Hid (Below V3.heap.size V3 wx)) (fun _ _ kv _ => k - (intOf kv).toNat)
                          case atStart => exact ⟨0, Nat.zero_le _, rfl, rfl, rfl, Lib.hid (Below.refl _ _)⟩
                          case round =>
                            obtain ⟨b, hb, rfl, rfl, rfl, HBb⟩ := hrel
                            rename World => wx
                            clear x0 x1 x2 x3
                            have HBx2 := Lib.hid (show Below WA.heap.size WA wx from HB3.out.trans (HBb.out.mono HB3.out.size))
                            obtain ⟨x0, x1, x2, x3⟩ := HKb.out wx (HBx2.out.mono HWA.out)
                            obtain ⟨ba, bb⟩ := row_bd l0 l1 (a * k) HBd2.out.1 HBd2.out.2 b
                            by_cases hbk : b < k
                            · have hbk' : (b : Int) < k := by omega
                              obtain ⟨pq, pk, hpk, hw1, hw2, hpkM, hpkc, hb1, hb2⟩ := idx11 hai hbk (by have := HN.out.2.1; omega) (by have := HN.out.2.2; omega) HN.out.1 HRm.out.2.1
                              obtain ⟨z, hzz⟩ : ∃ z, z = smC (pAt l0 pk) := ⟨_, rfl⟩
                              obtain ⟨u, huu⟩ : ∃ u, u = smC (pAt l1 b) := ⟨_, rfl⟩
                              have hz1 : (smL l0 i)[pk]? = some z := by rw [hzz]; exact smL_at hpkM
                              have hu1 : (smL l1 k)[b]? = some u := by rw [huu]; exact smL_at hbk
                              obtain ⟨am, rfl, -, hcm⟩ := (HRm.out.1.below HBx2.out).at_ (k := pk) (u := .complex .f64 z.1 z.2) (by simp [nums, hz1])
                              have HBu2 := HBu.out
                              have hBux : Below WB.heap.size WB wx := by
                                have h1 := HBv.out.trans ((HBd.out.trans (HBl.out.mono HBd.out.size)).mono HBv.out.size)
                                exact h1.trans ((HBa.out.trans ((HV3.out.trans (HBb.out.mono HV3.out.size)).mono HBa.out.size)).mono h1.size)
                              obtain ⟨au, rfl, -, hcu⟩ := (HRu.out.1.below hBux).at_ (k := b) (u := .complex .f64 u.1 u.2) (by simp [nums, hu1])
                              obtain ⟨wz, bp, bq⟩ := wh_sm (pAt l0 pk)
                              obtain ⟨wu, bc, bd⟩ := wh_sm (pAt l1 b)
                              rw [← hzz] at wz
                              rw [← huu] at wu
                              obtain ⟨P, hP⟩ : ∃ P, P = (pAt l0 pk).1.tmod 1048576 := ⟨_, rfl⟩
                              obtain ⟨Q, hQ⟩ : ∃ Q, Q = (pAt l0 pk).2.tmod 1048576 := ⟨_, rfl⟩
                              obtain ⟨U, hU⟩ : ∃ U, U = (pAt l1 b).1.tmod 1048576 := ⟨_, rfl⟩
                              obtain ⟨V, hV⟩ : ∃ V, V = (pAt l1 b).2.tmod 1048576 := ⟨_, rfl⟩
                              rw [← hP, ← hQ] at wz
                              rw [← hU, ← hV] at wu
                              rw [← hP] at bp
                              rw [← hQ] at bq
                              rw [← hU] at bc
                              rw [← hV] at bd
                              have v1 : ∀ w, (convert 47 2 (.float .f64 z.1)).run Try.prog w = .ok (.int .i64 P) w := fun w => run_convert_float_int (P := Try.prog) (w := w) 47 2 .f64 .i64 z.1 P (by rfl) (by rfl) (ex_toInt11 wz.re (by omega))
                              have v2 : ∀ w, (convert 47 2 (.float .f64 z.2)).run Try.prog w = .ok (.int .i64 Q) w := fun w => run_convert_float_int (P := Try.prog) (w := w) 47 2 .f64 .i64 z.2 Q (by rfl) (by rfl) (ex_toInt11 wz.im (by omega))
                              have v3 : ∀ w, (convert 47 2 (.float .f64 u.1)).run Try.prog w = .ok (.int .i64 U) w := fun w => run_convert_float_int (P := Try.prog) (w := w) 47 2 .f64 .i64 u.1 U (by rfl) (by rfl) (ex_toInt11 wu.re (by omega))
                              have v4 : ∀ w, (convert 47 2 (.float .f64 u.2)).run Try.prog w = .ok (.int .i64 V) w := fun w => run_convert_float_int (P := Try.prog) (w := w) 47 2 .f64 .i64 u.2 V (by rfl) (by rfl) (ex_toInt11 wu.im (by omega))
                              obtain ⟨sr, hsr⟩ : ∃ v, v = wre (qP l0 (a * k)) (qQ l0 (a * k)) (qP l1 0) (qQ l1 0) ri b := ⟨_, rfl⟩
                              obtain ⟨si, hsi⟩ : ∃ v, v = wim (qP l0 (a * k)) (qQ l0 (a * k)) (qP l1 0) (qQ l1 0) rj b := ⟨_, rfl⟩
                              have hP' : qP l0 (a * k) b = P := by unfold qP; rw [hP, hpk]
                              have hQ' : qQ l0 (a * k) b = Q := by unfold qQ; rw [hQ, hpk]
                              have hU' : qP l1 0 b = U := by unfold qP; rw [hU, Nat.zero_add]
                              have hV' : qQ l1 0 b = V := by unfold qQ; rw [hV, Nat.zero_add]
                              have hsr' : wre (qP l0 (a * k)) (qQ l0 (a * k)) (qP l1 0) (qQ l1 0) ri (b + 1) = sr - P * U + Q * V := by rw [hsr, ← hP', ← hQ', ← hU', ← hV']; rfl
                              have hsi' : wim (qP l0 (a * k)) (qQ l0 (a * k)) (qP l1 0) (qQ l1 0) rj (b + 1) = si - P * V - Q * U := by rw [hsi, ← hP', ← hQ', ← hU', ← hV']; rfl
                              rw [← hsr] at ba ⊢
                              rw [← hsi] at bb ⊢
                              have e1 := prod_le bp bc
                              have e2 := prod_le bq bd
                              have e3 := prod_le bp bd
                              have e4 := prod_le bq bc
                              obtain ⟨p1, hp1⟩ : ∃ p, P * U = p := ⟨_, rfl⟩
                              obtain ⟨p2, hp2⟩ : ∃ p, Q * V = p := ⟨_, rfl⟩
                              obtain ⟨p3, hp3⟩ : ∃ p, P * V = p := ⟨_, rfl⟩
                              obtain ⟨p4, hp4⟩ : ∃ p, Q * U = p := ⟨_, rfl⟩
                              rw [hp1] at hsr' e1
                              rw [hp2] at hsr' e2
                              rw [hp3] at hsi' e3
                              rw [hp4] at hsi' e4
                              have g1 : wrap64 (P * U) = p1 := by rw [hp1]; exact wrap_small11 (by omega)
                              have g2' : wrap64 (Q * V) = p2 := by rw [hp2]; exact wrap_small11 (by omega)
                              have g3 : wrap64 (P * V) = p3 := by rw [hp3]; exact wrap_small11 (by omega)
                              have g4 : wrap64 (Q * U) = p4 := by rw [hp4]; exact wrap_small11 (by omega)
                              have hk33 := HN.out.2.2
                              obtain ⟨r1, hr1⟩ : ∃ r, r = sr - p1 := ⟨_, rfl⟩
                              obtain ⟨r2, hr2⟩ : ∃ r, r = r1 + p2 := ⟨_, rfl⟩
                              obtain ⟨r3, hr3⟩ : ∃ r, r = si - p3 := ⟨_, rfl⟩
                              obtain ⟨r4, hr4⟩ : ∃ r, r = r3 - p4 := ⟨_, rfl⟩
                              have g5 : wrap64 (sr - p1) = r1 := by rw [hr1]; exact wrap_small11 (by omega)
                              have g6 : wrap64 (r1 + p2) = r2 := by rw [hr2]; exact wrap_small11 (by omega)
                              have g7 : wrap64 (si - p3) = r3 := by rw [hr3]; exact wrap_small11 (by omega)
                              have g8 : wrap64 (r3 - p4) = r4 := by rw [hr4]; exact wrap_small11 (by omega)
                              have HSr := Lib.hid (show wre (qP l0 (a * k)) (qQ l0 (a * k)) (qP l1 0) (qQ l1 0) ri (b + 1) = r2 by rw [hsr', hr2, hr1])
                              have HSi := Lib.hid (show wim (qP l0 (a * k)) (qQ l0 (a * k)) (qP l1 0) (qQ l1 0) rj (b + 1) = r4 by rw [hsi', hr4, hr3])
                              have d2 : ∀ D, (wx.drewN D).cell? (au.add b) = some (.complex .f64 u.1 u.2) := fun _ => hcu
                              clear hpk hzz huu hz1 hu1 wz wu bp bq bc bd hP hQ hU hV hP' hQ' hU' hV' hsr hsi hsr' hsi' e1 e2 e3 e4 hp1 hp2 hp3 hp4 hr1 hr2 hr3 hr4 ba bb HBu2 hBux hb hk33
                              go_wp2
                              go_quiet (fail)
                              all_goals
                                go_wp2
                                go_roundw
                                case rel => exact ⟨b + 1, hbk, by go_num, by rw [g6, HSr.out], by rw [g8, HSi.out], Lib.hid (below_drewN HBb.out _)⟩
                                case measure => simp [intOf]; omega
                            · have e5 : k = b := by omega
                              subst e5
                              obtain ⟨lz, hlz⟩ : ∃ lz, lz = leftAt (fun b => smC (pAt l0 (a * k + b))) (fun b => smC (pAt l1 b)) (rgC (pAt l2 a)) k := ⟨_, rfl⟩
                              have hz1 : LL[a]? = some lz := by rw [HLq.out, List.getElem?_map, List.getElem?_range hai, hlz]; rfl
                              have wz := whole_at (l0 := l0) (l1 := l1) HN.out.2.2 H2.out.2 a
                              rw [← hlz, ← HRr.out.1, ← HRr.out.2] at wz
                              obtain ⟨al, rfl, -, hcl⟩ := (HRl.out.below (HB4.out.trans (HBb.out.mono HB4.out.size))).at_ (k := a) (u := .complex .f64 lz.1 lz.2) (by simp [nums, hz1])
                              obtain ⟨ra, hra⟩ : ∃ r, wre (qP l0 (a * k)) (qQ l0 (a * k)) (qP l1 0) (qQ l1 0) ri k = r := ⟨_, rfl⟩
                              obtain ⟨rb, hrb⟩ : ∃ r, wim (qP l0 (a * k)) (qQ l0 (a * k)) (qP l1 0) (qQ l1 0) rj k = r := ⟨_, rfl⟩
                              rw [hra, hrb] at wz ⊢
                              rw [hra] at ba
                              rw [hrb] at bb
                              have hk33 := HN.out.2.2
                              have f1 : FloatKind.f64.format.order lz.1 (floatOfInt .f64 ra) = some Ordering.eq := feq_order (ex_feq11 wz.re (ex_nearest (by omega)))
                              have f2 : FloatKind.f64.format.order lz.2 (floatOfInt .f64 rb) = some Ordering.eq := feq_order (ex_feq11 wz.im (ex_nearest (by omega)))
                              have HBe := Lib.hid (show Below WJ.heap.size WJ wx from HBa.out.trans ((HV3.out.trans (HBb.out.mono HV3.out.size)).mono HBa.out.size))
                              clear hlz hz1 wz hra hrb ba bb hk33 hb
                              go_wp2
                              go_roundw
                              case rel => exact ⟨a + 1, hai, by go_num, HBe⟩
                              case measure => simp [intOf]; omega
                        · have e5 : i2 = a := by omega
                          subst e5
                          have HBe := Lib.hid (BA.out.trans (HBw2.out.mono BA.out.size))
                          clear ha
                          go_wp2
                          go_ret
                          exact ⟨rfl, HBe.out⟩
end Go.Proofs.Ytandllekeimpgaa
