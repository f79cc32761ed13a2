/- Layer 31: bytes compared; what one number is stored as. -/
import Derived.Test.YtpfjidijecgjcaaAdI
import Derived.Test.YtpfjidijecgjcaaRegK
import Derived.Deep.DeepCutAuto
namespace Go.Proofs.Ytpfjidijecgjcaa
open Go.RowKit Fl Ieee
set_option maxRecDepth 20000
attribute [local go_sem] run_store_float run_store_complex
set_option maxHeartbeats 1000000 in
theorem SameBytes_t (A B : Option Addr) (l : List Nat) (n c c' : Nat) (w : World) (hn : l.length = n) (hmax : n ≤ 4611686018427387904)
    (hA : Reads w w.heap.size A (bytesV l)) (hB : Reads w w.heap.size B (bytesV l)) :
    Calls Try.prog 19 #[.slice A n c, .slice B n c'] w (RetB true w) := by
  have HA := Lib.hid hA
  have HB := Lib.hid hB
  have HN := Lib.hid hn
  clear hA hB hn
  go_enter Try.func19, Try.ntmps19
  go_wp2
  go_loopw [5] (fun i wr => ∃ k d : Nat, k ≤ n ∧ i = .int .i64 (k : Nat) ∧ wr = w.drewN d) (fun i _ => n - (intOf i).toNat)
  case atStart => exact ⟨0, 0, Nat.zero_le _, rfl, rfl⟩
  case round =>
    obtain ⟨k, d, hk, rfl, rfl⟩ := hrel
    by_cases hlt : k < n
    · obtain ⟨x, hx⟩ := some_of_lt (l := l) (k := k) (by rw [HN.out]; exact hlt)
      have hxv : (bytesV l)[k]? = some (.int .u8 (x : Nat)) := by simp [bytesV, hx]
      obtain ⟨ad, rfl, _, hc1⟩ := HA.out.at_ hxv
      obtain ⟨bd, rfl, _, hc2⟩ := HB.out.at_ hxv
      clear hx hxv
      go_wp2
      go_quiet (fail)
      go_wp2
      go_roundw
      case rel => exact ⟨k + 1, _, by omega, by go_num, rfl⟩
      case measure => simp [intOf]; omega
    · go_wp2
      go_ret
      exact closeB rfl
theorem one_c (A : Option Addr) (n c : Nat) (w : World) : Calls Try.prog 33 #[.slice A n c] w fun e w' => e = .returned (.agg #[.float .f64 4607182418800017408, .slice A n c, .slice none 0 0]) ∧ Below w.heap.size w w' := by
  go_enter Try.func33, Try.ntmps33
  go_wp2
  refine bodyPost_ret (v := .agg #[.float .f64 4607182418800017408, .slice A n c, .slice none 0 0]) (by simp [results, Try.results33, go_sem]) rfl ?_
  exact ⟨rfl, below_new _ _⟩
/-- 0.1, and what it is stored as. -/
def k01 : C := (4591870180066957722, 0)
def s01 : C := (4591870180174331904, 0)
def one01 : SolM := ⟨4607182418800017408, [k01], []⟩
theorem nar01 : Nar1 k01 := ⟨by unfold ltC k01; decide, fun _ => ⟨1036831949, 0, by decide +kernel, by decide +kernel, by unfold fin; decide +kernel, by unfold fin; decide +kernel⟩⟩
theorem wrong01 : wrongV [one01] = 0 := by decide +kernel
/-- A solution of one number, alone in a row. -/
theorem one_at {z : C} {w : World} {A : Option Addr} {c : Nat} (h : Reads w w.heap.size A (nums [z])) (hA : A = none → c = 0) : SolsAt (w.alloc (.cells #[.float .f64 4607182418800017408, .slice A 1 c, .slice none 0 0] 39)) (w.heap.size + 1) (.slice (some ⟨w.heap.size, 0, none⟩) 1 1) [⟨4607182418800017408, [z], []⟩] := by
  have hc : ∀ i v, #[Value.float .f64 4607182418800017408, .slice A 1 c, .slice none 0 0][i]? = some v → (w.alloc (.cells #[.float .f64 4607182418800017408, .slice A 1 c, .slice none 0 0] 39)).cell? ⟨w.heap.size, i, none⟩ = some v := fun i v hv => by
    simp only [World.cell?, heap_alloc_new]; exact hv
  refine ⟨some ⟨w.heap.size, 0, none⟩, 1, rfl, fun i s hs => ?_⟩
  have hi : i = 0 := by have := lt_of_some hs; simp at this; exact this
  subst hi
  have hs' : (⟨4607182418800017408, [z], []⟩ : SolM) = s := by simpa using hs
  subst hs'
  exact ⟨w.heap.size, .slice A 1 c, .slice none 0 0, rfl, Nat.lt_succ_self _, hc 0 _ rfl, hc 1 _ rfl, hc 2 _ rfl, A, c, none, 0, rfl, rfl, (h.below (below_new _ _)).more (Nat.le_succ _), (fun hn => absurd hn (by simp [nums])), hA, fun _ => rfl⟩
theorem rowlt31 {Z : World} {b : Nat} {o : Obj} (hr : Z.heap[b]? = some o) : b < Z.heap.size := by
  by_cases h : b < Z.heap.size
  · exact h
  · rw [Array.getElem?_eq_none (by omega)] at hr; cases hr
theorem wp_append_at {P : Program} {w : World} {o : Oper} {a : Act} {K : Act → World → Prop} {Q : Exit → Act → World → Prop} (s x : Operand) (t : TypeId)
    (ho : o.op = .call { callee := .builtin .append, args := #[s, x], argTypes := #[t, t] })
    (base : Nat) (e : TypeId) (i : TypeInfo) (z : Value) (size bytes : Nat) (ht : P.underlying t = some (.slice e)) (hi : P.info? e = some i) (hz : i.zero = some z)
    (hsize : i.size = size) (hby : i.bytes = bytes) (hzs : z.cells.size = size) (hsz : 0 < size)
    (v : Value) (n : Nat) (xs : List Value) (hs : a.eval s = v) (hown : w.ownsRow base e size v n xs)
    (ad : Addr) (m c : Nat) (news : List Value) (hx : a.eval x = .slice (some ad) m c) (hl : news.length = m * size) (hnews : ∀ j u, news[j]? = some u → w.cell? (ad.add j) = some u) (h1 : ∀ u ∈ news, u.oneCell' = true)
    (h63 : n + m ≤ maxLen) (hbytes : (n + m) * bytes ≤ 140737488355328) (hbase : base ≤ w.heap.size)
    (h : ∀ v' w', w'.ownsRow base e size v' (n + m) (xs ++ news) → w.grownBy w' v.ownBlock → (v'.ownBlock = v.ownBlock ∨ v'.ownBlock = some w.heap.size) → K (a.put o.dst v') w') :
    Oper.wp P o a w K Q := by
  obtain ⟨v', w', hr, h2, h3, h4, h5⟩ := run_append_own_at (P := P) w base t o.type e i z size bytes ht hi hz hsize hby hzs hsz v n xs hown ad m c news hl hnews h1 h63 hbytes hbase
  unfold Oper.wp execOp
  simp only [ho, resolve, invoke, builtin, Sem.run_bind, Sem.run_pure, Result.andThen_ok, List.map_toArray, List.map_cons, List.map_nil, hs, hx, hr]
  exact h _ _ h2 h3 h5
theorem set3bw {w : World} {b : Nat} {x0 x1 x2 u v s : Value} {T : TypeId} (h : w.heap[b]? = some (.cells #[x0, x1, x2] T)) :
    (((w.setCell ⟨b, 0, none⟩ u).setCell ⟨b, 1, none⟩ v).setCell ⟨b, 2, none⟩ s).heap[b]? = some (.cells #[u, v, s] T) := by
  have h1 := heap_setCell_same w b 0 _ T u h
  have h2 := heap_setCell_same _ b 1 _ T v h1
  have h3 := heap_setCell_same _ b 2 _ T s h2
  rw [h3]; rfl
/-- The solution that is being stored. -/
structure StK (w V : World) (i : Nat) (s : Value) : Prop where
  row : V.heap[w.heap.size]? = some (.cells #[.float .f64 4607182418800017408, s, .slice none 0 0] 39)
  own : V.ownsRow (w.heap.size + 1) 60 1 s i (nums ([s01].take i))
  bel : Below w.heap.size w V
theorem StK.cells {w V W : World} {i : Nat} {s : Value} (h : StK w V i s) (hb : Below (w.heap.size + 1) V W) : W.cell? ⟨w.heap.size, 0, none⟩ = some (.float .f64 4607182418800017408) ∧ W.cell? ⟨w.heap.size, 1, none⟩ = some s ∧ W.cell? ⟨w.heap.size, 2, none⟩ = some (.slice none 0 0) ∧ W.frozen? ⟨w.heap.size, 1, none⟩ = false := by
  have hr := (hb.block _ (Nat.lt_succ_self _)).trans h.row
  exact ⟨by rw [cell_of_row _ _ 0 _ _ _ hr]; rfl, by rw [cell_of_row _ _ 1 _ _ _ hr]; rfl, by rw [cell_of_row _ _ 2 _ _ _ hr]; rfl, frozen_of_row _ _ 1 _ _ hr⟩
theorem StK.lt {w V : World} {i : Nat} {s : Value} (h : StK w V i s) : w.heap.size < V.heap.size := rowlt31 h.row
/-- The number more. -/
theorem StK.add {w V W W2 : World} {s s' : Value} (h : StK w V 0 s) (hb : Below V.heap.size V W)
    (hown : W2.ownsRow (w.heap.size + 1) 60 1 s' 1 (nums ([s01].take 0) ++ [.complex .f64 4591870180174331904 0])) (hg : W.grownBy W2 s.ownBlock) : StK w (W2.setCell ⟨w.heap.size, 1, none⟩ s') 1 s' where
  row := by
    have h1 : W2.heap[w.heap.size]? = some (.cells #[.float .f64 4607182418800017408, s, .slice none 0 0] 39) := by
      rw [hg.block _ (Nat.lt_of_lt_of_le (rowlt31 h.row) hb.size) (fun e => by have := (h.own.lt _ e.symm).1; omega)]
      exact row_keep hb h.row
    rw [heap_setCell_same _ _ _ _ _ _ h1]
    rfl
  own := ownsRow_setCell_below hown (by show w.heap.size < w.heap.size + 1; omega) _
  bel := ((h.bel.trans (hb.mono h.bel.size)).grown hg (Nat.le_trans h.bel.size hb.size) (fun g hg => by have := (h.own.lt g hg).1; omega)).setCell (Nat.le_refl _) _
def RetSt (w : World) (e : Ending) (w' : World) : Prop := ∃ A c, e = .returned (.tuple #[.agg #[.float .f64 4607182418800017408, .slice A 1 c, .slice none 0 0], .int .i64 0]) ∧ Reads w' w'.heap.size A (nums [s01]) ∧ Below w.heap.size w w'
set_option linter.unusedSimpArgs false in
set_option maxHeartbeats 4000000 in
theorem Stored_k (A : Option Addr) (c : Nat) (w : World) (h : Reads w w.heap.size A (nums [k01])) (hA : A = none → c = 0) : Calls Try.prog 22 #[.agg #[.float .f64 4607182418800017408, .slice A 1 c, .slice none 0 0]] w (RetSt w) := by
  obtain ⟨i0, hi0, hz0, hz1, hz2⟩ := info_parts infoNum
  have HR := Lib.hid h
  have HA0 := Lib.hid hA
  clear h hA
  go_enter Try.func22, Try.ntmps22
  go_wp2_with fail
  obtain ⟨V, hV⟩ : ∃ V, V = (w.alloc (.cells #[.float .f64 4607182418800017408, .slice A 1 c, .slice none 0 0] 39)).alloc (.cells #[.float .f64 0, .slice none 0 0, .slice none 0 0] 39) := ⟨_, rfl⟩
  have hs : V.heap.size = w.heap.size + 1 + 1 := by rw [hV]; simp
  have hbV : Below w.heap.size w V := by rw [hV]; exact (below_new _ _).new (Nat.le_refl _) _
  have hx : V.heap[w.heap.size]? = some (.cells #[.float .f64 4607182418800017408, .slice A 1 c, .slice none 0 0] 39) := by
    rw [hV, heap_alloc_old _ _ (by simp), heap_alloc_new]
  have hy : V.heap[w.heap.size + 1]? = some (.cells #[.float .f64 0, .slice none 0 0, .slice none 0 0] 39) := by
    rw [hV, ← heap_alloc_new (w.alloc (.cells #[.float .f64 4607182418800017408, .slice A 1 c, .slice none 0 0] 39)) (.cells #[.float .f64 0, .slice none 0 0, .slice none 0 0] 39)]
    simp
  rw [← hV, ← hs]
  clear hV
  refine (wrong_c [one01] _ _ (one_at ((HR.out.below hbV).more hbV.size) HA0.out |>.more (by simp)) (by simp) (fun s hs => by simp at hs; subst hs; decide) (fun s hs z hz => by simp at hs; subst hs; simp [one01] at hz; subst hz; exact nar01) (fun s hs => by simp at hs; subst hs; simp [one01])).mono ?_
  rw [wrong01]
  rintro e W1 ⟨rfl, hb1⟩
  have hbN := (below_new V (.cells #[.float .f64 4607182418800017408, .slice A 1 c, .slice none 0 0] 39))
  have hb2 : Below V.heap.size V W1 := hbN.trans (hb1.mono hbN.size)
  have HX := Lib.hid (row_keep hb2 hx)
  have HY := Lib.hid (row_keep hb2 hy)
  have HB := Lib.hid (hbV.trans (hb2.mono hbV.size))
  have HRW := Lib.hid (HR.out.below (hbV.trans (hb2.mono hbV.size)))
  have HSz := Lib.hid (show w.heap.size + 2 ≤ W1.heap.size from by have := hb2.size; omega)
  clear hs hbV hx hy hb1 hbN hb2
  have q0 : W1.cell? ⟨w.heap.size, 0, none⟩ = some (.float .f64 4607182418800017408) := by rw [cell_of_row _ _ 0 _ _ _ HX.out]; rfl
  obtain ⟨W2, hW2⟩ : ∃ W2, W2 = W1.alloc (.cells #[.float .f64 4607182418800017408, .slice none 0 0, .slice none 0 0] 39) := ⟨_, rfl⟩
  have hbW : Below W1.heap.size W1 W2 := by rw [hW2]; exact below_new _ _
  have HZ := Lib.hid (show W2.heap[W1.heap.size]? = some (.cells #[.float .f64 4607182418800017408, .slice none 0 0, .slice none 0 0] 39) from by rw [hW2, heap_alloc_new])
  have q1 : W2.cell? ⟨w.heap.size, 1, none⟩ = some (.slice A 1 c) := by rw [cell_of_row _ _ 1 _ _ _ (row_keep hbW HX.out)]; rfl
  go_upto_region 5 with fail
  rw [← hW2]
  clear hW2 q0
  have HF0 := Lib.hid (show StK W1 W2 0 (.slice none 0 0) from ⟨HZ.out, World.ownsRow_nil _ _ _ _, hbW⟩)
  have HA3 := Lib.hid hbW
  clear hbW HZ
  have HT := Lib.hid (fun W => ToX_c (a := 4591870180066957722) (b := 0) (r := 1036831949) (s := 0) (by decide +kernel) (by decide +kernel) W)
  have HK := Lib.hid (fun W => BackF_c (a := 1036831949) (b := 0) (by unfold fin; decide +kernel) (by unfold fin; decide +kernel) W)
  rw [show fwide 1036831949 = 4591870180174331904 from by decide +kernel, show fwide 0 = 0 from by decide +kernel] at HK
  go_wp2
  go_loopw [23] (fun iv wr => ∃ (i : Nat) (s : Value), i ≤ 1 ∧ iv = .int .i64 (i : Nat) ∧ Hid (StK W1 wr i s)) (fun iv _ => 1 - (intOf iv).toNat)
  case atStart => exact ⟨0, _, Nat.zero_le _, rfl, HF0⟩
  case round =>
    obtain ⟨i, s, hi, rfl, HF⟩ := hrel
    rename World => wr
    clear HF0 q1
    by_cases hin : i < 1
    · obtain rfl : i = 0 := by omega
      obtain ⟨ad, rfl, _, hc1⟩ := (HRW.out.below (HF.out.bel.mono (by have := HSz.out; omega))).at_ (k := 0) (u := .complex .f64 4591870180066957722 0) rfl
      have e0 : ad.add 0 = ad := by unfold Addr.add; split <;> simp_all
      rw [e0] at hc1
      rw [show ((0 : Nat) : Int) = 0 from rfl]
      clear e0
      have HKb := Lib.hid (fun V (hV : Below (W1.heap.size + 1) wr V) => HF.out.cells hV)
      have HWr := Lib.hid (show W1.heap.size + 1 ≤ wr.heap.size from HF.out.lt)
      clear hi hin
      go_upto_region 8 with fail
      refine wp_region_K 8 (by kernel_rfl) (Below (W1.heap.size + 1) wr) (by kernel_rfl) (fun hsel hcl => ?_)
      have hW0 : Below (W1.heap.size + 1) wr wr.drew := (Below.refl _ _).drew
      have hw0 : Below wr.heap.size wr wr.drew := (Below.refl _ _).drew
      refine wpAnyK_takeFree (i := 0) (v := ?va0) rfl hsel hcl (by kernel_rfl) (by kernel_rfl) rfl (fun _ _ _ h => h) rfl hW0 ?hya0 (fun hcl => ?ha0)
      case hya0 => (intro w'; go_simp; first | done | with_reducible rfl)
      simp only [Act.put, List.setIfInBounds_toArray, List.set_cons_zero, List.set_cons_succ]
      refine wpAnyK_takeNeed [6] (i := 1) (v := ?va1) rfl hsel hcl (by kernel_rfl) (by kernel_rfl) rfl (by decide +kernel) (fun _ _ _ h => h) rfl hW0 ?hya1 (fun hcl => ?ha1)
      case hya1 => ((intro V0 hV0; obtain ⟨y0, y1, y2, y3⟩ := HKb.out V0 hV0); go_simp; first | done | with_reducible rfl)
      simp only [Act.put, List.setIfInBounds_toArray, List.set_cons_zero, List.set_cons_succ]
      refine wpAnyK_takeFree (i := 2) (v := ?va2) rfl hsel hcl (by kernel_rfl) (by kernel_rfl) rfl (fun _ _ _ h => h) rfl hW0 ?hya2 (fun hcl => ?ha2)
      case hya2 => (intro w'; go_simp; first | done | with_reducible rfl)
      simp only [Act.put, List.setIfInBounds_toArray, List.set_cons_zero, List.set_cons_succ]
      refine wpAnyK_one (i := 3) rfl (by decide +kernel) rfl rfl ?_
      go_simp
      refine (HT.out _).mono ?_
      rintro e V1 ⟨rfl, rfl⟩
      refine ⟨hW0, ?_⟩
      refine wpAnyK_one (i := 4) rfl (by decide +kernel) rfl rfl ?_
      go_simp
      refine (HK.out _).mono ?_
      rintro e V1 ⟨rfl, rfl⟩
      refine ⟨hW0, ?_⟩
      refine wpAnyK_one (i := 5) rfl (by decide +kernel) rfl rfl ?_
      go_simp
      have hw3 : Below wr.heap.size wr (wr.drew.alloc (.cells #[.complex .f64 4591870180174331904 0] 60)) := hw0.new (Nat.le_refl _) _
      refine ⟨hw3.mono HWr.out, ?_⟩
      refine wpAnyK_one (i := 6) rfl (by decide +kernel) rfl rfl ?_
      refine wp_append_at (.tmp 28) (.tmp 32) 37 rfl (W1.heap.size + 1) 60 i0 (.complex .f64 0 0) 1 16 Try.underlying37 hi0 hz0 hz1 hz2 rfl (by decide) _ _ _ rfl (own_below HF.out.own hw3) ⟨wr.heap.size, 0, none⟩ 1 1 [.complex .f64 4591870180174331904 0] rfl rfl (cell_one_new _ _ _) (by intro u hu; simp at hu; subst hu; rfl) (by unfold maxLen; decide) (by decide) (Nat.le_trans HWr.out hw3.size) ?_
      intro s' W3 hown1 hgrow1 hat1
      obtain ⟨sA, sn, sc, rfl, -⟩ := slice_of_own hown1
      have HG := Lib.hid (HF.out.add hw3 hown1 hgrow1)
      have hS3 := (hw3.mono HWr.out).grown hgrow1 (Nat.le_trans HWr.out hw3.size) (fun g hg => (HF.out.own.lt g hg).1)
      refine ⟨hS3, ?_⟩
      obtain ⟨z0, z1, z2, z3⟩ := HKb.out _ hS3
      clear hown1 hgrow1 hat1 hw3
      refine wpAnyK_one (i := 7) rfl (by decide +kernel) rfl rfl ?_
      go_simp
      clear hS3
      refine wpAnyK_store (st := 8) rfl (by decide +kernel) rfl ?_
      go_simp
      refine wpAny_done (by decide +kernel) ?_ _
      clear z0 z1 z2 z3
      go_wp2
      go_roundw
      case rel => exact ⟨1, _, Nat.le_refl _, by go_num, HG⟩
      case measure => simp [intOf]
    · obtain rfl : i = 1 := by omega
      obtain ⟨x0, x1, x2, -⟩ := HF.out.cells (Below.refl _ _)
      obtain ⟨sA, sc, rfl, hrs, hns, hcs⟩ := own_reads HF.out.own
      have hrow := row_keep HF.out.bel HX.out
      have q2 : wr.cell? ⟨w.heap.size, 2, none⟩ = some (.slice none 0 0) := by rw [cell_of_row _ _ 2 _ _ _ hrow]; rfl
      have HRs := Lib.hid hrs
      have hres := row_keep HF.out.bel HY.out
      have HRes := Lib.hid hres
      have p0 := frozen_of_row _ _ 0 _ _ hres
      have p1 := frozen_of_row _ _ 1 _ _ hres
      have p2 := frozen_of_row _ _ 2 _ _ hres
      have r0 : wr.cell? ⟨w.heap.size + 1, 0, none⟩ = some (.float .f64 0) := by rw [cell_of_row _ _ 0 _ _ _ hres]; rfl
      have r1 : wr.cell? ⟨w.heap.size + 1, 1, none⟩ = some (.slice none 0 0) := by rw [cell_of_row _ _ 1 _ _ _ hres]; rfl
      have r2 : wr.cell? ⟨w.heap.size + 1, 2, none⟩ = some (.slice none 0 0) := by rw [cell_of_row _ _ 2 _ _ _ hres]; rfl
      clear hrow hrs hns hcs hi hin hres
      go_wp2
      go_loopw [39] (fun iv W => iv = .int .i64 0 ∧ W = wr) (fun _ _ => 0)
      case atStart => exact ⟨rfl, rfl⟩
      case round =>
        obtain ⟨rfl, rfl⟩ := hrel
        go_wp2
        obtain ⟨W5, hW5⟩ : ∃ W5, W5 = ((wr.setCell ⟨w.heap.size + 1, 0, none⟩ (.float .f64 4607182418800017408)).setCell ⟨w.heap.size + 1, 1, none⟩ (.slice sA 1 sc)).setCell ⟨w.heap.size + 1, 2, none⟩ (.slice none 0 0) := ⟨_, rfl⟩
        have hrow5 : W5.heap[w.heap.size + 1]? = some (.cells #[.float .f64 4607182418800017408, .slice sA 1 sc, .slice none 0 0] 39) := by rw [hW5]; exact set3bw HRes.out
        have hlt5 : w.heap.size + 1 < W1.heap.size + 1 := by have := HSz.out; omega
        have hown5 : W5.ownsRow (W1.heap.size + 1) 60 1 (.slice sA 1 sc) 1 (nums [s01]) := by
          rw [hW5]
          exact ownsRow_setCell_below (ownsRow_setCell_below (ownsRow_setCell_below HF.out.own (by exact hlt5) _) (by exact hlt5) _) (by exact hlt5) _
        have hb5 : Below w.heap.size w W5 := by
          rw [hW5]
          exact (((HB.out.trans (HF.out.bel.mono HB.out.size)).setCell (Nat.le_succ _) _).setCell (Nat.le_succ _) _).setCell (Nat.le_succ _) _
        rw [← hW5]
        clear hW5
        have t0 : W5.cell? ⟨w.heap.size + 1, 0, none⟩ = some (.float .f64 4607182418800017408) := by rw [cell_of_row _ _ 0 _ _ _ hrow5]; rfl
        have t1 : W5.cell? ⟨w.heap.size + 1, 1, none⟩ = some (.slice sA 1 sc) := by rw [cell_of_row _ _ 1 _ _ _ hrow5]; rfl
        have t2 : W5.cell? ⟨w.heap.size + 1, 2, none⟩ = some (.slice none 0 0) := by rw [cell_of_row _ _ 2 _ _ _ hrow5]; rfl
        refine bodyPost_ret (v := .tuple #[.agg #[.float .f64 4607182418800017408, .slice sA 1 sc, .slice none 0 0], .int .i64 0]) (by simp [results, Try.results22, go_sem, t0, t1, t2]) rfl ?_
        exact ⟨sA, sc, rfl, Reads.of_own hown5, hb5⟩
end Go.Proofs.Ytpfjidijecgjcaa
