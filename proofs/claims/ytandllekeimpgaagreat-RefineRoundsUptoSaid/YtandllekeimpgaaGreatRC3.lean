/- Layer 9, the document's answer: what an elimination tells (Size, Sign, Order, L, U, Pivots). -/
import Derived.Test.YtandllekeimpgaaGreatRC2
namespace Go.Proofs.YtandllekeimpgaaGreat
open Go.RowKit Fl Ieee
set_option maxRecDepth 20000
attribute [local go_sem] run_store_float run_store_complex
namespace rHas
variable {W V : World} {B b n : Nat} {S : El} {ti : Bool}
theorem cells (h : rHas W B b n S ti) :
    ∃ A2 c2 A3 c3, W.cell? ⟨b, 0, none⟩ = some (.int .i64 (n : Nat)) ∧ W.cell? ⟨b, 1, none⟩ = some (.slice A2 n c2) ∧ W.cell? ⟨b, 2, none⟩ = some (.slice A3 n c3) ∧ W.cell? ⟨b, 3, none⟩ = some (.bool S.s) ∧ W.cell? ⟨b, 5, none⟩ = some (.bool true) := by
  rcases h.2 with ⟨h0, hx⟩ | ⟨h0, q, p, qc, pc, g, c, hL⟩
  · subst h0
    obtain ⟨x, y, z, u, -, s, -⟩ := box6 hx
    exact ⟨_, _, _, _, x, y, z, u, s⟩
  · obtain ⟨x, y, z, u, -, s, -⟩ := box6 hL.box
    exact ⟨_, _, _, _, x, y, z, u, s⟩
theorem num {i j : Nat} (h : rHas W B b n S ti) (hi : i < n) (hj : j < n) :
    ∃ q qc g c, W.cell? ⟨b, 1, none⟩ = some (.slice (some ⟨q, 0, none⟩) n qc) ∧ W.cell? ⟨q, i, none⟩ = some (.slice (some ⟨g, 0, none⟩) n c) ∧ W.cell? ⟨g, j, none⟩ = some (.complex .f64 (S.E i j).1 (S.E i j).2) ∧ ltC (S.E i j) := by
  rcases h.2 with ⟨h0, hx⟩ | ⟨h0, q, p, qc, pc, g, c, hL⟩
  · omega
  · obtain ⟨x, y, z, u, -⟩ := box6 hL.box
    exact ⟨q, qc, g i, c i, y, hL.tab.cellS hi, hL.tab.cellZ hi hj, hL.tab.lt i j hi hj⟩
theorem order (h : rHas W B b n S ti) :
    (n = 0 ∧ W.cell? ⟨b, 2, none⟩ = some (.slice none 0 0)) ∨ (0 < n ∧ ∃ p pc, W.cell? ⟨b, 2, none⟩ = some (.slice (some ⟨p, 0, none⟩) n pc) ∧ ∀ i, i < n → W.cell? ⟨p, i, none⟩ = some (.int .i64 (S.o i : Nat))) := by
  rcases h.2 with ⟨h0, hx⟩ | ⟨h0, q, p, qc, pc, g, c, hL⟩
  · obtain ⟨x, y, z, u, -⟩ := box6 hx
    exact .inl ⟨h0, z⟩
  · obtain ⟨x, y, z, u, -⟩ := box6 hL.box
    exact .inr ⟨h0, p, pc, z, fun i hi => hL.tab.cellO hi⟩
end rHas
theorem rnone_c {B b n : Nat} {S : El} {ti : Bool} (W : World) (h : rHas W B b n S ti) : Calls Tryz.prog 101 #[.pointer (some ⟨b, 0, none⟩)] W (RetP (.bool false) W) := by
  obtain ⟨A2, c2, A3, c3, -, -, -, -, x⟩ := h.cells
  clear h
  go_enter Tryz.func101, Tryz.ntmps101
  go_wp2
  go_ret; exact ⟨rfl, rfl⟩
theorem rSize_c {B b n : Nat} {S : El} {ti : Bool} (W : World) (h : rHas W B b n S ti) : Calls Tryz.prog 64 #[.pointer (some ⟨b, 0, none⟩)] W (RetP (.int .i64 (n : Nat)) W) := by
  have HI := Lib.hid (rnone_c W h)
  obtain ⟨A2, c2, A3, c3, x, -, -, -, -⟩ := h.cells
  clear h
  go_enter Tryz.func64, Tryz.ntmps64
  go_wp2_with fail
  refine HI.out.mono ?_
  rintro e w' ⟨rfl, rfl⟩
  go_wp2
  go_ret; exact ⟨rfl, rfl⟩
theorem rOrder_c {B b n : Nat} {S : El} {ti : Bool} (W : World) (h : rHas W B b n S ti) (hn : n ≤ 64) : Calls Tryz.prog 69 #[.pointer (some ⟨b, 0, none⟩)] W (RetO n S.o W) := by
  obtain ⟨j0, hji, hy0, hy1, hy2⟩ := info_parts infoInt9
  have HI := Lib.hid (rnone_c W h)
  rcases h.order with ⟨h0, z⟩ | ⟨h0, p, pc, z, hc⟩
  · subst h0
    clear h hn
    go_enter Tryz.func69, Tryz.ntmps69
    go_wp2_with (first
      | (go_at_call 101; refine HI.out.mono ?_; rintro e w' ⟨rfl, rfl⟩)
      | (at_builtin; refine wpList_append_none rfl (.tmp 6) (.tmp 10) 79 rfl W.heap.size 3 j0 1 Tryz.underlying79 hji (.slice none 0 0) 0 [] rfl (World.ownsRow_nil _ _ _ _) rfl ?_))
    go_ret
    exact ⟨_, rfl, by simpa using World.ownsRow_nil _ _ _ _, Below.refl _ _⟩
  · obtain ⟨xs, hxs⟩ : ∃ xs : List Value, xs = (List.range n).map fun i => .int .i64 (S.o i : Nat) := ⟨_, rfl⟩
    have hxl : xs.length = n := by rw [hxs]; simp
    have HXl := Lib.hid (show xs.length = n * 1 by omega)
    have HSrc := Lib.hid (show ∀ j u, xs[j]? = some u → W.cell? ((⟨p, 0, none⟩ : Addr).add j) = some u from fun j u hu => by
      have hj : j < n := by have := lt_of_some hu; omega
      rw [add0]
      have e : u = .int .i64 (S.o j : Nat) := by rw [hxs] at hu; simpa [hj] using hu.symm
      rw [e]; exact hc j hj)
    have HOne := Lib.hid (show ∀ v ∈ xs, v.oneCell' = true by
      rw [hxs]; intro v hv; simp only [List.mem_map] at hv; obtain ⟨i, _, rfl⟩ := hv; rfl)
    have H63 := Lib.hid (show 0 + n ≤ maxLen by unfold maxLen; omega)
    have HBy := Lib.hid (show (0 + n) * 8 ≤ 140737488355328 by omega)
    have HXs := Lib.hid hxs
    clear h hn hc hxs hxl
    go_enter Tryz.func69, Tryz.ntmps69
    go_wp2_with (first
      | (go_at_call 101; refine HI.out.mono ?_; rintro e w' ⟨rfl, rfl⟩)
      | (at_builtin; refine wpList_append_own _ rfl (.tmp 6) (.tmp 10) 79 rfl W.heap.size 3 j0 (.int .i64 0) 1 8 Tryz.underlying79 hji hy0 hy1 hy2 rfl (by decide) _ 0 [] rfl (World.ownsRow_nil _ _ _ _) ⟨p, 0, none⟩ n pc xs rfl HXl.out HSrc.out HOne.out H63.out HBy.out (Nat.le_refl _) ?_; intro v' w1 hown1 hgrow1 hnil1))
    go_ret
    refine ⟨v', rfl, ?_, (Below.refl _ W).grown hgrow1 (Nat.le_refl _) (fun j hj => by cases hj)⟩
    rw [← HXs.out]
    simpa using hown1
/-- A matrix that is being filled by append: k entries, in a box of its own behind the answer's cell. -/
structure rPart (n : Nat) (E : Nat → Nat → C) (w : World) (k : Nat) (s : Value) (wr : World) : Prop where
  own : wr.ownsRow (w.heap.size + 2) 60 1 s k (nums (entries n E k))
  box : wr.heap[w.heap.size + 1]? = some (.cells #[.int .i64 (n : Nat), .int .i64 (n : Nat), s] 27)
  rc : wr.heap[w.heap.size]? = some zrow
  sz : w.heap.size + 2 ≤ wr.heap.size
  bel : Below w.heap.size w wr
theorem rpart_next {n k : Nat} {E : Nat → Nat → C} {w wr w1 : World} {o : Obj} {s v' : Value} {z : C} (h : rPart n E w k s wr)
    (hgrow : (wr.alloc o).grownBy w1 s.ownBlock) (hown1 : w1.ownsRow (w.heap.size + 2) 60 1 v' (k + 1) (nums (entries n E k) ++ [.complex .f64 z.1 z.2])) (hz : z = entry n E k) :
    w1.cell? ⟨w.heap.size + 1, 2, none⟩ = some s ∧ w1.frozen? ⟨w.heap.size + 1, 2, none⟩ = false ∧ rPart n E w (k + 1) v' (w1.setCell ⟨w.heap.size + 1, 2, none⟩ v') := by
  have hsz := h.sz
  have hs2 : wr.heap.size ≤ (wr.alloc o).heap.size := (below_new wr o).size
  have FB : ∀ p, p < w.heap.size + 2 → w1.heap[p]? = wr.heap[p]? := fun p hp => by
    have h1 : (wr.alloc o).heap[p]? = wr.heap[p]? := Below.heap_alloc wr o p (by omega)
    have h3 := hgrow.block p (by omega) (fun e => by have := (h.own.lt p e.symm).1; omega)
    exact h3.trans h1
  have hbx1 := (FB _ (by omega)).trans h.box
  obtain ⟨-, -, c2, fr⟩ := box3 hbx1
  refine ⟨c2, fr 2, ?_⟩
  exact
    { own := by
        rw [entries_succ, ← hz, show nums (entries n E k ++ [z]) = nums (entries n E k) ++ [.complex .f64 z.1 z.2] by simp [nums]]
        exact ownsRow_setCell_below hown1 (by show w.heap.size + 1 < w.heap.size + 2; omega) _
      box := by rw [heap_setCell_same _ _ 2 _ _ _ hbx1]; rfl
      rc := by rw [Below.heap_setCell _ _ _ _ (by show w.heap.size ≠ w.heap.size + 1; omega), FB _ (by omega)]; exact h.rc
      sz := by rw [World.size_setCell]; have := hgrow.size; omega
      bel := ((h.bel.new (Nat.le_refl _) o).grown hgrow (by omega) (fun j hj => by have := (h.own.lt j hj).1; omega)).setCell (by show w.heap.size ≤ w.heap.size + 1; omega) _ }
theorem rpart_start (w : World) (n : Nat) (E : Nat → Nat → C) : rPart n E w 0 (.slice none 0 0) ((w.alloc zrow).alloc (.cells #[.int .i64 (n : Nat), .int .i64 (n : Nat), .slice none 0 0] 27)) where
  own := by simpa [entries, nums] using World.ownsRow_nil _ _ _ _
  box := row_new2 _ _ _
  rc := row_alloc (heap_alloc_new w _)
  sz := by simp
  bel := (below_new w _).new (Nat.le_refl _) _
theorem entries_all {n k : Nat} {E : Nat → Nat → C} {p : C → Prop} (hf : ∀ i j, i < n → j < n → p (E i j)) (hk : k ≤ n * n) : ∀ z ∈ entries n E k, p z := fun z hz => by
  unfold entries at hz
  obtain ⟨q, hq, rfl⟩ := List.mem_map.1 hz
  have hq := List.mem_range.1 hq
  have hn : 0 < n := by
    rcases Nat.eq_zero_or_pos n with e | e
    · subst e; omega
    · exact e
  unfold entry
  exact hf _ _ (Nat.div_lt_of_lt_mul (by omega)) (Nat.mod_lt _ hn)
theorem low_all9 {W : World} {B b n : Nat} {S : El} {ti : Bool} (h : rHas W B b n S ti) (hf : finTo S.E n) : ∀ z ∈ entries n (lowE S) (n * n), pFinite z = true ∧ ltC z :=
  entries_all (fun i j hi hj => by
    unfold lowE
    split
    · exact ⟨by decide, by decide, by decide⟩
    · split
      · obtain ⟨_, _, _, _, _, _, _, hl⟩ := h.num hi hj
        exact ⟨hf i j hi hj, hl⟩
      · exact ⟨by decide, by decide, by decide⟩) (Nat.le_refl _)
theorem upp_all9 {W : World} {B b n : Nat} {S : El} {ti : Bool} (h : rHas W B b n S ti) (hf : finTo S.E n) : ∀ z ∈ entries n (uppE S) (n * n), pFinite z = true ∧ ltC z :=
  entries_all (fun i j hi hj => by
    unfold uppE
    split
    · exact ⟨by decide, by decide, by decide⟩
    · obtain ⟨_, _, _, _, _, _, _, hl⟩ := h.num hi hj
      exact ⟨hf i j hi hj, hl⟩) (Nat.le_refl _)
theorem map_self {l : List C} (h : ∀ z ∈ l, pFinite z = true ∧ ltC z) : l.map cnC = l :=
  (List.map_congr_left fun z hz => fin_cn (h z hz).1).trans (List.map_id l)
set_option maxHeartbeats 4000000 in
theorem rL_c {B b n : Nat} {S : El} {ti : Bool} (w : World) (h : rHas w B b n S ti) (hf : finTo S.E n) (hn : n ≤ 64) : Calls Tryz.prog 67 #[.pointer (some ⟨b, 0, none⟩)] w (RetMx n n (entries n (lowE S) (n * n)) w) := by
  obtain ⟨i0, hi0, hz0, hz1, hz2⟩ := info_parts infoNum
  have H9 := Lib.hid h
  have HF := Lib.hid hf
  have HN := Lib.hid hn
  have HSi := Lib.hid (fun (V : World) (hV : Below w.heap.size w V) => rSize_c V (h.below hV))
  have hb1 := below_new w zrow
  have HP0 := Lib.hid (rpart_start w n (lowE S))
  have HB1 := Lib.hid hb1
  clear h hf hn hb1
  go_enter Tryz.func67, Tryz.ntmps67
  go_wp2_with fail
  refine (HSi.out _ HB1.out).mono ?_
  rintro e w' ⟨rfl, rfl⟩
  go_wp2_with fail
  refine (HSi.out _ HB1.out).mono ?_
  rintro e w' ⟨rfl, rfl⟩
  go_wp2
  go_loopw [4] (fun i wr => ∃ (a : Nat) (s : Value), a ≤ n ∧ i = .int .i64 (a : Nat) ∧ rPart n (lowE S) w (a * n) s wr) (fun i _ => n - (intOf i).toNat)
  case atStart => exact ⟨0, _, Nat.zero_le _, rfl, by rw [Nat.zero_mul]; exact HP0.out⟩
  case round =>
    clear HP0
    obtain ⟨a, s, ha, rfl, hp⟩ := hrel
    rename World => wa
    have HP := Lib.hid hp
    have hab1 : (a : Int) + 1 ≤ 65 := by have := HN.out; omega
    clear hp
    by_cases hlt : a < n
    · have hlti : (a : Int) < (n : Int) := Int.ofNat_lt.2 hlt
      go_wp2_with fail
      refine (HSi.out _ HP.out.bel).mono ?_
      rintro e w' ⟨rfl, rfl⟩
      go_wp2
      go_loopw [5] (fun j wr => ∃ (c : Nat) (s : Value), c ≤ n ∧ j = .int .i64 (c : Nat) ∧ rPart n (lowE S) w (a * n + c) s wr) (fun j _ => n - (intOf j).toNat)
      case atStart => exact ⟨0, s, Nat.zero_le _, rfl, HP.out⟩
      case round =>
        clear HP s
        obtain ⟨c, s, hc, rfl, hp⟩ := hrel
        rename World => wc
        have HP := Lib.hid hp
        have hab2 : (c : Int) + 1 ≤ 65 := by have := HN.out; omega
        clear hp
        obtain ⟨A2, c2, A3, c3, t0, -, -, -, -⟩ := (H9.out.below HP.out.bel).cells
        obtain ⟨-, -, x2, -⟩ := box3 HP.out.box
        by_cases hcl : c < n
        · have hcli : (c : Int) < (n : Int) := Int.ofNat_lt.2 hcl
          have hab : a * n + c ≤ 64 * 64 := by
            have h1 : (a + 1) * n ≤ 64 * 64 := Nat.mul_le_mul (by have := HN.out; omega) HN.out
            rw [Nat.add_mul, Nat.one_mul] at h1; omega
          have H63 := Lib.hid (show a * n + c + 1 ≤ maxLen by unfold maxLen; omega)
          have HBy := Lib.hid (show (a * n + c + 1) * 16 ≤ 140737488355328 by omega)
          have HSz := Lib.hid (show w.heap.size + 2 ≤ (wc.alloc (.cells #[Value.int .i64 0] 60)).heap.size by have := HP.out.sz; simp; omega)
          obtain ⟨m, hm⟩ : ∃ m, m = a * n + c := ⟨_, rfl⟩
          have HM := Lib.hid hm
          rw [← hm] at HP H63 HBy
          clear hab hm
          obtain ⟨q, qc, g, cc, c1, c2', c3', -⟩ := (H9.out.below HP.out.bel).num hlt hcl
          rcases Nat.lt_trichotomy c a with h1 | h1 | h1
          · have HE := Lib.hid (show S.E a c = entry n (lowE S) m by rw [HM.out, entry_at _ hcl]; unfold lowE; rw [if_neg (by omega), if_pos h1])
            have h1i : (c : Int) < (a : Int) := Int.ofNat_lt.2 h1
            have h2i : ((c : Int) == (a : Int)) = false := by simp; omega
            go_wp2_with (at_builtin; refine wpList_append_own _ rfl (.tmp 43) (.tmp 45) 25 rfl (w.heap.size + 2) 60 i0 (.complex .f64 0 0) 1 16 Tryz.underlying25 hi0 hz0 hz1 hz2 rfl (by decide) _ _ _ rfl (HP.out.own.alloc _) ⟨wc.heap.size, 0, none⟩ 1 1 [.complex .f64 (S.E a c).1 (S.E a c).2] rfl rfl (cell_one_new _ _ _) (by intro u hu; simp at hu; subst hu; rfl) H63.out HBy.out (Nat.le_trans HP.out.sz (below_new _ _).size) ?_; intro v' w1 hown1 hgrow1 hnil1; obtain ⟨g1, cp1, e1, -, -⟩ := hown1.form (Nat.succ_pos _); subst e1; obtain ⟨hk1, hk2, hst⟩ := rpart_next HP.out hgrow1 hown1 HE.out; have HST := Lib.hid hst; clear hst hown1 hgrow1 hnil1)
            clear hk1 hk2 c1 c2' c3' t0 x2
            go_wp2
            go_roundw
            case rel => exact ⟨c + 1, _, hcl, by go_num, by rw [← Nat.add_assoc, ← HM.out]; exact HST.out⟩
            case measure => simp [intOf]; omega
          · subst h1
            have HE := Lib.hid (show ((4607182418800017408, 0) : C) = entry n (lowE S) m by rw [HM.out, entry_at _ hcl]; unfold lowE; rw [if_pos rfl]; rfl)
            clear c1 c2' c3'
            go_wp2_with (at_builtin; refine wpList_append_own _ rfl (.tmp 43) (.tmp 45) 25 rfl (w.heap.size + 2) 60 i0 (.complex .f64 0 0) 1 16 Tryz.underlying25 hi0 hz0 hz1 hz2 rfl (by decide) _ _ _ rfl (HP.out.own.alloc _) ⟨wc.heap.size, 0, none⟩ 1 1 [.complex .f64 4607182418800017408 0] rfl rfl (cell_one_new _ _ _) (by intro u hu; simp at hu; subst hu; rfl) H63.out HBy.out (Nat.le_trans HP.out.sz (below_new _ _).size) ?_; intro v' w1 hown1 hgrow1 hnil1; obtain ⟨g1, cp1, e1, -, -⟩ := hown1.form (Nat.succ_pos _); subst e1; obtain ⟨hk1, hk2, hst⟩ := rpart_next (z := (4607182418800017408, 0)) HP.out hgrow1 hown1 HE.out; have HST := Lib.hid hst; clear hst hown1 hgrow1 hnil1)
            clear hk1 hk2 t0 x2
            go_wp2
            go_roundw
            case rel => exact ⟨c + 1, _, hcl, by go_num, by rw [← Nat.add_assoc, ← HM.out]; exact HST.out⟩
            case measure => simp [intOf]; omega
          · have HE := Lib.hid (show ((0, 0) : C) = entry n (lowE S) m by rw [HM.out, entry_at _ hcl]; unfold lowE; rw [if_neg (by omega), if_neg (by omega)])
            have h1i : decide ((c : Int) < (a : Int)) = false := decide_eq_false (by omega)
            have h1j : ¬ ((c : Int) < (a : Int)) := by omega
            have h2i : ((c : Int) == (a : Int)) = false := by simp; omega
            clear c1 c2' c3'
            go_wp2_with (at_builtin; refine wpList_append_own _ rfl (.tmp 43) (.tmp 45) 25 rfl (w.heap.size + 2) 60 i0 (.complex .f64 0 0) 1 16 Tryz.underlying25 hi0 hz0 hz1 hz2 rfl (by decide) _ _ _ rfl (HP.out.own.alloc _) ⟨wc.heap.size, 0, none⟩ 1 1 [.complex .f64 0 0] rfl rfl (cell_one_new _ _ _) (by intro u hu; simp at hu; subst hu; rfl) H63.out HBy.out (Nat.le_trans HP.out.sz (below_new _ _).size) ?_; intro v' w1 hown1 hgrow1 hnil1; obtain ⟨g1, cp1, e1, -, -⟩ := hown1.form (Nat.succ_pos _); subst e1; obtain ⟨hk1, hk2, hst⟩ := rpart_next (z := (0, 0)) HP.out hgrow1 hown1 HE.out; have HST := Lib.hid hst; clear hst hown1 hgrow1 hnil1)
            clear hk1 hk2 t0 x2
            go_wp2
            go_roundw
            case rel => exact ⟨c + 1, _, hcl, by go_num, by rw [← Nat.add_assoc, ← HM.out]; exact HST.out⟩
            case measure => simp [intOf]; omega
        · have e : n = c := by omega
          have HN2 : Hid (rPart n (lowE S) w ((a + 1) * n) s wc) := by
            have h := HP.out
            rw [← e] at h
            show rPart _ _ _ _ _ _
            rw [Nat.add_mul, Nat.one_mul]; exact h
          subst e
          go_wp2
          go_roundw
          case rel => exact ⟨a + 1, s, by omega, by go_num, HN2.out⟩
          case measure => simp [intOf]; omega
    · have e : n = a := by omega
      subst e
      go_wp2_with fail
      refine (HSi.out _ HP.out.bel).mono ?_
      rintro e w' ⟨rfl, rfl⟩
      obtain ⟨r0, r1, r2, fr⟩ := box3 HP.out.rc
      obtain ⟨x0, x1, x2, -⟩ := box3 HP.out.box
      have f0 := fr 0
      have f1 := fr 1
      have f2 := fr 2
      have hown := HP.out.own
      obtain ⟨sA, sn, sc, rfl, -⟩ := slice_of_own hown
      clear hown
      clear fr
      go_wp2
      obtain ⟨q0, q1, q2⟩ := set3 (u := .int .i64 (n : Nat)) (v := .int .i64 (n : Nat)) (t := .slice sA sn sc) r0 r1 r2
      refine bodyPost_ret (v := mval n n (.slice sA sn sc)) (by simp [results, Tryz.results67, go_sem, q0, q1, q2]) rfl ?_
      have hl : (entries n (lowE S) (n * n)).length = n * n := by simp [entries]
      have hself := low_all9 H9.out HF.out
      refine ⟨_, entries n (lowE S) (n * n), rfl, map_self hself, fun z hz => (hself z hz).2, ?_, ?_⟩
      · rw [hl]
        exact own_base (ownsRow_setCell_below (ownsRow_setCell_below (ownsRow_setCell_below HP.out.own (by show w.heap.size < _; omega) _) (by show w.heap.size < _; omega) _) (by show w.heap.size < _; omega) _) (by omega)
      · exact ((HP.out.bel.setCell (Nat.le_refl _) _).setCell (Nat.le_refl _) _).setCell (Nat.le_refl _) _
set_option maxHeartbeats 4000000 in
theorem rU_c {B b n : Nat} {S : El} {ti : Bool} (w : World) (h : rHas w B b n S ti) (hf : finTo S.E n) (hn : n ≤ 64) : Calls Tryz.prog 68 #[.pointer (some ⟨b, 0, none⟩)] w (RetMx n n (entries n (uppE S) (n * n)) w) := by
  obtain ⟨i0, hi0, hz0, hz1, hz2⟩ := info_parts infoNum
  have H9 := Lib.hid h
  have HF := Lib.hid hf
  have HN := Lib.hid hn
  have HSi := Lib.hid (fun (V : World) (hV : Below w.heap.size w V) => rSize_c V (h.below hV))
  have hb1 := below_new w zrow
  have HP0 := Lib.hid (rpart_start w n (uppE S))
  have HB1 := Lib.hid hb1
  clear h hf hn hb1
  go_enter Tryz.func68, Tryz.ntmps68
  go_wp2_with fail
  refine (HSi.out _ HB1.out).mono ?_
  rintro e w' ⟨rfl, rfl⟩
  go_wp2_with fail
  refine (HSi.out _ HB1.out).mono ?_
  rintro e w' ⟨rfl, rfl⟩
  go_wp2
  go_loopw [4] (fun i wr => ∃ (a : Nat) (s : Value), a ≤ n ∧ i = .int .i64 (a : Nat) ∧ rPart n (uppE S) w (a * n) s wr) (fun i _ => n - (intOf i).toNat)
  case atStart => exact ⟨0, _, Nat.zero_le _, rfl, by rw [Nat.zero_mul]; exact HP0.out⟩
  case round =>
    clear HP0
    obtain ⟨a, s, ha, rfl, hp⟩ := hrel
    rename World => wa
    have HP := Lib.hid hp
    have hab1 : (a : Int) + 1 ≤ 65 := by have := HN.out; omega
    clear hp
    by_cases hlt : a < n
    · have hlti : (a : Int) < (n : Int) := Int.ofNat_lt.2 hlt
      go_wp2_with fail
      refine (HSi.out _ HP.out.bel).mono ?_
      rintro e w' ⟨rfl, rfl⟩
      go_wp2
      go_loopw [5] (fun j wr => ∃ (c : Nat) (s : Value), c ≤ n ∧ j = .int .i64 (c : Nat) ∧ rPart n (uppE S) w (a * n + c) s wr) (fun j _ => n - (intOf j).toNat)
      case atStart => exact ⟨0, s, Nat.zero_le _, rfl, HP.out⟩
      case round =>
        clear HP s
        obtain ⟨c, s, hc, rfl, hp⟩ := hrel
        rename World => wc
        have HP := Lib.hid hp
        have hab2 : (c : Int) + 1 ≤ 65 := by have := HN.out; omega
        clear hp
        obtain ⟨A2, c2, A3, c3, t0, -, -, -, -⟩ := (H9.out.below HP.out.bel).cells
        obtain ⟨-, -, x2, -⟩ := box3 HP.out.box
        by_cases hcl : c < n
        · have hcli : (c : Int) < (n : Int) := Int.ofNat_lt.2 hcl
          have hab : a * n + c ≤ 64 * 64 := by
            have h1 : (a + 1) * n ≤ 64 * 64 := Nat.mul_le_mul (by have := HN.out; omega) HN.out
            rw [Nat.add_mul, Nat.one_mul] at h1; omega
          have H63 := Lib.hid (show a * n + c + 1 ≤ maxLen by unfold maxLen; omega)
          have HBy := Lib.hid (show (a * n + c + 1) * 16 ≤ 140737488355328 by omega)
          have HSz := Lib.hid (show w.heap.size + 2 ≤ (wc.alloc (.cells #[Value.int .i64 0] 60)).heap.size by have := HP.out.sz; simp; omega)
          obtain ⟨m, hm⟩ : ∃ m, m = a * n + c := ⟨_, rfl⟩
          have HM := Lib.hid hm
          rw [← hm] at HP H63 HBy
          clear hab hm
          obtain ⟨q, qc, g, cc, c1, c2', c3', -⟩ := (H9.out.below HP.out.bel).num hlt hcl
          by_cases h1 : c < a
          · have HE := Lib.hid (show ((0, 0) : C) = entry n (uppE S) m by rw [HM.out, entry_at _ hcl]; unfold uppE; rw [if_pos h1])
            have h1i : ¬ ((a : Int) ≤ (c : Int)) := by omega
            clear c1 c2' c3'
            go_wp2_with (at_builtin; refine wpList_append_own _ rfl (.tmp 40) (.tmp 42) 25 rfl (w.heap.size + 2) 60 i0 (.complex .f64 0 0) 1 16 Tryz.underlying25 hi0 hz0 hz1 hz2 rfl (by decide) _ _ _ rfl (HP.out.own.alloc _) ⟨wc.heap.size, 0, none⟩ 1 1 [.complex .f64 0 0] rfl rfl (cell_one_new _ _ _) (by intro u hu; simp at hu; subst hu; rfl) H63.out HBy.out (Nat.le_trans HP.out.sz (below_new _ _).size) ?_; intro v' w1 hown1 hgrow1 hnil1; obtain ⟨g1, cp1, e1, -, -⟩ := hown1.form (Nat.succ_pos _); subst e1; obtain ⟨hk1, hk2, hst⟩ := rpart_next (z := (0, 0)) HP.out hgrow1 hown1 HE.out; have HST := Lib.hid hst; clear hst hown1 hgrow1 hnil1)
            clear hk1 hk2 t0 x2
            go_wp2
            go_roundw
            case rel => exact ⟨c + 1, _, hcl, by go_num, by rw [← Nat.add_assoc, ← HM.out]; exact HST.out⟩
            case measure => simp [intOf]; omega
          · have HE := Lib.hid (show S.E a c = entry n (uppE S) m by rw [HM.out, entry_at _ hcl]; unfold uppE; rw [if_neg h1])
            have h1i : (a : Int) ≤ (c : Int) := by omega
            go_wp2_with (at_builtin; refine wpList_append_own _ rfl (.tmp 40) (.tmp 42) 25 rfl (w.heap.size + 2) 60 i0 (.complex .f64 0 0) 1 16 Tryz.underlying25 hi0 hz0 hz1 hz2 rfl (by decide) _ _ _ rfl (HP.out.own.alloc _) ⟨wc.heap.size, 0, none⟩ 1 1 [.complex .f64 (S.E a c).1 (S.E a c).2] rfl rfl (cell_one_new _ _ _) (by intro u hu; simp at hu; subst hu; rfl) H63.out HBy.out (Nat.le_trans HP.out.sz (below_new _ _).size) ?_; intro v' w1 hown1 hgrow1 hnil1; obtain ⟨g1, cp1, e1, -, -⟩ := hown1.form (Nat.succ_pos _); subst e1; obtain ⟨hk1, hk2, hst⟩ := rpart_next HP.out hgrow1 hown1 HE.out; have HST := Lib.hid hst; clear hst hown1 hgrow1 hnil1)
            clear hk1 hk2 c1 c2' c3' t0 x2
            go_wp2
            go_roundw
            case rel => exact ⟨c + 1, _, hcl, by go_num, by rw [← Nat.add_assoc, ← HM.out]; exact HST.out⟩
            case measure => simp [intOf]; omega
        · have e : n = c := by omega
          have HN2 : Hid (rPart n (uppE S) w ((a + 1) * n) s wc) := by
            have h := HP.out
            rw [← e] at h
            show rPart _ _ _ _ _ _
            rw [Nat.add_mul, Nat.one_mul]; exact h
          subst e
          go_wp2
          go_roundw
          case rel => exact ⟨a + 1, s, by omega, by go_num, HN2.out⟩
          case measure => simp [intOf]; omega
    · have e : n = a := by omega
      subst e
      go_wp2_with fail
      refine (HSi.out _ HP.out.bel).mono ?_
      rintro e w' ⟨rfl, rfl⟩
      obtain ⟨r0, r1, r2, fr⟩ := box3 HP.out.rc
      obtain ⟨x0, x1, x2, -⟩ := box3 HP.out.box
      have f0 := fr 0
      have f1 := fr 1
      have f2 := fr 2
      have hown := HP.out.own
      obtain ⟨sA, sn, sc, rfl, -⟩ := slice_of_own hown
      clear hown
      clear fr
      go_wp2
      obtain ⟨q0, q1, q2⟩ := set3 (u := .int .i64 (n : Nat)) (v := .int .i64 (n : Nat)) (t := .slice sA sn sc) r0 r1 r2
      refine bodyPost_ret (v := mval n n (.slice sA sn sc)) (by simp [results, Tryz.results68, go_sem, q0, q1, q2]) rfl ?_
      have hl : (entries n (uppE S) (n * n)).length = n * n := by simp [entries]
      have hself := upp_all9 H9.out HF.out
      refine ⟨_, entries n (uppE S) (n * n), rfl, map_self hself, fun z hz => (hself z hz).2, ?_, ?_⟩
      · rw [hl]
        exact own_base (ownsRow_setCell_below (ownsRow_setCell_below (ownsRow_setCell_below HP.out.own (by show w.heap.size < _; omega) _) (by show w.heap.size < _; omega) _) (by show w.heap.size < _; omega) _) (by omega)
      · exact ((HP.out.bel.setCell (Nat.le_refl _) _).setCell (Nat.le_refl _) _).setCell (Nat.le_refl _) _
end Go.Proofs.YtandllekeimpgaaGreat
