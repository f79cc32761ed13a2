/- Layer 11: S.system: a square matrix and what both make of it. -/
import Derived.Test.YtandllekeimpgaaGreatRf9
import Derived.Test.YtandllekeimpgaaGreatRC2
import Derived.Test.YtandllekeimpgaaGreatMX21
import Derived.Test.YtandllekeimpgaaGreatSV0
import Derived.Deep.DeepCutAuto
import Derived.Deep.QuietTactic
import Derived.StillTailTactics
import Derived.Deep.RegionHeld3
namespace Go.Proofs.YtandllekeimpgaaGreat
open Go.RowKit Fl Ieee
set_option maxRecDepth 20000
attribute [local go_sem] run_store_float run_store_complex Fl.order_self Fl.order_self' Fl.order_eq Fl.order_ne Fl.order_lt Fl.order_gt
theorem set3b11 {w : World} {b : Nat} {x0 x1 x2 u v s : Value} {T : TypeId} (h : w.heap[b]? = some (.cells #[x0, x1, x2] T)) :
    (((w.setCell ⟨b, 0, none⟩ u).setCell ⟨b, 1, none⟩ v).setCell ⟨b, 2, none⟩ s).heap[b]? = some (.cells #[u, v, s] T) := by
  have h1 := heap_setCell_same w b 0 _ T u h
  have h2 := heap_setCell_same _ b 1 _ T v h1
  have h3 := heap_setCell_same _ b 2 _ T s h2
  rw [h3]; rfl
theorem Copym11 (r c : Int) (A : Option Addr) (l : List C) (cap : Nat) (w : World) (hl : l.length ≤ 1000000) (hA : A = none → cap = 0) (hr : Reads w w.heap.size A (nums l)) :
    Calls Tryz.prog 21 #[mval r c (.slice A l.length cap)] w (RetMs r c l w) := by
  have hb0 : Below w.heap.size w ((w.alloc (.cells #[.int .i64 r, .int .i64 c, .slice A l.length cap] 27)).alloc (.cells #[.int .i64 0, .int .i64 0, .slice none 0 0] 27)) := ((Below.refl _ w).new (Nat.le_refl _) _).new (Nat.le_refl _) _
  have HCp := Lib.hid (Copy_c A l cap _ hl hA ((hr.below hb0).more hb0.size))
  have HB0 := Lib.hid hb0
  clear hb0 hr hA hl
  go_enter Tryz.func21, Tryz.ntmps21
  go_wp2_with fail
  refine HCp.out.mono ?_
  rintro e W1 ⟨s, rfl, hown, hb⟩
  have hx := row_keep hb (row_alloc (heap_alloc_new w (.cells #[.int .i64 r, .int .i64 c, .slice A l.length cap] 27)))
  have hy := row_keep hb (row_new2 w (.cells #[.int .i64 r, .int .i64 c, .slice A l.length cap] 27) (.cells #[.int .i64 0, .int .i64 0, .slice none 0 0] 27))
  have HO := Lib.hid (own_base hown (show w.heap.size + 2 ≤ _ by simp))
  have HB := Lib.hid (HB0.out.trans (hb.mono HB0.out.size))
  obtain ⟨sA, sn, sc, rfl, -⟩ := slice_of_own hown
  obtain ⟨x0, x1, x2, fx⟩ := box3 hx
  obtain ⟨y0, y1, y2, fy⟩ := box3 hy
  have fx2 := fx 2
  have fy0 := fy 0
  have fy1 := fy 1
  have fy2 := fy 2
  have hy' : (W1.setCell ⟨w.heap.size, 2, none⟩ (.slice sA sn sc)).heap[w.heap.size + 1]? = some (.cells #[.int .i64 0, .int .i64 0, .slice none 0 0] 27) := by
    rw [Below.heap_setCell _ _ _ _ (by show w.heap.size + 1 ≠ w.heap.size; omega)]; exact hy
  obtain ⟨q0, q1, q2, -⟩ := box3 (set3b11 (u := .int .i64 r) (v := .int .i64 c) (s := .slice sA sn sc) hy')
  clear hx hy hy' fx fy hb hown
  go_wp2
  refine bodyPost_ret (v := mval r c (.slice sA sn sc)) (by simp [results, Tryz.results21, go_sem, q0, q1, q2]) rfl ?_
  refine ⟨_, rfl, ?_, (((HB.out.setCell (Nat.le_refl _) _).setCell (Nat.le_succ _) _).setCell (Nat.le_succ _) _).setCell (Nat.le_succ _) _⟩
  exact own_base (ownsRow_setCell_below (ownsRow_setCell_below (ownsRow_setCell_below (ownsRow_setCell_below HO.out (by show w.heap.size < _; omega) _) (by show w.heap.size + 1 < _; omega) _) (by show w.heap.size + 1 < _; omega) _) (by show w.heap.size + 1 < _; omega) _) (by omega)
theorem ok11a {n : Nat} {f : Int × Int} {S : El} {w w' : World} {e : Ending} (h : RetOf f n S w e w') (hf : f.1 = 0) : ∃ b, e = .returned (.tuple #[.pointer (some ⟨b, 0, none⟩), .agg #[.int .i64 0, .int .i64 0]]) ∧ Has9 w' w.heap.size b n S ∧ Below w.heap.size w w' := by
  obtain ⟨v, rfl, hb, h1, -⟩ := h
  obtain ⟨rfl, b, rfl, h9⟩ := h1 hf
  exact ⟨b, rfl, h9, hb⟩
theorem ok11b {n : Nat} {f : Int × Int} {S0' S : El} {w w' : World} {e : Ending} (h : RetROf f n S0' S w e w') (hf : f.1 = 0) : ∃ b ti, e = .returned (.tuple #[.pointer (some ⟨b, 0, none⟩), .agg #[.int .i64 0, .int .i64 0]]) ∧ rHas w' w.heap.size b n S ti ∧ Below w.heap.size w w' := by
  obtain ⟨v, rfl, hb, h1, -⟩ := h
  obtain ⟨rfl, b, ti, rfl, h9, -⟩ := h1 hf
  exact ⟨b, ti, rfl, h9, hb⟩
theorem bad11b {n : Nat} {f : Int × Int} {S0' S : El} {w w' : World} {e : Ending} (h : RetROf f n S0' S w e w') (hf : f.1 ≠ 0) : e = .returned (.tuple #[.pointer none, .agg #[.int .i64 f.1, .int .i64 f.2]]) ∧ Below w.heap.size w w' := by
  obtain ⟨v, rfl, hb, -, h1⟩ := h
  rw [h1 hf]
  exact ⟨rfl, hb⟩
theorem of_fin11 {l : List C} {n : Nat} (hn : n ≤ 64) (hl : l.length = n * n) (h : (ofF n n l).1 = 0) : (∀ z ∈ l, pFinite z = true) ∧ (elRun n (S0 l n) n).1.1 = 0 := by
  have ho : okM n n l.length = true := okM_iff.2 ⟨by omega, by omega, by omega, by omega, by rw [hl, Int.natCast_mul]⟩
  unfold ofF at h
  rw [ho] at h
  simp only [beq_self_eq_true, Bool.and_self, if_true, Int.toNat_natCast] at h
  by_cases hb : badAt l < l.length
  · rw [if_pos hb] at h; cases h
  · rw [if_neg hb] at h
    exact ⟨badAt_all hb, h⟩

theorem elRun_err (n : Nat) (S : El) : ∀ k, (elRun n S k).1.1 = 0 ∨ (elRun n S k).1.1 = 6 ∨ (elRun n S k).1.1 = 7
  | 0 => .inl rfl
  | k + 1 => by
    by_cases h0 : (elRun n S k).1.1 = 0
    · by_cases he : elErr n k (elRun n S k).2 = 0
      · rw [elRun_ok h0 he]; exact .inl rfl
      · rw [elRun_bad h0 he]
        show elErr n k (elRun n S k).2 = 0 ∨ elErr n k (elRun n S k).2 = 6 ∨ elErr n k (elRun n S k).2 = 7
        unfold elErr
        split
        · exact .inr (.inr rfl)
        · split
          · exact .inl rfl
          · exact .inr (.inl rfl)
    · rw [elRun_stays h0 1]; exact elRun_err n S k
theorem ofF_err (r c : Int) (l : List C) : (ofF r c l).1 = 0 ∨ (ofF r c l).1 = 4 ∨ (ofF r c l).1 = 5 ∨ (ofF r c l).1 = 6 ∨ (ofF r c l).1 = 7 := by
  unfold ofF
  split
  · split
    · exact .inr (.inr (.inl rfl))
    · rcases elRun_err r.toNat (S0 l r.toNat) r.toNat with h | h | h
      · exact .inl h
      · exact .inr (.inr (.inr (.inl h)))
      · exact .inr (.inr (.inr (.inr h)))
  · exact .inr (.inl rfl)
/-- What the last statement of system reads. -/
structure SyK (V : World) (N : Nat) (A : Option Addr) (n c q1 q2 q3 : Nat) (f1 f2 : Int) : Prop where
  x : V.heap[q1]? = some (.cells #[.int .i64 (N : Nat), .int .i64 (N : Nat), .slice A n c] 27)
  p : V.heap[q2]? = some (.cells #[.int .i64 f1, .int .i64 f2] 52)
  q : V.heap[q3]? = some (.cells #[.int .i64 f1, .int .i64 f2] 52)
theorem SyK.set {V : World} {N : Nat} {A : Option Addr} {n c q1 q2 q3 : Nat} {f1 f2 : Int} (h : SyK V N A n c q1 q2 q3 f1 f2) {a : Addr} (h1 : q1 ≠ a.block) (h2 : q2 ≠ a.block) (h3 : q3 ≠ a.block) (v : Value) : SyK (V.setCell a v) N A n c q1 q2 q3 f1 f2 :=
  ⟨(Below.heap_setCell _ _ _ _ h1).trans h.x, (Below.heap_setCell _ _ _ _ h2).trans h.p, (Below.heap_setCell _ _ _ _ h3).trans h.q⟩
theorem SyK.drew {V : World} {N : Nat} {A : Option Addr} {n c q1 q2 q3 : Nat} {f1 f2 : Int} (h : SyK V N A n c q1 q2 q3 f1 f2) : SyK V.drew N A n c q1 q2 q3 f1 f2 := ⟨h.x, h.p, h.q⟩
theorem SyK.facts {V : World} {N : Nat} {A : Option Addr} {n c q1 q2 q3 : Nat} {f1 f2 : Int} (h : SyK V N A n c q1 q2 q3 f1 f2) :
    V.cell? ⟨q1, 0, none⟩ = some (.int .i64 (N : Nat)) ∧ V.cell? ⟨q1, 1, none⟩ = some (.int .i64 (N : Nat)) ∧ V.cell? ⟨q1, 2, none⟩ = some (.slice A n c) ∧ V.cell? ⟨q2, 0, none⟩ = some (.int .i64 f1) ∧ V.cell? ⟨q2, 1, none⟩ = some (.int .i64 f2) ∧ V.cell? ⟨q3, 0, none⟩ = some (.int .i64 f1) ∧ V.cell? ⟨q3, 1, none⟩ = some (.int .i64 f2) := by
  obtain ⟨a, b, c', -⟩ := box3 h.x
  obtain ⟨d, e, -⟩ := row2 h.p
  obtain ⟨f, g, -⟩ := row2 h.q
  exact ⟨a, b, c', d, e, f, g⟩
/-- What a statement's system tells. -/
def RetSys (N : Nat) (L : List C) (w : World) (e : Ending) (w' : World) : Prop :=
  ∃ A c va vb ok, e = .returned (.tuple #[mval N N (.slice A L.length c), va, vb, .bool ok]) ∧ L.length ≤ c ∧ (A = none → c = 0) ∧ Reads w' w'.heap.size A (nums L) ∧ Below w.heap.size w w' ∧
    (ok = true → (ofF N N L).1 = 0 ∧ ∃ B B' b b' ti, va = .pointer (some ⟨b, 0, none⟩) ∧ vb = .pointer (some ⟨b', 0, none⟩) ∧ Has9 w' B b N (ofS N L) ∧ rHas w' B' b' N (ofS N L) ti)
theorem system_c (n : Int) (A : Option Addr) (l : List C) (cap : Nat) (x y : Value) (w : World) (hr : Reads w w.heap.size A (zcells l)) (hlt : ltCs l) :
    Calls Tryz.prog 4 #[.agg #[.int .i64 n, .slice A l.length cap, x, y]] w (RetSys (sqN (n % 9)) (sqL l (sqN (n % 9) * sqN (n % 9))) w) := by
  obtain ⟨m, hm⟩ : ∃ m : Int, m = n % 9 := ⟨_, rfl⟩
  have hP := Lib.hid (fun W => Pick_c n 9 (by omega) (by omega) W)
  rw [← hm] at hP ⊢
  obtain ⟨W0, hW0⟩ : ∃ W0, W0 = w.alloc (.cells #[.int .i64 n, .slice A l.length cap, x, y] 24) := ⟨_, rfl⟩
  obtain ⟨W1, hW1⟩ : ∃ W1, W1 = W0.alloc (.cells #[.int .i64 0, .int .i64 0, .slice none 0 0] 27) := ⟨_, rfl⟩
  have hb0 : Below w.heap.size w W1 := by rw [hW1, hW0]; exact ((Below.refl _ w).new (Nat.le_refl _) _).new (Nat.le_refl _) _
  have hbn := (below_new W0 (.cells #[.int .i64 0, .int .i64 0, .slice none 0 0] 27))
  rw [← hW1] at hbn
  have hs : W0.heap[w.heap.size]? = some (.cells #[.int .i64 n, .slice A l.length cap, x, y] 24) := by rw [hW0]; exact heap_alloc_new _ _
  have hz0 : W0.heap.size = w.heap.size + 1 := by rw [hW0]; simp
  have hs1 := row_keep hbn hs
  have hg1 : W1.heap[w.heap.size + 1]? = some (.cells #[.int .i64 0, .int .i64 0, .slice none 0 0] 27) := by rw [hW1, ← hz0]; exact heap_alloc_new _ _
  have HSq := Lib.hid (Square_c m A l cap W1 ((hr.below hb0).more hb0.size))
  obtain ⟨N, hN⟩ : ∃ N, N = sqN m := ⟨_, rfl⟩
  have hN64 : N ≤ 64 := by rw [hN]; exact sqN_le m
  rw [← hN]
  obtain ⟨L, hL⟩ : ∃ L, L = sqL l (N * N) := ⟨_, rfl⟩
  rw [← hN, ← hL] at HSq
  rw [← hL]
  have hLL : L.length = N * N := by rw [hL]; exact sqL_len _ _
  have hL4 : L.length ≤ 4096 := by rw [hLL]; exact prod_small hN64 hN64
  have hLt : ltCs L := by rw [hL]; exact sqL_lt hlt _
  have HL4 := Lib.hid hL4
  have HN := Lib.hid hN64
  have HS1 := Lib.hid hs1
  have HG1 := Lib.hid hg1
  have HB0 := Lib.hid hb0
  have HW0 := Lib.hid hW0
  have HW1 := Lib.hid hW1
  have HZ0 := Lib.hid hz0
  have HLo := Lib.hid (show w.heap.size + 1 < W1.heap.size by rw [hW1]; simp; omega)
  obtain ⟨f1, f2, hf⟩ : ∃ f1 f2, ofF N N L = (f1, f2) := ⟨_, _, rfl⟩
  have HOf := Lib.hid (fun (A : Option Addr) (c : Nat) (V : World) (h1 : L.length ≤ c) (h2 : Reads V V.heap.size A (nums L)) => (show Calls Tryz.prog 20 #[mval N N (.slice A L.length c)] V (RetOf (f1, f2) N (ofS N L) V) from by
    rw [← hf]; exact Of_c N N A L c V h1 h2 hLt))
  have HOg := Lib.hid (fun (A : Option Addr) (c : Nat) (V : World) (h2 : Reads V V.heap.size A (nums L)) => (show Calls Tryz.prog 19 #[mval N N (.slice A L.length c)] V (RetROf (f1, f2) N (S0 L N) (ofS N L) V) from by
    rw [← hf]; exact rOf_c N N A L c V h2 hLt))
  have HF := Lib.hid hf
  clear hr hlt hm hN hL hLL hL4 hLt hf hN64 hs hs1 hg1 hb0 hbn hW0 hW1 hz0
  go_enter Tryz.func4, Tryz.ntmps4
  go_upto_region 1 with fail
  rw [← HZ0.out, ← HW0.out, ← HW1.out, HZ0.out]
  clear HW0 HW1
  obtain ⟨s0, s1, -, -⟩ := box4 HS1.out
  go_wp2_with fail
  refine (hP.out _).mono ?_
  rintro e w' ⟨rfl, rfl⟩
  go_wp2_with fail
  refine HSq.out.mono ?_
  rintro e V1 hr
  obtain ⟨sv, rfl, hown, hb⟩ := hr
  obtain ⟨A1, c1, rfl, -, hle, hno⟩ := own_readsT hown
  have hbn := (below_new V1 (.cells #[.int .i64 (N : Nat), .int .i64 (N : Nat), .slice A1 L.length c1] 27))
  have HB1 := Lib.hid ((HB0.out.trans (hb.mono HB0.out.size)).trans (hbn.mono (Nat.le_trans HB0.out.size hb.size)))
  have HR1 := Lib.hid (own_below (own_below hown (Below.refl _ _)) hbn)
  have HX1 := Lib.hid (heap_alloc_new V1 (.cells #[.int .i64 (N : Nat), .int .i64 (N : Nat), .slice A1 L.length c1] 27))
  have HG2 := Lib.hid (row_keep hbn (row_keep hb HG1.out))
  have HCp := Lib.hid (fun (V : World) (hV : Reads V V.heap.size A1 (nums L)) => Copym11 N N A1 L c1 V (by have := HL4.out; omega) hno hV)
  have HNo := Lib.hid (And.intro hle hno)
  have HSz := Lib.hid (And.intro hb.size (Nat.le_trans hb.size hbn.size))
  clear hown hle hno hb hbn HSq HG1 HB0 HS1 s0 s1 HZ0
  obtain ⟨x0, x1, x2, -⟩ := box3 HX1.out
  go_wp2_with fail
  by_cases h0 : f1 = 0
  · have H0 := Lib.hid (show (ofF N N L).1 = 0 by rw [HF.out]; exact h0)
    have HO1 := Lib.hid (fun A c V h1 h2 => (HOf.out A c V h1 h2).mono fun e w' h => ok11a h h0)
    have HO2 := Lib.hid (fun A c V h2 => (HOg.out A c V h2).mono fun e w' h => ok11b h h0)
    clear HOf HOg h0
    refine (HO2.out _ _ _ (Reads.of_own HR1.out)).mono ?_
    rintro e V2 ⟨b2, ti, rfl, h9, hb⟩
    have hbn := below_new V2 (.cells #[.int .i64 0, .int .i64 0] 52)
    have hB := hb.trans (hbn.mono hb.size)
    have HB2 := Lib.hid (HB1.out.trans (hB.mono HB1.out.size))
    have HR2 := Lib.hid (own_below HR1.out hB)
    have HX2 := Lib.hid (row_keep hB HX1.out)
    have HG3 := Lib.hid (row_keep hB HG2.out)
    have HF2 := Lib.hid (heap_alloc_new V2 (.cells #[.int .i64 0, .int .i64 0] 52))
    have H9 := Lib.hid (h9.below hbn)
    have HSz2 := Lib.hid hB.size
    have HSzb := Lib.hid hb.size
    clear hb hbn hB h9 HB1 HR1 HX1 HG2 HO2 x0 x1 x2
    obtain ⟨x0, x1, x2, -⟩ := box3 HX2.out
    go_wp2_with fail
    refine (HCp.out _ (Reads.of_own HR2.out)).mono ?_
    rintro e V3 hr
    obtain ⟨A3, c3, rfl, hrd, hle, -, -, hb⟩ := hr.lies
    have HB3 := Lib.hid (HB2.out.trans (hb.mono HB2.out.size))
    have HR3 := Lib.hid (own_below HR2.out hb)
    have HX3 := Lib.hid (row_keep hb HX2.out)
    have HG4 := Lib.hid (row_keep hb HG3.out)
    have HF3 := Lib.hid (row_keep hb HF2.out)
    have H9' := Lib.hid (H9.out.below hb)
    have HSz3 := Lib.hid (show V1.heap.size ≤ V3.heap.size from Nat.le_trans (Nat.le_trans (below_new _ _).size HSz2.out) hb.size)
    have HLe := Lib.hid hle
    have HRc := Lib.hid hrd
    clear hr hrd hle hb HB2 HR2 HX2 HG3 HF2 H9 x0 x1 x2 HCp
    go_wp2_with fail
    refine (HO1.out _ _ _ HLe.out HRc.out).mono ?_
    rintro e V4 ⟨b1, rfl, h9, hb⟩
    have hbn := below_new V4 (.cells #[.int .i64 0, .int .i64 0] 52)
    have hB := hb.trans (hbn.mono hb.size)
    have HB4 := Lib.hid (HB3.out.trans (hB.mono HB3.out.size))
    have HR4 := Lib.hid (own_below HR3.out hB)
    have HX4 := Lib.hid (row_keep hB HX3.out)
    have HG5 := Lib.hid (row_keep hB HG4.out)
    have HF4 := Lib.hid (row_keep hB HF3.out)
    have HK4 := Lib.hid (heap_alloc_new V4 (.cells #[.int .i64 0, .int .i64 0] 52))
    have H9a := Lib.hid (h9.below hbn)
    have H9b := Lib.hid (H9'.out.below hB)
    have HSz4 := Lib.hid hb.size
    clear hb hbn hB h9 HB3 HR3 HX3 HG4 HF3 H9' HRc HLe HO1
    obtain ⟨W5, hW5⟩ : ∃ W5, W5 = V4.alloc (.cells #[.int .i64 0, .int .i64 0] 52) := ⟨_, rfl⟩
    rw [← hW5] at HB4 HR4 HX4 HG5 HF4 HK4 H9a H9b
    obtain ⟨x0, x1, x2, -⟩ := box3 HX4.out
    obtain ⟨p0, p1, -⟩ := row2 HF4.out
    obtain ⟨q0, q1, -⟩ := row2 HK4.out
    obtain ⟨g0, g1, g2, fg⟩ := box3 HG5.out
    go_upto_region 5 with fail
    rw [← hW5]
    have hs5 : SyK W5 N A1 L.length c1 V1.heap.size V2.heap.size V4.heap.size 0 0 := ⟨HX4.out, HF4.out, HK4.out⟩
    have l1 := HSz.out.1
    have l2 := HSz.out.2
    have l3 := HSz2.out
    have l4 := HSz3.out
    have l5 := HSz4.out
    have l6 := HLo.out
    have l7 := HSzb.out
    have hn1 : V1.heap.size ≠ w.heap.size + 1 := by omega
    have hn2 : V2.heap.size ≠ w.heap.size + 1 := by omega
    have hn3 : V4.heap.size ≠ w.heap.size + 1 := by omega
    clear hW5 l1 l2 l3 l4 l5 l6 l7
    have fg0 := fg 0
    have fg1 := fg 1
    have fg2 := fg 2
    clear fg
    go_region_held3 (fun V => V.cell? ⟨V1.heap.size, 0, none⟩ = some (.int .i64 (N : Nat)) ∧ V.cell? ⟨V1.heap.size, 1, none⟩ = some (.int .i64 (N : Nat)) ∧ V.cell? ⟨V1.heap.size, 2, none⟩ = some (.slice A1 L.length c1) ∧ V.cell? ⟨V2.heap.size, 0, none⟩ = some (.int .i64 0) ∧ V.cell? ⟨V2.heap.size, 1, none⟩ = some (.int .i64 0) ∧ V.cell? ⟨V4.heap.size, 0, none⟩ = some (.int .i64 0) ∧ V.cell? ⟨V4.heap.size, 1, none⟩ = some (.int .i64 0))
      (exact SyK.facts (by repeat (first | with_reducible assumption | with_reducible refine SyK.drew ?_ | with_reducible refine SyK.set ?_ hn1 hn2 hn3 _)))
      (first | fail)
    have HLp := Lib.hid (show w.heap.size + 1 < V3.heap.size ∧ w.heap.size + 1 < (V1.alloc (.cells #[.int .i64 (N : Nat), .int .i64 (N : Nat), .slice A1 L.length c1] 27)).heap.size from ⟨Nat.lt_of_lt_of_le HLo.out (Nat.le_trans HSz.out.1 HSz3.out), Nat.lt_of_lt_of_le HLo.out HSz.out.2⟩)
    obtain ⟨y0, y1, y2⟩ := set3 (u := .int .i64 (N : Nat)) (v := .int .i64 (N : Nat)) (t := .slice A1 L.length c1) g0 g1 g2
    clear x0 x1 x2 p0 p1 q0 q1 fg0 fg1 fg2 hs5
    go_wp2
    refine bodyPost_ret (v := .tuple #[mval N N (.slice A1 L.length c1), .pointer (some ⟨b1, 0, none⟩), .pointer (some ⟨b2, 0, none⟩), .bool true]) (by simp [results, Tryz.results4, go_sem, y0, y1, y2]) rfl ?_
    refine ⟨A1, c1, _, _, true, rfl, HNo.out.1, HNo.out.2, ?_, (((HB4.out.setCell (Nat.le_succ _) _).setCell (Nat.le_succ _) _).setCell (Nat.le_succ _) _).drew, ?_⟩
    · exact Reads.of_own (own_below (ownsRow_setCell_below (ownsRow_setCell_below (ownsRow_setCell_below HR4.out HLo.out _) HLo.out _) HLo.out _) (Below.refl _ _).drew)
    · intro _
      exact ⟨H0.out, _, _, b1, b2, ti, rfl, rfl, (((H9a.out.other HLp.out.1 _).other HLp.out.1 _).other HLp.out.1 _).below (Below.refl _ _).drew, (((H9b.out.other HLp.out.2 _).other HLp.out.2 _).other HLp.out.2 _).below (Below.refl _ _).drew⟩
  · have hne : (f1 == 0) = false := by simpa using h0
    have HO1 := Lib.hid (fun A c V h1 h2 => (HOf.out A c V h1 h2).mono fun e w' h => h.bad h0)
    have HO2 := Lib.hid (fun A c V h2 => (HOg.out A c V h2).mono fun e w' h => bad11b h h0)
    clear HOf HOg h0
    refine (HO2.out _ _ _ (Reads.of_own HR1.out)).mono ?_
    rintro e V2 ⟨rfl, hb⟩
    have hbn := below_new V2 (.cells #[.int .i64 f1, .int .i64 f2] 52)
    have hB := hb.trans (hbn.mono hb.size)
    have HB2 := Lib.hid (HB1.out.trans (hB.mono HB1.out.size))
    have HR2 := Lib.hid (own_below HR1.out hB)
    have HX2 := Lib.hid (row_keep hB HX1.out)
    have HG3 := Lib.hid (row_keep hB HG2.out)
    have HF2 := Lib.hid (heap_alloc_new V2 (.cells #[.int .i64 f1, .int .i64 f2] 52))
    have HSz2 := Lib.hid hB.size
    have HSzb := Lib.hid hb.size
    clear hb hbn hB HB1 HR1 HX1 HG2 HO2 x0 x1 x2
    obtain ⟨x0, x1, x2, -⟩ := box3 HX2.out
    go_wp2_with fail
    refine (HCp.out _ (Reads.of_own HR2.out)).mono ?_
    rintro e V3 hr
    obtain ⟨A3, c3, rfl, hrd, hle, -, -, hb⟩ := hr.lies
    have HB3 := Lib.hid (HB2.out.trans (hb.mono HB2.out.size))
    have HR3 := Lib.hid (own_below HR2.out hb)
    have HX3 := Lib.hid (row_keep hb HX2.out)
    have HG4 := Lib.hid (row_keep hb HG3.out)
    have HF3 := Lib.hid (row_keep hb HF2.out)
    have HSz3 := Lib.hid (show V1.heap.size ≤ V3.heap.size from Nat.le_trans (Nat.le_trans (below_new _ _).size HSz2.out) hb.size)
    have HLe := Lib.hid hle
    have HRc := Lib.hid hrd
    clear hr hrd hle hb HB2 HR2 HX2 HG3 HF2 x0 x1 x2 HCp
    go_wp2_with fail
    refine (HO1.out _ _ _ HLe.out HRc.out).mono ?_
    rintro e V4 ⟨rfl, hb⟩
    have hbn := below_new V4 (.cells #[.int .i64 f1, .int .i64 f2] 52)
    have hB := hb.trans (hbn.mono hb.size)
    have HB4 := Lib.hid (HB3.out.trans (hB.mono HB3.out.size))
    have HR4 := Lib.hid (own_below HR3.out hB)
    have HX4 := Lib.hid (row_keep hB HX3.out)
    have HG5 := Lib.hid (row_keep hB HG4.out)
    have HF4 := Lib.hid (row_keep hB HF3.out)
    have HK4 := Lib.hid (heap_alloc_new V4 (.cells #[.int .i64 f1, .int .i64 f2] 52))
    have HSz4 := Lib.hid hb.size
    clear hb hbn hB HB3 HR3 HX3 HG4 HF3 HRc HLe HO1
    obtain ⟨W5, hW5⟩ : ∃ W5, W5 = V4.alloc (.cells #[.int .i64 f1, .int .i64 f2] 52) := ⟨_, rfl⟩
    rw [← hW5] at HB4 HR4 HX4 HG5 HF4 HK4
    obtain ⟨x0, x1, x2, -⟩ := box3 HX4.out
    obtain ⟨p0, p1, -⟩ := row2 HF4.out
    obtain ⟨q0, q1, -⟩ := row2 HK4.out
    obtain ⟨g0, g1, g2, fg⟩ := box3 HG5.out
    go_upto_region 5 with fail
    rw [← hW5]
    have hs5 : SyK W5 N A1 L.length c1 V1.heap.size V2.heap.size V4.heap.size f1 f2 := ⟨HX4.out, HF4.out, HK4.out⟩
    have l1 := HSz.out.1
    have l2 := HSz.out.2
    have l3 := HSz2.out
    have l4 := HSz3.out
    have l5 := HSz4.out
    have l6 := HLo.out
    have l7 := HSzb.out
    have hn1 : V1.heap.size ≠ w.heap.size + 1 := by omega
    have hn2 : V2.heap.size ≠ w.heap.size + 1 := by omega
    have hn3 : V4.heap.size ≠ w.heap.size + 1 := by omega
    clear hW5 l1 l2 l3 l4 l5 l6 l7
    have fg0 := fg 0
    have fg1 := fg 1
    have fg2 := fg 2
    clear fg
    go_region
    obtain ⟨y0, y1, y2⟩ := set3 (u := .int .i64 (N : Nat)) (v := .int .i64 (N : Nat)) (t := .slice A1 L.length c1) g0 g1 g2
    clear x0 x1 x2 p0 p1 q0 q1 fg0 fg1 fg2 hs5
    go_wp2
    refine bodyPost_ret (v := .tuple #[mval N N (.slice A1 L.length c1), .pointer none, .pointer none, .bool false]) (by simp [results, Tryz.results4, go_sem, y0, y1, y2]) rfl ?_
    refine ⟨A1, c1, _, _, false, rfl, HNo.out.1, HNo.out.2, ?_, (((HB4.out.setCell (Nat.le_succ _) _).setCell (Nat.le_succ _) _).setCell (Nat.le_succ _) _).drew, fun h => (by cases h)⟩
    exact Reads.of_own (own_below (ownsRow_setCell_below (ownsRow_setCell_below (ownsRow_setCell_below HR4.out HLo.out _) HLo.out _) HLo.out _) (Below.refl _ _).drew)
end Go.Proofs.YtandllekeimpgaaGreat
