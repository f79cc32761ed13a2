/- Layer 10: any matrix, any right side, as the document does (both, asked, SolveAll). -/
import Derived.Test.YtglmmidhkpomgaaGreatSaP
import Derived.Test.YtglmmidhkpomgaaGreatMX21
import Derived.Great.BuildSlice
import Derived.Deep.DeepCutAuto
import Derived.Deep.CutBlock
import Derived.StillTailTactics
namespace Go.Proofs.YtglmmidhkpomgaaGreat
open Go.RowKit Fl Ieee
set_option maxRecDepth 20000
attribute [local go_sem] run_store_float run_store_complex
theorem Copym_c (r c : Int) (A : Option Addr) (l : List C) (cap : Nat) (w : World) (hl : l.length ≤ 1000000) (hA : A = none → cap = 0) (hr : Reads w w.heap.size A (nums l)) :
    Calls Tryz.prog 20 #[mval r c (.slice A l.length cap)] w (RetMs r c l w) := by
  have hb0 : Below w.heap.size w ((w.alloc (.cells #[.int .i64 r, .int .i64 c, .slice A l.length cap] 33)).alloc (.cells #[.int .i64 0, .int .i64 0, .slice none 0 0] 33)) := ((Below.refl _ w).new (Nat.le_refl _) _).new (Nat.le_refl _) _
  have HCp := Lib.hid (Copy_c A l cap _ hl hA ((hr.below hb0).more hb0.size))
  have HB0 := Lib.hid hb0
  clear hb0 hr hA hl
  go_enter Tryz.func20, Tryz.ntmps20
  go_wp2_with fail
  refine HCp.out.mono ?_
  rintro e W1 ⟨s, rfl, hown, hb⟩
  have hx := row_keep hb (row_alloc (heap_alloc_new w (.cells #[.int .i64 r, .int .i64 c, .slice A l.length cap] 33)))
  have hy := row_keep hb (row_new2 w (.cells #[.int .i64 r, .int .i64 c, .slice A l.length cap] 33) (.cells #[.int .i64 0, .int .i64 0, .slice none 0 0] 33))
  have HO := Lib.hid (own_base hown (show w.heap.size + 2 ≤ _ by simp))
  have HB := Lib.hid (HB0.out.trans (hb.mono HB0.out.size))
  obtain ⟨sA, sn, sc, rfl, -⟩ := slice_of_own hown
  obtain ⟨x0, x1, x2, fx⟩ := box3 hx
  obtain ⟨y0, y1, y2, fy⟩ := box3 hy
  have fx2 := fx 2
  have fy0 := fy 0
  have fy1 := fy 1
  have fy2 := fy 2
  have hy' : (W1.setCell ⟨w.heap.size, 2, none⟩ (.slice sA sn sc)).heap[w.heap.size + 1]? = some (.cells #[.int .i64 0, .int .i64 0, .slice none 0 0] 33) := by
    rw [Below.heap_setCell _ _ _ _ (by show w.heap.size + 1 ≠ w.heap.size; omega)]; exact hy
  obtain ⟨q0, q1, q2, -⟩ := box3 (set3b (u := .int .i64 r) (v := .int .i64 c) (s := .slice sA sn sc) hy')
  clear hx hy hy' fx fy hb hown
  go_wp2
  refine bodyPost_ret (v := mval r c (.slice sA sn sc)) (by simp [results, Tryz.results20, go_sem, q0, q1, q2]) rfl ?_
  refine ⟨_, rfl, ?_, (((HB.out.setCell (Nat.le_refl _) _).setCell (Nat.le_succ _) _).setCell (Nat.le_succ _) _).setCell (Nat.le_succ _) _⟩
  exact own_base (ownsRow_setCell_below (ownsRow_setCell_below (ownsRow_setCell_below (ownsRow_setCell_below HO.out (by show w.heap.size < _; omega) _) (by show w.heap.size + 1 < _; omega) _) (by show w.heap.size + 1 < _; omega) _) (by show w.heap.size + 1 < _; omega) _) (by omega)
theorem ok9_a {n : Nat} {f : Int × Int} {S : El} {w w' : World} {e : Ending} (h : RetOf f n S w e w') (hf : f.1 = 0) : ∃ b, e = .returned (.tuple #[.pointer (some ⟨b, 0, none⟩), .agg #[.int .i64 0, .int .i64 0]]) ∧ Has9 w' w.heap.size b n S ∧ Below w.heap.size w w' := by
  obtain ⟨v, rfl, hb, h1, -⟩ := h
  obtain ⟨rfl, b, rfl, h9⟩ := h1 hf
  exact ⟨b, rfl, h9, hb⟩
theorem ok9_b {n : Nat} {f : Int × Int} {S0' S : El} {w w' : World} {e : Ending} (h : RetROf f n S0' S w e w') (hf : f.1 = 0) : ∃ b ti, e = .returned (.tuple #[.pointer (some ⟨b, 0, none⟩), .agg #[.int .i64 0, .int .i64 0]]) ∧ rHas w' w.heap.size b n S ti ∧ Below w.heap.size w w' := by
  obtain ⟨v, rfl, hb, h1, -⟩ := h
  obtain ⟨rfl, b, ti, rfl, h9, -⟩ := h1 hf
  exact ⟨b, ti, rfl, h9, hb⟩
theorem bad9_b {n : Nat} {f : Int × Int} {S0' S : El} {w w' : World} {e : Ending} (h : RetROf f n S0' S w e w') (hf : f.1 ≠ 0) : e = .returned (.tuple #[.pointer none, .agg #[.int .i64 f.1, .int .i64 f.2]]) ∧ Below w.heap.size w w' := by
  obtain ⟨v, rfl, hb, -, h1⟩ := h
  rw [h1 hf]
  exact ⟨rfl, hb⟩
theorem of_fin9 {l : List C} {n : Nat} (hn : n ≤ 64) (hl : l.length = n * n) (h : (ofF n n l).1 = 0) : (∀ z ∈ l, pFinite z = true) ∧ (elRun n (S0 l n) n).1.1 = 0 := by
  have ho : okM n n l.length = true := okM_iff.2 ⟨by omega, by omega, by omega, by omega, by rw [hl, Int.natCast_mul]⟩
  unfold ofF at h
  rw [ho] at h
  simp only [beq_self_eq_true, Bool.and_self, if_true, Int.toNat_natCast] at h
  by_cases hb : badAt l < l.length
  · rw [if_pos hb] at h; cases h
  · rw [if_neg hb] at h
    exact ⟨badAt_all hb, h⟩
theorem homes9 {N : Nat} {L : List C} (h64 : N ≤ 64) (hL : L.length = N * N) (h0 : (ofF N N L).1 = 0) :
    finTo (ofS N L).E N ∧ Perm N (ofS N L).o ∧ ((∀ i, i < N → ltC ((ofS N L).E i i)) → ∀ i, i < N → HomeIn (uppE (ofS N L) i i)) := by
  obtain ⟨hf, hr0⟩ := of_fin9 h64 hL h0
  have eS : ofS N L = (elRun N (S0 L N) N).2 := by unfold ofS; simp only [Int.toNat_natCast]
  have h1 : finTo (ofS N L).E N := by rw [eS]; exact elRun_fin (matE_fin hL hf) N (Nat.le_refl _)
  refine ⟨h1, ?_, fun hl i hi => ?_⟩
  · rw [eS]; exact run_perm (S := S0 L N) ⟨fun _ h => h, fun _ _ _ _ e => e⟩ N (Nat.le_refl _)
  · have e : uppE (ofS N L) i i = (ofS N L).E i i := by unfold uppE; rw [if_neg (Nat.lt_irrefl _)]
    rw [e]
    refine ⟨hl i hi, h1 i i hi hi, ?_⟩
    rw [eS]; exact run_diag (matE_fin hL hf) N (Nat.le_refl _) hr0 i hi
theorem diag9 {W : World} {B b n : Nat} {S : El} (h : Has9 W B b n S) (i : Nat) (hi : i < n) : ltC (S.E i i) := by
  obtain ⟨_, _, _, _, _, _, _, hl⟩ := h.num hi hi
  exact hl
def RetBoth (w : World) (e : Ending) (w' : World) : Prop :=
  ∃ va vb k N S, e = .returned (.tuple #[va, vb, .bool true]) ∧ PairK w' va vb k N S ∧ Below w.heap.size w w'
set_option maxHeartbeats 4000000 in
theorem both_c (n : Int) (A : Option Addr) (l : List C) (cap : Nat) (w : World) (hr : Reads w w.heap.size A (zcells l)) (hlt : ltCs l) :
    Calls Tryz.prog 4 #[.int .i64 n, .slice A l.length cap] w (RetBoth w) := by
  obtain ⟨m, hm⟩ : ∃ m : Int, m = n % 17 := ⟨_, rfl⟩
  have hP := Lib.hid (fun W => Pick_c n 17 (by omega) (by omega) W)
  rw [← hm] at hP
  have HSq := Lib.hid (Square_c m A l cap w hr)
  obtain ⟨N, hN⟩ : ∃ N, N = sqN m := ⟨_, rfl⟩
  have hN64 : N ≤ 64 := by rw [hN]; exact sqN_le m
  obtain ⟨L, hL⟩ : ∃ L, L = sqL l (N * N) := ⟨_, rfl⟩
  rw [← hN, ← hL] at HSq
  have hLL : L.length = N * N := by rw [hL]; exact sqL_len _ _
  have hL4 : L.length ≤ 4096 := by rw [hLL]; exact prod_small hN64 hN64
  have hLt : ltCs L := by rw [hL]; exact sqL_lt hlt _
  have HHo := Lib.hid (homes9 hN64 hLL)
  have HL4 := Lib.hid hL4
  have HLt := Lib.hid hLt
  have HN := Lib.hid hN64
  obtain ⟨f1, f2, hf⟩ : ∃ f1 f2, ofF N N L = (f1, f2) := ⟨_, _, rfl⟩
  have HOf := Lib.hid (fun (A : Option Addr) (c : Nat) (V : World) (h1 : L.length ≤ c) (h2 : Reads V V.heap.size A (nums L)) => (show Calls Tryz.prog 19 #[mval N N (.slice A L.length c)] V (RetOf (f1, f2) N (ofS N L) V) from by
    rw [← hf]; exact Of_c N N A L c V h1 h2 hLt))
  have HOg := Lib.hid (fun (A : Option Addr) (c : Nat) (V : World) (h2 : Reads V V.heap.size A (nums L)) => (show Calls Tryz.prog 21 #[mval N N (.slice A L.length c)] V (RetROf (f1, f2) N (S0 L N) (ofS N L) V) from by
    rw [← hf]; exact rOf_c N N A L c V h2 hLt))
  have HF := Lib.hid hf
  clear hr hlt hm hN hL hLL hL4 hLt hf hN64
  go_enter Tryz.func4, Tryz.ntmps4
  go_wp2_with fail
  refine (hP.out _).mono ?_
  rintro e w' ⟨rfl, rfl⟩
  go_wp2_with fail
  refine HSq.out.mono ?_
  rintro e W1 hr
  obtain ⟨A1, c1, rfl, hrd, hle, hno, -, hb⟩ := hr.lies
  have hbn := (below_new W1 (.cells #[.int .i64 (N : Nat), .int .i64 (N : Nat), .slice A1 L.length c1] 33))
  have HB1 := Lib.hid (hb.trans (hbn.mono hb.size))
  have HR1 := Lib.hid ((hrd.below hbn).more hbn.size)
  have HX1 := Lib.hid (heap_alloc_new W1 (.cells #[.int .i64 (N : Nat), .int .i64 (N : Nat), .slice A1 L.length c1] 33))
  have HCp := Lib.hid (fun (V : World) (hV : Reads V V.heap.size A1 (nums L)) => Copym_c N N A1 L c1 V (by have := HL4.out; omega) hno hV)
  clear hr hrd hle hno hb hbn HSq
  obtain ⟨x0, x1, x2, -⟩ := box3 HX1.out
  go_wp2_with fail
  refine (HCp.out _ HR1.out).mono ?_
  rintro e W2 hr
  obtain ⟨A2, c2, rfl, hrd, hle, -, -, hb⟩ := hr.lies
  have HB2 := Lib.hid (HB1.out.trans (hb.mono HB1.out.size))
  have HR2 := Lib.hid ((HR1.out.below hb).more hb.size)
  have HX2 := Lib.hid (row_keep hb HX1.out)
  have HLe := Lib.hid hle
  have HRc := Lib.hid hrd
  clear hr hrd hle hb HB1 HR1 HX1 x0 x1 x2 HCp
  go_wp2_with fail
  by_cases h0 : f1 = 0
  · have H0 := Lib.hid (show (ofF N N L).1 = 0 by rw [HF.out]; exact h0)
    obtain ⟨hfin, hperm, hhome⟩ := HHo.out H0.out
    have HFin := Lib.hid (And.intro hfin (And.intro hperm hhome))
    have HO1 := Lib.hid (fun A c V h1 h2 => (HOf.out A c V h1 h2).mono fun e w' h => ok9_a h h0)
    have HO2 := Lib.hid (fun A c V h2 => (HOg.out A c V h2).mono fun e w' h => ok9_b h h0)
    clear HOf HOg h0 hfin hperm hhome
    refine (HO1.out _ _ _ HLe.out HRc.out).mono ?_
    rintro e W3 ⟨b1, rfl, h9, hb⟩
    have hbn := below_new W3 (.cells #[.int .i64 0, .int .i64 0] 53)
    have HB3 := Lib.hid ((HB2.out.trans (hb.mono HB2.out.size)).trans (hbn.mono (Nat.le_trans HB2.out.size hb.size)))
    have HR3 := Lib.hid ((((HR2.out.below hb).more hb.size).below hbn).more hbn.size)
    have HX3 := Lib.hid (row_keep hbn (row_keep hb HX2.out))
    have HF3 := Lib.hid (heap_alloc_new W3 (.cells #[.int .i64 0, .int .i64 0] 53))
    have H9 := Lib.hid (h9.below hbn)
    clear hb hbn h9 HB2 HR2 HX2 HRc HLe
    obtain ⟨x0, x1, x2, -⟩ := box3 HX3.out
    go_wp2_with fail
    refine (HO2.out _ _ _ HR3.out).mono ?_
    rintro e W4 ⟨b2, ti, rfl, h9, hb⟩
    have hbn := below_new W4 (.cells #[.int .i64 0, .int .i64 0] 53)
    have HB4 := Lib.hid ((HB3.out.trans (hb.mono HB3.out.size)).trans (hbn.mono (Nat.le_trans HB3.out.size hb.size)))
    have HF4 := Lib.hid (row_keep hbn (row_keep hb HF3.out))
    have HG4 := Lib.hid (heap_alloc_new W4 (.cells #[.int .i64 0, .int .i64 0] 53))
    have H9a := Lib.hid ((H9.out.below hb).below hbn)
    have H9b := Lib.hid (h9.below hbn)
    clear hb hbn h9 HB3 HR3 HX3 HF3 H9 x0 x1 x2 HO1 HO2
    obtain ⟨p0, p1, -⟩ := row2 HF4.out
    obtain ⟨q0, q1, -⟩ := row2 HG4.out
    go_wp2
    go_ret3
    obtain ⟨f0, f1, f2⟩ := HFin.out
    refine ⟨_, _, true, N, ofS N L, rfl, ⟨fun _ => ⟨_, b1, _, b2, ti, rfl, rfl, H9a.out, H9b.out⟩, fun h => (by cases h), fun _ => ⟨f0, f1, HN.out, f2 (diag9 H9a.out)⟩⟩, HB4.out⟩
  · have HO1 := Lib.hid (fun A c V h1 h2 => (HOf.out A c V h1 h2).mono fun e w' h => h.bad h0)
    have HO2 := Lib.hid (fun A c V h2 => (HOg.out A c V h2).mono fun e w' h => bad9_b h h0)
    clear HOf HOg h0
    refine (HO1.out _ _ _ HLe.out HRc.out).mono ?_
    rintro e W3 ⟨rfl, hb⟩
    have hbn := below_new W3 (.cells #[.int .i64 f1, .int .i64 f2] 53)
    have HB3 := Lib.hid ((HB2.out.trans (hb.mono HB2.out.size)).trans (hbn.mono (Nat.le_trans HB2.out.size hb.size)))
    have HR3 := Lib.hid ((((HR2.out.below hb).more hb.size).below hbn).more hbn.size)
    have HX3 := Lib.hid (row_keep hbn (row_keep hb HX2.out))
    have HF3 := Lib.hid (heap_alloc_new W3 (.cells #[.int .i64 f1, .int .i64 f2] 53))
    clear hb hbn HB2 HR2 HX2 HRc HLe
    obtain ⟨x0, x1, x2, -⟩ := box3 HX3.out
    go_wp2_with fail
    refine (HO2.out _ _ _ HR3.out).mono ?_
    rintro e W4 ⟨rfl, hb⟩
    have hbn := below_new W4 (.cells #[.int .i64 f1, .int .i64 f2] 53)
    have HB4 := Lib.hid ((HB3.out.trans (hb.mono HB3.out.size)).trans (hbn.mono (Nat.le_trans HB3.out.size hb.size)))
    have HF4 := Lib.hid (row_keep hbn (row_keep hb HF3.out))
    have HG4 := Lib.hid (heap_alloc_new W4 (.cells #[.int .i64 f1, .int .i64 f2] 53))
    clear hb hbn HB3 HR3 HX3 HF3 x0 x1 x2 HO1 HO2
    obtain ⟨p0, p1, -⟩ := row2 HF4.out
    obtain ⟨q0, q1, -⟩ := row2 HG4.out
    go_wp2
    go_ret3
    refine ⟨_, _, false, N, ofS N L, rfl, ⟨fun h => (by cases h), fun _ => ⟨rfl, rfl⟩, fun h => (by cases h)⟩, HB4.out⟩
/-- Lists of their own, kept while the world grows: where, what, capacity, from, to. -/
structure LsK (w W : World) (ls : List (Option Addr × List C × Nat × Nat × Nat)) : Prop where
  bel : Below w.heap.size w W
  l : ∀ t ∈ ls, Lst W t.2.2.2.1 t.2.2.2.2 t.1 t.2.1 t.2.2.1
namespace LsK
variable {w W V : World} {ls : List (Option Addr × List C × Nat × Nat × Nat)}
theorem below (h : LsK w W ls) (hb : Below W.heap.size W V) : LsK w V ls := ⟨h.bel.trans (hb.mono h.bel.size), fun t ht => (h.l t ht).below hb⟩
theorem add {A : Option Addr} {L : List C} {c lo hi : Nat} (h : LsK w W ls) (hL : Lst W lo hi A L c) : LsK w W ((A, L, c, lo, hi) :: ls) := ⟨h.bel, fun t ht => by
  rcases List.mem_cons.1 ht with rfl | ht
  · exact hL
  · exact h.l t ht⟩
theorem get {A : Option Addr} {L : List C} {c lo hi : Nat} (h : LsK w W ls) (i : Nat) (hi' : ls[i]? = some (A, L, c, lo, hi)) : Lst W lo hi A L c := h.l (A, L, c, lo, hi) (List.mem_of_getElem? hi')
theorem over {g : Nat} (h : LsK w W ls) (hg : W.grownBy V (some g)) (h0 : w.heap.size ≤ g) (hlo : ∀ t ∈ ls, g < t.2.2.2.1) : LsK w V ls :=
  ⟨h.bel.grown hg h.bel.size (fun j hj => by injection hj with hj; rw [← hj]; exact h0), fun t ht => (h.l t ht).over hg (.inr (hlo t ht))⟩
end LsK
def RetA (L : List C) (er : Int) (w : World) (e : Ending) (w' : World) : Prop :=
  ∃ A c, e = .returned (.tuple #[.slice A L.length c, .int .i64 er]) ∧ Lst w' w.heap.size w'.heap.size A L c ∧ Below w.heap.size w w'
theorem pkL_len {k ok : Bool} {n : Nat} {l L : List C} (hn : n ≤ 64) (hL : L.length = n) : (pkL k ok n l L).length ≤ 64 := by
  unfold pkL mLst
  split
  · split
    · split
      · omega
      · exact Nat.zero_le _
    · exact Nat.zero_le _
  · exact Nat.zero_le _
/-- What `asked` tells: the three lists, in memory of their own. -/
structure ThreeL (w W : World) (q : Nat) (A0 A1 A2 : Option Addr) (z0 z1 z2 : List C) (c0 c1 c2 m1 m2 : Nat) : Prop where
  bel : Below w.heap.size w W
  l0 : Lst W w.heap.size m1 A0 z0 c0
  l1 : Lst W m1 m2 A1 z1 c1
  l2 : Lst W m2 q A2 z2 c2
  o0 : w.heap.size ≤ m1
  o1 : m1 ≤ m2
  o2 : m2 ≤ q
  row : W.heap[q]? = some (.cells #[.slice A0 z0.length c0, .slice A1 z1.length c1, .slice A2 z2.length c2] 27)
  le : z0.length ≤ 64 ∧ z1.length ≤ 64 ∧ z2.length ≤ 64
def RetAsk (w : World) (e : Ending) (w' : World) : Prop :=
  ∃ q A0 A1 A2 z0 z1 z2 c0 c1 c2 m1 m2, e = .returned (.tuple #[.slice (some ⟨q, 0, none⟩) 3 3, .bool true]) ∧ ThreeL w w' q A0 A1 A2 z0 z1 z2 c0 c1 c2 m1 m2
theorem fillA (A0 A1 A2 : Option Addr) (n0 c0 n1 c1 n2 c2 : Nat) :
    Instr.fill (fun i => some (i * 1, 1)) ((Array.range (3 * 1)).map ((Value.slice none 0 0).cells[· % (Value.slice none 0 0).cells.size]!)) [(0, .slice A0 n0 c0), (1, .slice A1 n1 c1), (2, .slice A2 n2 c2)] =
      some #[.slice A0 n0 c0, .slice A1 n1 c1, .slice A2 n2 c2] := by kernel_rfl
set_option linter.unusedSimpArgs false in
set_option maxHeartbeats 16000000 in
theorem asked_c {va vb : Value} {k : Bool} {n : Nat} {S : El} (A : Option Addr) (l : List C) (cap : Nat) (w : World) (hP : PairK w va vb k n S) (hX : Lies w A l cap) (hl : l.length ≤ 300) :
    Calls Tryz.prog 6 #[va, vb, .slice A l.length cap] w (RetAsk w) := by
  obtain ⟨er, her⟩ : ∃ er, er = pkE k (solOk n S l) n l := ⟨_, rfl⟩
  obtain ⟨et, het⟩ : ∃ et, et = pkE k (traOk n S l) n l := ⟨_, rfl⟩
  obtain ⟨L, hL⟩ : ∃ L, L = pkL k (solOk n S l) n l (solL n S l) := ⟨_, rfl⟩
  obtain ⟨T, hT⟩ : ∃ T, T = pkL k (traOk n S l) n l (traL n S l) := ⟨_, rfl⟩
  have hk : k = true → n ≤ 64 := fun h => (hP.fin h).2.2.1
  have hL6 : L.length ≤ 64 := by
    rw [hL]
    cases k
    · exact Nat.zero_le _
    · exact pkL_len (hk rfl) (by simp [solL])
  have hT6 : T.length ≤ 64 := by
    rw [hT]
    cases k
    · exact Nat.zero_le _
    · exact pkL_len (hk rfl) (by simp [traL])
  have HL6 := Lib.hid (And.intro hL6 hT6)
  have HSo := Lib.hid (fun (B : Option Addr) (zt : List C) (cp : Nat) (V : World) (hV : Below w.heap.size w V) (h : zt.map cnC = l.map cnC) (h1 : ltCs zt) (h2 : Reads V V.heap.size B (nums zt)) =>
    (show Calls Tryz.prog 24 #[va, .slice B l.length cp] V (RetA L er V) from by
      have hzl : zt.length = l.length := by have := congrArg List.length h; simpa using this
      have hc := ((hP.below hV).solve B zt cp (by omega) h1 h2).mono fun e w' h => h.lst
      obtain ⟨e1, e2⟩ := pk_cn (k := k) (n := n) h (solOk n S) (solL n S)
      rw [e1, e2, hzl, ← her, ← hL] at hc
      exact hc))
  have HTr := Lib.hid (fun (B : Option Addr) (zt : List C) (cp : Nat) (V : World) (hV : Below w.heap.size w V) (h : zt.map cnC = l.map cnC) (h1 : ltCs zt) (h2 : Reads V V.heap.size B (nums zt)) =>
    (show Calls Tryz.prog 25 #[va, .slice B l.length cp] V (RetA T et V) from by
      have hzl : zt.length = l.length := by have := congrArg List.length h; simpa using this
      have hc := ((hP.below hV).trans B zt cp (by omega) h1 h2).mono fun e w' h => h.lst
      obtain ⟨e1, e2⟩ := pk_cn (k := k) (n := n) h (traOk n S) (traL n S)
      rw [e1, e2, hzl, ← het, ← hT] at hc
      exact hc))
  have HRS := Lib.hid (fun (V : World) (hV : Below w.heap.size w V) =>
    (show Calls Tryz.prog 26 #[vb, .slice A l.length cap] V (RetA L er V) from by
      have hc := ((hP.below hV).rsolve A l cap (by omega) hX.lt ((hX.reads.below hV).more hV.size)).mono fun e w' h => h.lst
      rw [← her, ← hL] at hc
      exact hc))
  have HRT := Lib.hid (fun (V : World) (hV : Below w.heap.size w V) =>
    (show Calls Tryz.prog 27 #[vb, .slice A l.length cap] V (RetA T et V) from by
      have hc := ((hP.below hV).rtrans A l cap (by omega) hX.lt ((hX.reads.below hV).more hV.size)).mono fun e w' h => h.lst
      rw [← het, ← hT] at hc
      exact hc))
  have HLe := Lib.hid (lg_of (Lent_c A l cap w (by omega) hX.lt hX.none hX.reads))
  have HX := Lib.hid hX
  have HL := Lib.hid hl
  clear hP hX hl her het hL hT hk hL6 hT6
  go_enter Tryz.func6, Tryz.ntmps6
  go_wp2_with fail
  refine HLe.out.mono ?_
  rintro e W1 ⟨g, zs, c, rfl, hz, hlz, hL, hb⟩
  have hzl := lent_len hz
  have hle : (l.length : Int) ≤ (c : Int) := by have := hL.fits; omega
  have K1 := Lib.hid (show LsK w W1 [] from ⟨hb, fun _ h => (List.not_mem_nil h).elim⟩)
  have F1 := Lib.hid hL
  have HG := Lib.hid (show w.heap.size ≤ g ∧ g < W1.heap.size from hL.blk g rfl)
  have HZ := Lib.hid hz
  have HZl := Lib.hid hzl
  have HZt := Lib.hid (show ltCs (zs.take l.length) from fun z hz => hlz z (List.mem_of_mem_take hz))
  have HTk := Lib.hid (fun (V : World) (hV : Lst V w.heap.size W1.heap.size (some ⟨g, 0, none⟩) zs c) => (Reads.of_own (own_take (n := l.length) hV.1 (by omega)) : Reads V V.heap.size (some ⟨g, 0, none⟩) (nums (zs.take l.length))))
  clear hz hlz hzl hb hL HLe
  go_wp2_with fail
  refine (HSo.out _ _ _ _ K1.out.bel (lent_take HZ.out) HZt.out (HTk.out _ F1.out)).mono ?_
  rintro e W2 ⟨A1, c1, rfl, hL1, hb⟩
  have K2 := Lib.hid ((K1.out.below hb).add hL1)
  have F2 := Lib.hid (F1.out.below hb)
  have S2 := Lib.hid hb.size
  clear hL1 hb K1 F1
  go_wp2_with fail
  refine (HTr.out _ _ _ _ K2.out.bel (lent_take HZ.out) HZt.out (HTk.out _ F2.out)).mono ?_
  rintro e W3 ⟨A2, c2, rfl, hL1, hb⟩
  have K3 := Lib.hid ((K2.out.below hb).add hL1)
  have F3 := Lib.hid (F2.out.below hb)
  have S3 := Lib.hid hb.size
  clear hL1 hb K2 F2
  go_wp2_with fail
  refine (HSo.out _ _ _ _ K3.out.bel (lent_take HZ.out) HZt.out (HTk.out _ F3.out)).mono ?_
  rintro e W4 ⟨A3, c3, rfl, hL1, hb⟩
  have K4 := Lib.hid ((K3.out.below hb).add hL1)
  have F4 := Lib.hid (F3.out.below hb)
  have S4 := Lib.hid hb.size
  clear hL1 hb K3 F3 HSo HTr
  go_wp2_with fail
  refine (HRS.out _ K4.out.bel).mono ?_
  rintro e W5 ⟨A4, c4, rfl, hL1, hb⟩
  have K5 := Lib.hid ((K4.out.below hb).add hL1)
  have F5 := Lib.hid (F4.out.below hb)
  have S5 := Lib.hid hb.size
  clear hL1 hb K4 F4
  go_wp2_with fail
  refine (HRT.out _ K5.out.bel).mono ?_
  rintro e W6 ⟨A5, c5, rfl, hL1, hb⟩
  have K6 := Lib.hid ((K5.out.below hb).add hL1)
  have F6 := Lib.hid (F5.out.below hb)
  have S6 := Lib.hid hb.size
  clear hL1 hb K5 F5 HRS HRT
  have HKp := Lib.hid (Kept_t A (some ⟨g, 0, none⟩) l zs cap c W6 (by have := HL.out; omega) HX.out.lt HX.out.none ((HX.out.reads.below K6.out.bel).more K6.out.bel.size) HZ.out F6.out.reads)
  go_wp2_with fail
  refine HKp.out.mono ?_
  rintro e W7 ⟨rfl, hb⟩
  have K7 := Lib.hid (K6.out.below hb)
  have F7 := Lib.hid (F6.out.below hb)
  have S7 := Lib.hid hb.size
  clear hb HKp K6 F6
  have HOv := Lib.hid (Over_big w.heap.size g c zs.length zs W7 rfl (by have h1 := HZl.out; have h2 := HL.out; omega) (F7.out.own (Nat.le_refl _)))
  go_wp2_with fail
  refine HOv.out.mono ?_
  rintro e W8 ⟨ys, rfl, -, -, hgr⟩
  have K8 := Lib.hid (K7.out.over hgr HG.out.1 (by
    have h0 := HG.out
    have h1 := S2.out
    have h2 := S3.out
    have h3 := S4.out
    have h4 := S5.out
    have h5 := S6.out
    intro t ht
    simp only [List.mem_cons, List.not_mem_nil, or_false] at ht
    rcases ht with rfl | rfl | rfl | rfl | rfl <;> (dsimp only; omega)))
  have S8 := Lib.hid hgr.size
  clear hgr HOv K7 F7 HTk HZ HZt
  have HS1 := Lib.hid (SameNumbers_t A1 A4 L L L.length c1 c4 W8 rfl rfl rfl (by have := HL6.out; omega) (K8.out.get 4 rfl).reads (K8.out.get 1 rfl).reads)
  go_wp2_with fail
  refine HS1.out.mono ?_
  rintro e W9 ⟨d, rfl, hw⟩
  have K9 := Lib.hid (K8.out.below (show Below _ _ W9 by rw [hw]; exact below_drewN (Below.refl _ _) d))
  have S9 := Lib.hid (show W8.heap.size ≤ W9.heap.size by rw [hw]; exact Nat.le_refl _)
  clear hw HS1 K8
  have HS1 := Lib.hid (SameNumbers_t A2 A5 T T T.length c2 c5 W9 rfl rfl rfl (by have := HL6.out; omega) (K9.out.get 3 rfl).reads (K9.out.get 0 rfl).reads)
  go_wp2_with fail
  refine HS1.out.mono ?_
  rintro e W10 ⟨d, rfl, hw⟩
  have K10 := Lib.hid (K9.out.below (show Below _ _ W10 by rw [hw]; exact below_drewN (Below.refl _ _) d))
  have S10 := Lib.hid (show W9.heap.size ≤ W10.heap.size by rw [hw]; exact Nat.le_refl _)
  clear hw HS1 K9
  have HS1 := Lib.hid (SameNumbers_t A3 A4 L L L.length c3 c4 W10 rfl rfl rfl (by have := HL6.out; omega) (K10.out.get 2 rfl).reads (K10.out.get 1 rfl).reads)
  go_wp2_with fail
  refine HS1.out.mono ?_
  rintro e W11 ⟨d, rfl, hw⟩
  have K11 := Lib.hid (K10.out.below (show Below _ _ W11 by rw [hw]; exact below_drewN (Below.refl _ _) d))
  have S11 := Lib.hid (show W10.heap.size ≤ W11.heap.size by rw [hw]; exact Nat.le_refl _)
  clear hw HS1 K10
  obtain ⟨iS, his, hs0, hs1, hs2⟩ := info_parts infoSl
  go_wp2_with (first
    | (with_reducible refine wpList_buildSlice rfl 29 27 3 _ rfl #[.slice A1 L.length c1, .slice A2 T.length c2, .slice A3 L.length c3] iS (.slice none 0 0) Tryz.underlying29 his hs0 (by rw [hs1]; decide) (by rw [hs1]; decide) (by rw [hs1]; simp [Act.eval]; first | exact fillA A1 A2 A3 L.length c1 T.length c2 L.length c3 | rfl) ?_)
    | (refine wp_buildSlice 29 27 3 _ rfl #[.slice A1 L.length c1, .slice A2 T.length c2, .slice A3 L.length c3] iS (.slice none 0 0) Tryz.underlying29 his hs0 (by rw [hs1]; decide) (by rw [hs1]; decide) (by rw [hs1]; simp [Act.eval]; first | exact fillA A1 A2 A3 L.length c1 T.length c2 L.length c3 | rfl) ?_))
  go_ret2
  have K12 := K11.out.below (below_new W11 (.cells #[.slice A1 L.length c1, .slice A2 T.length c2, .slice A3 L.length c3] 27))
  obtain ⟨hl6, ht6⟩ := HL6.out
  have h0 := HG.out
  have h1 := S2.out
  have h2 := S3.out
  have h3 := S4.out
  have h4 := S5.out
  have h5 := S6.out
  have h6 := S7.out
  have h7 := S8.out
  have h8 := S9.out
  have h9 := S10.out
  have h10 := S11.out
  refine ⟨W11.heap.size, A1, A2, A3, L, T, L, c1, c2, c3, W2.heap.size, W3.heap.size, rfl, ⟨K12.bel, (K12.get 4 rfl).weak (by omega), K12.get 3 rfl, ?_, by omega, by omega, by omega, heap_alloc_new W11 _, hl6, ht6, hl6⟩⟩
  exact ⟨(K12.get 2 rfl).1, fun b hb => by have := (K12.get 2 rfl).2 b hb; omega⟩
theorem lies9 {w W : World} {A : Option Addr} {l : List C} {cap : Nat} (h : Lies w A l cap) (hb : Below w.heap.size w W) : Lies W A l cap := ⟨(h.reads.below hb).more hb.size, h.none, h.fits, h.lt⟩
theorem ThreeL.at {w W V : World} {q : Nat} {A0 A1 A2 : Option Addr} {z0 z1 z2 : List C} {c0 c1 c2 m1 m2 : Nat} (h : ThreeL w W q A0 A1 A2 z0 z1 z2 c0 c1 c2 m1 m2) (hb : Below W.heap.size W V) : ThreeL w V q A0 A1 A2 z0 z1 z2 c0 c1 c2 m1 m2 :=
  { h with bel := h.bel.trans (hb.mono h.bel.size), l0 := h.l0.below hb, l1 := h.l1.below hb, l2 := h.l2.below hb, row := row_keep hb h.row }
/-- Rows that are kept while the world grows. -/
structure KR9 (W : World) (rows : List (Nat × Obj)) : Prop where
  row : ∀ t ∈ rows, W.heap[t.1]? = some t.2
namespace KR9
variable {W V : World} {rows : List (Nat × Obj)}
theorem below (h : KR9 W rows) (hb : Below W.heap.size W V) : KR9 V rows := ⟨fun t ht => row_keep hb (h.row t ht)⟩
theorem grown {g : Nat} (h : KR9 W rows) (hg : W.grownBy V (some g)) (hn : ∀ t ∈ rows, t.1 ≠ g) : KR9 V rows := ⟨fun t ht => by
  rw [hg.block t.1 (row_lt (h.row t ht)) (fun e => hn t ht (by injection e))]; exact h.row t ht⟩
theorem add {b : Nat} {o : Obj} (h : KR9 W rows) (ho : W.heap[b]? = some o) : KR9 W ((b, o) :: rows) := ⟨fun t ht => by
  rcases List.mem_cons.1 ht with rfl | ht
  · exact ho
  · exact h.row t ht⟩
theorem get {b : Nat} {o : Obj} (h : KR9 W rows) (i : Nat) (hi : rows[i]? = some (b, o)) : W.heap[b]? = some o := h.row (b, o) (List.mem_of_getElem? hi)
end KR9
theorem apt_of' {q : Nat} {Ss : List Value} {lo hi : Nat → Nat} (h : ∀ (k : Nat) (S : Value) (b : Nat), Ss[k]? = some S → S.ownBlock = some b → lo k ≤ b ∧ b < hi k) (hd : ∀ j k, j < k → k < Ss.length → hi j ≤ lo k) (hq : ∀ k, k < Ss.length → q < lo k ∨ hi k ≤ q) : Apt q Ss where
  apart j k S S' h1 h2 hjk := by
    cases hb : S.ownBlock with
    | none => exact .inl rfl
    | some b =>
      refine .inr fun e => ?_
      have a1 := h j S b h1 hb
      have a2 := h k S' b h2 e.symm
      have l1 := lt_of_some h1
      have l2 := lt_of_some h2
      rcases Nat.lt_or_gt_of_ne hjk with h3 | h3
      · have := hd j k h3 l2; omega
      · have := hd k j h3 l1; omega
  notq k S h1 e := by
    have a1 := h k S q h1 e
    rcases hq k (lt_of_some h1) with h2 | h2 <;> omega
theorem apt4 {q : Nat} {S0 S1 S2 S3 : Value} {a0 b0 a1 b1 a2 b2 a3 b3 : Nat} (h0 : ∀ b, S0.ownBlock = some b → a0 ≤ b ∧ b < b0) (h1 : ∀ b, S1.ownBlock = some b → a1 ≤ b ∧ b < b1) (h2 : ∀ b, S2.ownBlock = some b → a2 ≤ b ∧ b < b2) (h3 : ∀ b, S3.ownBlock = some b → a3 ≤ b ∧ b < b3)
    (e0 : b0 ≤ a1) (e1 : b1 ≤ a2) (e2 : b2 ≤ a3) (f1 : a1 ≤ b1) (f2 : a2 ≤ b2) (g2 : b2 ≤ q) (g3 : q < a3 ∨ b3 ≤ q) : Apt q [S0, S1, S2, S3] := by
  refine apt_of' (lo := fun i => match i with | 0 => a0 | 1 => a1 | 2 => a2 | _ => a3) (hi := fun i => match i with | 0 => b0 | 1 => b1 | 2 => b2 | _ => b3) (fun k S b hS hb => ?_) (fun j k hjk hk => ?_) (fun k hk => ?_)
  · match k, hS with
    | 0, hS => injection hS with hS; subst hS; exact h0 b hb
    | 1, hS => injection hS with hS; subst hS; exact h1 b hb
    | 2, hS => injection hS with hS; subst hS; exact h2 b hb
    | 3, hS => injection hS with hS; subst hS; exact h3 b hb
  · have hk : k < 4 := hk
    match j, k, hjk, hk with
    | 0, 1, _, _ => exact e0
    | 0, 2, _, _ => show b0 ≤ a2; omega
    | 0, 3, _, _ => show b0 ≤ a3; omega
    | 1, 2, _, _ => exact e1
    | 1, 3, _, _ => show b1 ≤ a3; omega
    | 2, 3, _, _ => exact e2
    | _ + 3, _, h1, h2 => omega
  · have hk : k < 4 := hk
    match k, hk with
    | 0, _ => show q < a0 ∨ b0 ≤ q; omega
    | 1, _ => show q < a1 ∨ b1 ≤ q; omega
    | 2, _ => show q < a2 ∨ b2 ≤ q; omega
    | 3, _ => exact g3
theorem fam4 {W : World} {B B' q cap : Nat} {S0 S1 S2 S3 : Value} {z0 z1 z2 z3 : List C} (h0 : W.ownsRow B 42 1 S0 z0.length (nums z0)) (h1 : W.ownsRow B 42 1 S1 z1.length (nums z1)) (h2 : W.ownsRow B 42 1 S2 z2.length (nums z2)) (h3 : W.ownsRow B 42 1 S3 z3.length (nums z3))
    (hq : W.ownsRow B' 27 1 (.slice (some ⟨q, 0, none⟩) 4 cap) 4 [S0, S1, S2, S3]) : Fam W B q [S0, S1, S2, S3] [z0, z1, z2, z3] where
  len := rfl
  own k S zs hS hz := by
    match k, hS, hz with
    | 0, hS, hz => injection hS with hS; injection hz with hz; subst hS hz; exact h0
    | 1, hS, hz => injection hS with hS; injection hz with hz; subst hS hz; exact h1
    | 2, hS, hz => injection hS with hS; injection hz with hz; subst hS hz; exact h2
    | 3, hS, hz => injection hS with hS; injection hz with hz; subst hS hz; exact h3
  list k S hS := (hq.cellAt k (by have := lt_of_some hS; simpa using this)).trans hS
theorem pmL_len {k : Bool} {n : Nat} {S : El} {r c : Int} {l : List C} (hn : k = true → n ≤ 64) : (pmL k n S r c l).length ≤ 4096 := by
  unfold pmL
  cases k
  · exact Nat.zero_le _
  · rw [if_pos rfl]
    unfold manL
    by_cases h : manE n S r c l = 0
    · rw [if_pos h]
      have hk : (okM r c l.length && (r == (n : Int))) = true := by
        cases hb : (okM r c l.length && (r == (n : Int))) with
        | true => rfl
        | false =>
          unfold manE at h
          rw [hb, if_neg Bool.false_ne_true] at h
          exact absurd h (by decide)
      rw [Bool.and_eq_true] at hk
      obtain ⟨-, -, h3, h4, -⟩ := okM_iff.1 hk.1
      have h5 : c.toNat ≤ 64 := by omega
      rw [List.length_map, List.length_range]
      exact prod_small (hn rfl) h5
    · rw [if_neg h]; exact Nat.zero_le _
set_option linter.unusedSimpArgs false in
set_option maxHeartbeats 16000000 in
theorem All10 (n : Int) (A : Option Addr) (l : List C) (cap : Nat) (B : Option Addr) (x : List C) (capx : Nat) (r : Int) (w : World) (hr : Reads w w.heap.size A (zcells l)) (hlt : ltCs l) (hrx : Reads w w.heap.size B (zcells x)) (hltx : ltCs x) :
    Calls Tryz.prog 3 #[.int .i64 n, .slice A l.length cap, .slice B x.length capx, .int .i64 r] w fun e w' => e = .returned (.bool true) ∧ Below w.heap.size w w' := by
  have HBo := Lib.hid (both_c n A l cap w hr hlt)
  have HRx := Lib.hid hrx
  have HLx := Lib.hid hltx
  clear hr hlt hrx hltx
  by_cases hx : x.length ≤ 300
  · have hxi : ¬ (300 : Int) < (x.length : Int) := by omega
    have HX := Lib.hid hx
    go_enter Tryz.func3, Tryz.ntmps3
    clear hx
    go_wp2_with fail
    refine HBo.out.mono ?_
    rintro e W1 ⟨va, vb, k, N, S, rfl, hP, hb⟩
    have HP := Lib.hid hP
    have HNu := Lib.hid (Numbers_c B x capx W1 (by have := HX.out; omega) ((HRx.out.below hb).more hb.size))
    have B1 := Lib.hid hb
    clear hP hb HBo HRx
    go_wp2_with fail
    refine HNu.out.mono ?_
    rintro e W2 ⟨s, rfl, hown, hb⟩
    obtain ⟨A2, c2, rfl, hrd, hle, hno⟩ := own_reads hown
    have HAs := Lib.hid (asked_c A2 x c2 W2 (HP.out.below hb) ⟨hrd, hno, hle, HLx.out⟩ HX.out)
    have HV := Lib.hid (show Lies W2 A2 x c2 from ⟨hrd, hno, hle, HLx.out⟩)
    have B2 := Lib.hid (B1.out.trans (hb.mono B1.out.size))
    have HW2 := Lib.hid B2.out.size
    have P2 := Lib.hid (HP.out.below hb)
    clear hown hrd hle hno hb HNu HP B1
    go_wp2_with fail
    refine HAs.out.mono ?_
    rintro e W3 ⟨q, A0, A1, A3, z0, z1, z2, c0, c1, c3, m1, m2, rfl, h3⟩
    have T3 := Lib.hid h3
    have B3 := Lib.hid (B2.out.trans (h3.bel.mono B2.out.size))
    have P3 := Lib.hid (P2.out.below h3.bel)
    have V3 := Lib.hid (lies9 HV.out h3.bel)
    clear h3 HAs HV B2 P2
    go_upto_region 11 with fail
    obtain ⟨W4, hW4⟩ : ∃ W4, W4 = W3.alloc (.cells #[.int .i64 r, .int .i64 0, .slice A2 x.length c2] 33) := ⟨_, rfl⟩
    obtain ⟨b3, hb3⟩ : ∃ b3, b3 = W3.heap.size := ⟨_, rfl⟩
    have hb4 : Below W3.heap.size W3 W4 := by rw [hW4]; exact below_new W3 _
    have hrow : W4.heap[b3]? = some (.cells #[.int .i64 r, .int .i64 0, .slice A2 x.length c2] 33) := by rw [hW4, hb3]; exact heap_alloc_new W3 _
    rw [← hW4, ← hb3]
    have HB4 := Lib.hid hb4
    have HRow := Lib.hid hrow
    have Hb3 := Lib.hid hb3
    obtain ⟨x0, x1, x2, fx⟩ := box3 hrow
    have f1 := fx 1
    clear hW4 hb4 hrow hb3 fx
    obtain ⟨ok, hok⟩ : ∃ ok, ok = decide (0 < r ∧ r ≤ 64) := ⟨_, rfl⟩
    have HOk := Lib.hid hok
    clear hok
    go_cut [60] (fun s wx => s = .bool ok ∧ wx = W4)
    case first =>
      by_cases h1 : 0 < r
      · by_cases h2 : r ≤ 64
        · have e : ok = true := by rw [HOk.out]; exact decide_eq_true ⟨h1, h2⟩
          subst e
          go_wp2
          go_meet
          case rel => exact ⟨rfl, rfl⟩
        · have e : ok = false := by rw [HOk.out]; exact decide_eq_false (fun h => h2 h.2)
          subst e
          go_wp2
          go_meet
          case rel => exact ⟨rfl, rfl⟩
      · have e : ok = false := by rw [HOk.out]; exact decide_eq_false (fun h => h1 h.1)
        subst e
        go_wp2
        go_meet
        case rel => exact ⟨rfl, rfl⟩
    case rest =>
    obtain ⟨rfl, rfl⟩ := hcut
    go_upto_if 60 with fail
    go_cut [] (fun wx => ∃ cc : Int, Hid (wx.heap[b3]? = some (.cells #[.int .i64 r, .int .i64 cc, .slice A2 x.length c2] 33)) ∧ Below W3.heap.size W3 wx)
    case first =>
      cases ok
      · go_wp2
        go_meet
        case rel => exact ⟨0, HRow, HB4.out⟩
      · have h1 : 0 < r ∧ r ≤ 64 := of_decide_eq_true HOk.out.symm
        obtain ⟨h1, h2⟩ := h1
        have h3 : ¬ r = 0 := by omega
        go_wp2
        go_meet
        case rel =>
          refine ⟨_, Lib.hid (heap_setCell_same _ b3 1 _ _ _ HRow.out), HB4.out.setCell (by rw [Hb3.out]; exact Nat.le_refl _) _⟩
    case rest =>
    obtain ⟨cc, HRow, hb4⟩ := hcut
    have HB5 := Lib.hid hb4
    rename World => W5
    clear hb4 HB4 x0 x1 x2 f1 HOk
    obtain ⟨x0, x1, x2, -⟩ := box3 HRow.out
    have T5 := Lib.hid (T3.out.at HB5.out)
    have P5 := Lib.hid (P3.out.below HB5.out)
    have V5 := Lib.hid (lies9 V3.out HB5.out)
    have BB := Lib.hid (B3.out.trans (HB5.out.mono B3.out.size))
    have HLq := Lib.hid (Lentq_c r cc A2 x c2 W5 (by have := HX.out; omega) V5.out)
    have HLb := Lib.hid (row_lt HRow.out)
    obtain ⟨er, her⟩ : ∃ er, er = pmE k N S r cc x := ⟨_, rfl⟩
    obtain ⟨Rr, hRr⟩ : ∃ Rr, Rr = pmR k N S r cc x r := ⟨_, rfl⟩
    obtain ⟨Rc, hRc⟩ : ∃ Rc, Rc = pmR k N S r cc x cc := ⟨_, rfl⟩
    obtain ⟨L, hL⟩ : ∃ L, L = pmL k N S r cc x := ⟨_, rfl⟩
    have HL4 := Lib.hid (show L.length ≤ 4096 by rw [hL]; exact pmL_len (fun h => (P5.out.fin h).2.2.1))
    have HMa := Lib.hid (fun (V : World) (hV : Below W5.heap.size W5 V) (B : Option Addr) (zt : List C) (cp : Nat) (h : zt.map cnC = x.map cnC) (h1 : ltCs zt) (h2 : Reads V V.heap.size B (nums zt)) =>
      (show Calls Tryz.prog 8 #[va, mval r cc (.slice B zt.length cp)] V (RetMy er Rr Rc L V) from by
        have hc := (P5.out.below hV).many r cc B zt cp h1 h2
        obtain ⟨e1, e2, e3⟩ := pm_cn (k := k) (n := N) (S := S) (r := r) (c := cc) (x := r) h
        obtain ⟨-, -, e4⟩ := pm_cn (k := k) (n := N) (S := S) (r := r) (c := cc) (x := cc) h
        rw [e1, e2, e3, e4, ← her, ← hRr, ← hRc, ← hL] at hc
        exact hc))
    have HMb := Lib.hid (fun (V : World) (hV : Below W5.heap.size W5 V) =>
      (show Calls Tryz.prog 9 #[vb, mval r cc (.slice A2 x.length c2)] V (RetMy er Rr Rc L V) from by
        have hc := (P5.out.below hV).rmany r cc A2 x c2 HLx.out (lies9 V5.out hV).reads
        rw [← her, ← hRr, ← hRc, ← hL] at hc
        exact hc))
    obtain ⟨dv, hdv⟩ : ∃ dv, dv = pdV k N S := ⟨_, rfl⟩
    obtain ⟨dk, hdk⟩ : ∃ dk, dk = pdK k N S := ⟨_, rfl⟩
    obtain ⟨de, hde⟩ : ∃ de, de = pdE k := ⟨_, rfl⟩
    have HDa := Lib.hid (fun (V : World) (hV : Below W5.heap.size W5 V) => (show Calls Tryz.prog 12 #[va] V (RetDt dv dk de V) from by rw [hdv, hdk, hde]; exact (P5.out.below hV).det))
    have HDb := Lib.hid (fun (V : World) (hV : Below W5.heap.size W5 V) => (show Calls Tryz.prog 13 #[vb] V (RetDt dv dk de V) from by rw [hdv, hdk, hde]; exact (P5.out.below hV).rdet))
    clear her hRr hRc hL hdv hdk hde P5
    clear T3 P3 V3 B3 HB5 Hb3
    -- all that follows, from W5 on
    go_wp2_with fail
    refine HLq.out.mono ?_
    rintro e W6 ⟨g, zt, zf, capf, rfl, hzt, hlt, hown, hzf, hlst, hb⟩
    have hbn := below_new W6 (.cells #[.int .i64 r, .int .i64 cc, .slice (some ⟨g, 0, none⟩) zt.length capf] 33)
    have K6 := Lib.hid ((show LsK W5 W6 [] from ⟨hb, fun _ h => (List.not_mem_nil h).elim⟩).below hbn)
    have R6 := Lib.hid (((KR9.mk (W := W6.alloc (.cells #[.int .i64 r, .int .i64 cc, .slice (some ⟨g, 0, none⟩) zt.length capf] 33)) (rows := []) (fun _ h => (List.not_mem_nil h).elim)).add (heap_alloc_new W6 _)))
    have F6 := Lib.hid (hlst.below hbn)
    have HG := Lib.hid (show W5.heap.size ≤ g ∧ g < W6.heap.size from hlst.blk g rfl)
    have HZt := Lib.hid (And.intro hzt hlt)
    have HZf := Lib.hid hzf
    have HTk := Lib.hid (fun (V : World) (hV : Below (W6.alloc (.cells #[.int .i64 r, .int .i64 cc, .slice (some ⟨g, 0, none⟩) zt.length capf] 33)).heap.size (W6.alloc (.cells #[.int .i64 r, .int .i64 cc, .slice (some ⟨g, 0, none⟩) zt.length capf] 33)) V) => (Reads.of_own (own_below (own_below hown hbn) hV) : Reads V V.heap.size (some ⟨g, 0, none⟩) (nums zt)))
    clear hzt hlt hown hzf hlst hb hbn HLq x0 x1 x2
    obtain ⟨y0, y1, y2, -⟩ := box3 (R6.out.get 0 rfl)
    go_wp2_with fail
    refine (HMa.out _ K6.out.bel _ _ _ HZt.out.1 HZt.out.2 (HTk.out _ (Below.refl _ _))).mono ?_
    rintro e W7 ⟨A7, c7, rfl, hL7, hb⟩
    have hbn := below_new W7 (.cells #[.int .i64 Rr, .int .i64 Rc, .slice A7 L.length c7] 33)
    have K7 := Lib.hid (((K6.out.below hb).add hL7).below hbn)
    have R7 := Lib.hid (((R6.out.below hb).below hbn).add (heap_alloc_new W7 _))
    have F7 := Lib.hid ((F6.out.below hb).below hbn)
    have S7 := Lib.hid (show W6.heap.size + 1 ≤ W7.heap.size from by have := hb.size; simpa using this)
    clear hL7 hb hbn K6 R6 F6 HTk HMa y0 y1 y2
    obtain ⟨y0, y1, y2, -⟩ := box3 (row_keep K7.out.bel HRow.out)
    go_wp2_with fail
    refine (HMb.out _ K7.out.bel).mono ?_
    rintro e W8 ⟨A8, c8, rfl, hL8, hb⟩
    have hbn := below_new W8 (.cells #[.int .i64 Rr, .int .i64 Rc, .slice A8 L.length c8] 33)
    have K8 := Lib.hid (((K7.out.below hb).add hL8).below hbn)
    have R8 := Lib.hid (((R7.out.below hb).below hbn).add (heap_alloc_new W8 _))
    have F8 := Lib.hid ((F7.out.below hb).below hbn)
    have S8 := Lib.hid (show W7.heap.size + 1 ≤ W8.heap.size from by have := hb.size; simpa using this)
    clear hL8 hb hbn K7 R7 F7 HMb y0 y1 y2
    have HKp := Lib.hid (Kept_t A2 (some ⟨g, 0, none⟩) x zf c2 capf _ (by have := HX.out; omega) HLx.out V5.out.none (lies9 V5.out K8.out.bel).reads HZf.out F8.out.reads)
    go_wp2_with fail
    refine HKp.out.mono ?_
    rintro e W9 ⟨rfl, hb⟩
    have K9 := Lib.hid (K8.out.below hb)
    have R9 := Lib.hid (R8.out.below hb)
    have F9 := Lib.hid (F8.out.below hb)
    have S9 := Lib.hid (show W8.heap.size + 1 ≤ W9.heap.size from by have := hb.size; simpa using this)
    clear hb HKp K8 R8 F8
    have HOv := Lib.hid (Over_big W5.heap.size g capf zf.length zf W9 rfl (by have h1 := lent_len HZf.out; have h2 := HX.out; omega) (F9.out.own (Nat.le_refl _)))
    go_wp2_with fail
    refine HOv.out.mono ?_
    rintro e W10 ⟨ys, rfl, -, -, hgr⟩
    have hz := And.intro HG.out (And.intro S7.out S8.out)
    obtain ⟨⟨u0, u1⟩, u2, u3⟩ := hz
    have K10 := Lib.hid (K9.out.over hgr u0 (by
      intro t ht
      simp only [List.mem_cons, List.not_mem_nil, or_false] at ht
      rcases ht with rfl | rfl <;> (simp; omega)))
    have R10 := Lib.hid (R9.out.grown hgr (by
      intro t ht
      simp only [List.mem_cons, List.not_mem_nil, or_false] at ht
      rcases ht with rfl | rfl | rfl <;> (show _ ≠ g) <;> omega))
    have S10 := Lib.hid (Nat.le_trans S9.out hgr.size)
    clear hgr HOv K9 R9 F9 HZf u0 u1 u2 u3
    go_wp2_with fail
    refine (HDa.out _ K10.out.bel).mono ?_
    rintro e W11 ⟨rfl, hb⟩
    have K11 := Lib.hid (K10.out.below hb)
    have R11 := Lib.hid (R10.out.below hb)
    have S11 := Lib.hid (Nat.le_trans S10.out hb.size)
    clear hb K10 R10 S10 HDa
    go_wp2_with fail
    refine (HDb.out _ K11.out.bel).mono ?_
    rintro e W12 ⟨rfl, hb⟩
    have K12 := Lib.hid (K11.out.below hb)
    have R12 := Lib.hid (R11.out.below hb)
    have S12 := Lib.hid (Nat.le_trans S11.out hb.size)
    clear hb K11 R11 S11 HDb
    obtain ⟨y0, y1, y2, -⟩ := box3 (R12.out.get 0 rfl)
    obtain ⟨v0, v1, v2, -⟩ := box3 (R12.out.get 1 rfl)
    have HSm := Lib.hid (SameMatrix_t Rr Rc A7 A8 L L L.length c7 c8 W12 rfl rfl rfl (by have := HL4.out; omega) (K12.out.get 1 rfl).reads (K12.out.get 0 rfl).reads)
    go_wp2_with fail
    refine HSm.out.mono ?_
    rintro e W13 ⟨rfl, hb⟩
    have K13 := Lib.hid (K12.out.below hb)
    have R13 := Lib.hid (R12.out.below hb)
    have S13 := Lib.hid (Nat.le_trans S12.out hb.size)
    clear hb K12 R12 S12 HSm y0 y1 y2 v0 v1 v2
    have HSn := Lib.hid (fun V => kSameNumber_t dv dv rfl V)
    go_wp2_with fail
    refine (HSn.out _).mono ?_
    rintro e w' ⟨rfl, rfl⟩
    obtain ⟨v0, v1, v2, -⟩ := box3 (R13.out.get 1 rfl)
    obtain ⟨iS, his, hs0, hs1, hs2⟩ := info_parts infoSl
    have hbn := below_new W13 (.cells #[.slice A7 L.length c7] 27)
    have K14 := Lib.hid (K13.out.below hbn)
    have T14 := Lib.hid (T5.out.at K14.out.bel)
    have HQ := Lib.hid (show w.heap.size ≤ q ∧ q < W5.heap.size from ⟨by have h1 := T5.out.o0; have h2 := T5.out.o1; have h3 := T5.out.o2; have h4 := HW2.out; omega, row_lt T5.out.row⟩)
    have HBs := Lib.hid (show w.heap.size ≤ (W13.alloc (.cells #[.slice A7 L.length c7] 27)).heap.size from Nat.le_trans BB.out.size K14.out.bel.size)
    have hq3 : (W13.alloc (.cells #[.slice A7 L.length c7] 27)).ownsRow w.heap.size 27 1 (.slice (some ⟨q, 0, none⟩) 3 3) 3 [.slice A0 z0.length c0, .slice A1 z1.length c1, .slice A3 z2.length c3] :=
      ⟨rfl, .inr ⟨q, 3, _, rfl, HQ.out.1, T14.out.row, Nat.le_refl _, by unfold maxLen; omega, rfl, rfl⟩⟩
    have HQ3 := Lib.hid hq3
    clear hbn hq3 K13 R13
    go_wp2_with (at_builtin; refine wpList_append_stays _ rfl (.tmp 129) (.tmp 132) 29 rfl w.heap.size 27 iS (.slice none 0 0) 24 Tryz.underlying29 his hs0 hs1 hs2 rfl _ _ _ rfl HQ3.out ⟨W13.heap.size, 0, none⟩ 1 1 [.slice A7 L.length c7] rfl rfl (cell_one_new _ _ _) (by intro u hu; simp at hu; subst hu; rfl) (by unfold maxLen; omega) (by omega) HBs.out ?_; intro v' W14 hown1 hgrow1 hat1; obtain ⟨q', cq, e', -, -⟩ := hown1.form (by omega); subst e'; have HO4 := Lib.hid hown1; have HG4 := Lib.hid hgrow1; have HA4 := Lib.hid hat1; clear hown1 hgrow1 hat1)
    have hV : W7.heap.size ≤ (W13.alloc (.cells #[.slice A7 L.length c7] 27)).heap.size := by
      have h1 := S8.out
      have h2 := S13.out
      simp
      omega
    have hQ5 : q < (W6.alloc (.cells #[.int .i64 r, .int .i64 cc, .slice (some ⟨g, 0, none⟩) zt.length capf] 33)).heap.size := by
      have h1 := HQ.out
      have h2 := HG.out
      simp
      omega
    have hg : World.grownBy (W13.alloc (.cells #[.slice A7 L.length c7] 27)) W14 (some q) := HG4.out
    have hlc := (K14.out.get 1 rfl).over hg (.inr hQ5)
    have t0 := T14.out.o0
    have t1 := T14.out.o1
    have t2 := T14.out.o2
    have t3 := HW2.out
    have hl0 := T14.out.l0.over hg (.inl (by omega))
    have hl1 := T14.out.l1.over hg (.inl t2)
    have hl2 := T14.out.l2.over hg (.inl (Nat.le_refl _))
    have hq4 : q' = q ∨ q' = (W13.alloc (.cells #[.slice A7 L.length c7] 27)).heap.size := by
      rcases HA4.out with h | ⟨h, -⟩
      · injection h with h; exact .inl h
      · injection h with h; exact .inr h
    have hqq : q ≤ q' := by
      have h1 := hV
      have h2 := K14.out.bel.size
      have h3 := HQ.out
      omega
    have hFam := fam4 (B := w.heap.size) (hl0.own t3) (hl1.own (by omega)) (hl2.own (by omega)) (hlc.own (by have := HQ.out; omega)) HO4.out
    have hApt := apt4 (q := q') hl0.blk hl1.blk hl2.blk hlc.blk (Nat.le_refl _) (Nat.le_refl _) (by omega) t1 t2 hqq (by omega)
    have hAp := AB.Apart_keep w.heap.size q' 4 cq _ _ _ W14 rfl (by omega) hApt hFam rfl (Nat.le_trans HBs.out hg.size) (by
      intro k hk
      have h2 := T14.out.le
      have h3 := HL4.out
      simp only [List.map_cons, List.map_nil, List.mem_cons, List.not_mem_nil, or_false] at hk
      omega)
    refine hAp.mono ?_
    rintro e W15 ⟨rfl, bk⟩
    have BE := Lib.hid (((BB.out.trans (K14.out.bel.mono BB.out.size)).grown hg HBs.out (fun j hj => by injection hj with hj; rw [← hj]; exact HQ.out.1)).trans bk.bel)
    clear hV hQ5 hg hlc t0 t1 t2 t3 hl0 hl1 hl2 hq4 hqq hFam hApt hAp bk
    go_wp2
    go_ret
    exact ⟨rfl, BE.out⟩
  · have hxi : (300 : Int) < (x.length : Int) := by omega
    clear HBo HRx HLx
    go_enter Tryz.func3, Tryz.ntmps3
    clear hx
    go_wp2
    go_ret
    exact ⟨rfl, Below.refl _ _⟩
end Go.Proofs.YtglmmidhkpomgaaGreat
