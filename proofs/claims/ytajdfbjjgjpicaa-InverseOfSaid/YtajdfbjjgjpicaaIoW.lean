/- Layer 12: any matrix's inverse, and how far errors are carried, as the document does (of; InverseOf, InverseShapes). -/
import Derived.Test.YtajdfbjjgjpicaaRI2
import Derived.Test.YtajdfbjjgjpicaaApB
import Derived.Test.YtajdfbjjgjpicaaOvB
import Derived.Great.BuildSlice
namespace Go.Proofs.Ytajdfbjjgjpicaa
open Go.RowKit Fl Ieee
set_option maxRecDepth 20000
attribute [local go_sem] run_store_float run_store_complex
/-- The answer hangs on the numbers up to NaN alone. -/
theorem of_cn12 {r c : Int} {l m : List C} (h : m.map cnC = l.map cnC) : ofF r c m = ofF r c l ∧ ((ofF r c l).1 = 0 → m = l) := by
  have hlen : m.length = l.length := by have := congrArg List.length h; simpa using this
  have hbad : ∀ k : List C, badAt k = (k.map cnC).findIdx fun z => !pFinite z := fun k => by
    unfold badAt
    rw [List.findIdx_map]
    congr 1
    funext z
    show (!pFinite z) = (!pFinite (cnC z))
    rw [show pFinite (cnC z) = pFinite z from pFin_cn z]
  have hb : badAt m = badAt l := by rw [hbad m, hbad l, h]
  have hself : ∀ k : List C, ¬ badAt k < k.length → k.map cnC = k := fun k hk =>
    (List.map_congr_left fun z hz => fin_cn (badAt_all hk z hz)).trans (List.map_id k)
  have heq : ¬ badAt l < l.length → m = l := fun hk => by
    rw [← hself m (by rw [hb, hlen]; exact hk), h, hself l hk]
  by_cases hk : badAt l < l.length
  · unfold ofF
    rw [hlen]
    refine ⟨by rw [hb, if_pos hk, if_pos hk], fun h0 => ?_⟩
    rw [if_pos hk] at h0
    split at h0
    · exact absurd h0 (by show ¬ ((5 : Int) = 0); decide)
    · exact absurd h0 (by show ¬ ((4 : Int) = 0); decide)
  · rw [heq hk]
    exact ⟨rfl, fun _ => rfl⟩
def resN (f : Int × Int) (n : Nat) : Nat := if f.1 = 0 then n else 0
def resL (f : Int × Int) (n : Nat) (E : Nat → Nat → C) : List C := if f.1 = 0 then entries n E (n * n) else []
theorem ofI_cn {r c : Int} {l m : List C} (h : m.map cnC = l.map cnC) : ofI r c m = ofI r c l ∧ carF r c m = carF r c l ∧ carV r c m = carV r c l ∧ resL (ofI r c l) r.toNat (invE r.toNat (ofS r m)) = resL (ofI r c l) r.toNat (invE r.toNat (ofS r l)) := by
  by_cases h0 : (ofF r c l).1 = 0
  · have e := (of_cn12 h).2 h0
    subst e
    exact ⟨rfl, rfl, rfl, rfl⟩
  · have e1 : ofI r c l = ofF r c l := by unfold ofI; rw [if_neg h0]
    have e2 : ofI r c m = ofF r c l := by unfold ofI; rw [(of_cn12 h).1, if_neg h0]
    refine ⟨by rw [e1, e2], ?_, ?_, ?_⟩
    · unfold carF; rw [e1, e2, if_neg h0, if_neg h0]
    · unfold carV; rw [e1, e2, if_neg h0, if_neg h0]
    · unfold resL; rw [e1, if_neg h0, if_neg h0]
theorem ofI_zero {r c : Int} {l : List C} (h : (ofI r c l).1 = 0) : ofI r c l = (0, 0) := (ofI_ok h).2.2
theorem RetI.uni {f : Int × Int} {n : Nat} {E : Nat → Nat → C} {w w' : World} {e : Ending} (h : RetI f n E w e w') (hf : f.1 = 0 → f = (0, 0)) :
    ∃ A k, e = .returned (.tuple #[mval (resN f n) (resN f n) (.slice A (resL f n E).length k), .agg #[.int .i64 f.1, .int .i64 f.2]]) ∧ Lst w' w.heap.size w'.heap.size A (resL f n E) k ∧ Below w.heap.size w w' := by
  obtain ⟨hb, h1, h2⟩ := h
  by_cases h0 : f.1 = 0
  · obtain ⟨s, rfl, ho⟩ := h1 h0
    have e1 : resL f n E = entries n E (n * n) := if_pos h0
    have e2 : resN f n = n := if_pos h0
    rw [e1, e2, hf h0]
    have hl : (entries n E (n * n)).length = n * n := by simp [entries]
    obtain ⟨A, m, k, rfl, rfl⟩ := slice_of_own ho
    refine ⟨A, k, by rw [hl], ⟨?_, ?_⟩, hb⟩
    · rw [hl]; exact ho
    · intro b hb'; rw [hl] at hb'; exact (ho.lt b hb').2
  · have e1 : resL f n E = [] := if_neg h0
    have e2 : resN f n = 0 := if_neg h0
    rw [e1, e2]
    exact ⟨none, 0, h2 h0, ⟨World.ownsRow_nil _ _ _ _, fun b hb => by cases hb⟩, hb⟩
/-- Rows that are kept while the world grows. -/
structure KR (W : World) (rows : List (Nat × Obj)) : Prop where
  row : ∀ t ∈ rows, W.heap[t.1]? = some t.2
namespace KR
variable {W V : World} {rows : List (Nat × Obj)}
theorem below (h : KR W rows) (hb : Below W.heap.size W V) : KR V rows := ⟨fun t ht => row_keep hb (h.row t ht)⟩
theorem grown {g : Nat} (h : KR W rows) (hg : W.grownBy V (some g)) (hn : ∀ t ∈ rows, t.1 ≠ g) : KR V rows := ⟨fun t ht => by
  rw [hg.block t.1 (row_lt (h.row t ht)) (fun e => hn t ht (by injection e))]; exact h.row t ht⟩
theorem add {b : Nat} {o : Obj} (h : KR W rows) (ho : W.heap[b]? = some o) : KR W ((b, o) :: rows) := ⟨fun t ht => by
  rcases List.mem_cons.1 ht with rfl | ht
  · exact ho
  · exact h.row t ht⟩
theorem get {b : Nat} {o : Obj} (h : KR W rows) (i : Nat) (hi : rows[i]? = some (b, o)) : W.heap[b]? = some o := h.row (b, o) (List.mem_of_getElem? hi)
end KR
/-- What stands from the list's being lent on. -/
structure VfW (w W : World) (g b3 : Nat) (r c : Int) (A : Option Addr) (l : List C) (cap : Nat) (zt zf : List C) (capf : Nat) : Prop where
  bel : Below w.heap.size w W
  x1 : W.heap[w.heap.size]? = some (.cells #[.int .i64 r, .int .i64 c, .slice A l.length cap] 28)
  x3 : W.heap[b3]? = some (.cells #[.int .i64 r, .int .i64 c, .slice (some ⟨g, 0, none⟩) zt.length capf] 28)
  rd : Reads W W.heap.size A (nums l)
  rt : Reads W W.heap.size (some ⟨g, 0, none⟩) (nums zt)
  own : W.ownsRow w.heap.size 53 1 (.slice (some ⟨g, 0, none⟩) zf.length capf) zf.length (nums zf)
theorem VfW.below {w W V : World} {g b3 : Nat} {r c : Int} {A : Option Addr} {l : List C} {cap : Nat} {zt zf : List C} {capf : Nat} (h : VfW w W g b3 r c A l cap zt zf capf) (hb : Below W.heap.size W V) : VfW w V g b3 r c A l cap zt zf capf :=
  ⟨h.bel.trans (hb.mono h.bel.size), row_keep hb h.x1, row_keep hb h.x3, (h.rd.below hb).more hb.size, (h.rt.below hb).more hb.size, own_below h.own hb⟩
theorem fill3 (A0 A1 A2 : Option Addr) (n0 c0 n1 c1 n2 c2 : Nat) :
    Instr.fill (fun i => some (i * 1, 1)) ((Array.range (3 * 1)).map ((Value.slice none 0 0).cells[· % (Value.slice none 0 0).cells.size]!)) [(0, .slice A0 n0 c0), (1, .slice A1 n1 c1), (2, .slice A2 n2 c2)] =
      some #[.slice A0 n0 c0, .slice A1 n1 c1, .slice A2 n2 c2] := by kernel_rfl
theorem fam3 {W : World} {B q : Nat} {S0 S1 S2 : Value} {z0 z1 z2 : List C} (h0 : W.ownsRow B 53 1 S0 z0.length (nums z0)) (h1 : W.ownsRow B 53 1 S1 z1.length (nums z1)) (h2 : W.ownsRow B 53 1 S2 z2.length (nums z2))
    (hq : W.heap[q]? = some (.cells #[S0, S1, S2] 25)) : Fam W B q [S0, S1, S2] [z0, z1, z2] where
  len := rfl
  own k S zs hS hz := by
    match k, hS, hz with
    | 0, hS, hz => injection hS with hS; injection hz with hz; subst hS hz; exact h0
    | 1, hS, hz => injection hS with hS; injection hz with hz; subst hS hz; exact h1
    | 2, hS, hz => injection hS with hS; injection hz with hz; subst hS hz; exact h2
  list k S hS := by
    rw [cell_of_row W q k _ _ _ hq]
    match k, hS with
    | 0, hS => exact hS
    | 1, hS => exact hS
    | 2, hS => exact hS
theorem apt3 {q : Nat} {S0 S1 S2 : Value} {a0 b0 a1 b1 a2 b2 : Nat} (h0 : ∀ b, S0.ownBlock = some b → a0 ≤ b ∧ b < b0) (h1 : ∀ b, S1.ownBlock = some b → a1 ≤ b ∧ b < b1) (h2 : ∀ b, S2.ownBlock = some b → a2 ≤ b ∧ b < b2)
    (e0 : b0 ≤ a1) (e1 : b1 ≤ a2) (e2 : b2 ≤ q) (f0 : a0 ≤ b0) (f1 : a1 ≤ b1) (f2 : a2 ≤ b2) : Apt q [S0, S1, S2] := by
  refine apt_of (lo := fun i => match i with | 0 => a0 | 1 => a1 | 2 => a2 | _ => q) (fun k S b hS hb => ?_) (fun i j hij => ?_) (fun k hk => ?_)
  · match k, hS with
    | 0, hS => injection hS with hS; subst hS; have := h0 b hb; show a0 ≤ b ∧ b < a1; omega
    | 1, hS => injection hS with hS; subst hS; have := h1 b hb; show a1 ≤ b ∧ b < a2; omega
    | 2, hS => injection hS with hS; subst hS; have := h2 b hb; show a2 ≤ b ∧ b < q; omega
  · match i, j with
    | 0, 0 => exact Nat.le_refl _
    | 0, 1 => show a0 ≤ a1; omega
    | 0, 2 => show a0 ≤ a2; omega
    | 0, _ + 3 => show a0 ≤ q; omega
    | 1, 0 => omega
    | 1, 1 => exact Nat.le_refl _
    | 1, 2 => show a1 ≤ a2; omega
    | 1, _ + 3 => show a1 ≤ q; omega
    | 2, 0 => omega
    | 2, 1 => omega
    | 2, 2 => exact Nat.le_refl _
    | 2, _ + 3 => show a2 ≤ q; omega
    | _ + 3, 0 => omega
    | _ + 3, 1 => omega
    | _ + 3, 2 => omega
    | _ + 3, _ + 3 => exact Nat.le_refl _
  · have hk : k < 3 := hk
    match k, hk with
    | 0, _ => show a1 ≤ q; omega
    | 1, _ => show a2 ≤ q; omega
    | 2, _ => exact Nat.le_refl _
set_option linter.unusedSimpArgs false in
set_option maxHeartbeats 16000000 in
theorem of12_c (r c : Int) (A : Option Addr) (l : List C) (cap : Nat) (w : World) (hX : Lies w A l cap) (hl : l.length ≤ 1000000) :
    Calls Try.prog 16 #[mval r c (.slice A l.length cap)] w fun e w' => e = .returned (.bool true) ∧ Below w.heap.size w w' := by
  obtain ⟨f1, f2, hf⟩ : ∃ f1 f2, ofI r c l = (f1, f2) := ⟨_, _, rfl⟩
  obtain ⟨g1, g2, hg⟩ : ∃ g1 g2, carF r c l = (g1, g2) := ⟨_, _, rfl⟩
  obtain ⟨cv, hcv⟩ : ∃ cv, cv = carV r c l := ⟨_, rfl⟩
  obtain ⟨L, hL⟩ : ∃ L, L = resL (ofI r c l) r.toNat (invE r.toNat (ofS r l)) := ⟨_, rfl⟩
  obtain ⟨R, hR⟩ : ∃ R, R = resN (ofI r c l) r.toNat := ⟨_, rfl⟩
  have hL4 : L.length ≤ 4096 := by
    rw [hL]
    unfold resL
    split
    · rename_i h0
      obtain ⟨n, rfl, -, hn, -⟩ := ofI_shape h0
      simp only [entries, List.length_map, List.length_range, Int.toNat_natCast]
      exact prod_small hn hn
    · exact Nat.zero_le _
  have HOI := Lib.hid (fun (B : Option Addr) (zt : List C) (cp : Nat) (V : World) (h : zt.map cnC = l.map cnC) (h1 : zt.length ≤ cp) (h2 : Reads V V.heap.size B (nums zt)) (h3 : ltCs zt) =>
    (show Calls Try.prog 18 #[mval r c (.slice B zt.length cp)] V fun e w' => ∃ A1 k1, e = .returned (.tuple #[mval R R (.slice A1 L.length k1), .agg #[.int .i64 f1, .int .i64 f2]]) ∧ Lst w' V.heap.size w'.heap.size A1 L k1 ∧ Below V.heap.size V w' from
      (Inv_c r c B zt cp V h1 h2 h3).mono fun e w' hr => by
        obtain ⟨e1, -, -, e4⟩ := ofI_cn (r := r) (c := c) h
        have h5 := RetI.uni hr (fun h0 => by rw [e1] at h0 ⊢; exact ofI_zero h0)
        rw [e1, e4, ← hL, ← hR, hf] at h5
        exact h5))
  have HRI := Lib.hid (fun (V : World) (h2 : Reads V V.heap.size A (nums l)) =>
    (show Calls Try.prog 42 #[mval r c (.slice A l.length cap)] V fun e w' => ∃ A1 k1, e = .returned (.tuple #[mval R R (.slice A1 L.length k1), .agg #[.int .i64 f1, .int .i64 f2]]) ∧ Lst w' V.heap.size w'.heap.size A1 L k1 ∧ Below V.heap.size V w' from
      (rInv_c r c A l cap V h2 hX.lt).mono fun e w' hr => by
        have h5 := RetI.uni hr ofI_zero
        rw [← hL, ← hR, hf] at h5
        exact h5))
  have HOC := Lib.hid (fun (B : Option Addr) (zt : List C) (cp : Nat) (V : World) (h : zt.map cnC = l.map cnC) (h1 : zt.length ≤ cp) (h2 : Reads V V.heap.size B (nums zt)) (h3 : ltCs zt) =>
    (show Calls Try.prog 20 #[mval r c (.slice B zt.length cp)] V fun e w' => e = .returned (.tuple #[.float .f64 cv, .agg #[.int .i64 g1, .int .i64 g2]]) ∧ Below V.heap.size V w' from
      (Car_c r c B zt cp V h1 h2 h3).mono fun e w' hr => by
        obtain ⟨-, e2, e3, -⟩ := ofI_cn (r := r) (c := c) h
        obtain ⟨h5, h6⟩ := hr
        rw [e2, e3, hg, ← hcv] at h5
        exact ⟨h5, h6⟩))
  have HRC := Lib.hid (fun (V : World) (h2 : Reads V V.heap.size A (nums l)) =>
    (show Calls Try.prog 43 #[mval r c (.slice A l.length cap)] V fun e w' => e = .returned (.tuple #[.float .f64 cv, .agg #[.int .i64 g1, .int .i64 g2]]) ∧ Below V.heap.size V w' from
      (rCar_c r c A l cap V h2 hX.lt).mono fun e w' hr => by
        obtain ⟨h5, h6⟩ := hr
        rw [hg, ← hcv] at h5
        exact ⟨h5, h6⟩))
  have hb0 := below_new w (.cells #[.int .i64 r, .int .i64 c, .slice A l.length cap] 28)
  have HLq := Lib.hid (Lentq_c r c A l cap _ hl ⟨(hX.reads.below hb0).more hb0.size, hX.none, hX.fits, hX.lt⟩)
  have HB0 := Lib.hid hb0
  have HX := Lib.hid hX
  have HLe := Lib.hid hl
  have HL4 := Lib.hid hL4
  have HRow := Lib.hid (heap_alloc_new w (.cells #[.int .i64 r, .int .i64 c, .slice A l.length cap] 28))
  clear hf hg hcv hL hR hb0 hX hl hL4
  go_enter Try.func16, Try.ntmps16
  go_wp2_with fail
  refine HLq.out.mono ?_
  rintro e W1 ⟨g, zt, zf, capf, rfl, hzt, hlt, hown, hzf, hlst, hb⟩
  have hbn := below_new W1 (.cells #[.int .i64 r, .int .i64 c, .slice (some ⟨g, 0, none⟩) zt.length capf] 28)
  have hs0 := HB0.out.size
  have K1 := Lib.hid (show VfW w (W1.alloc (.cells #[.int .i64 r, .int .i64 c, .slice (some ⟨g, 0, none⟩) zt.length capf] 28)) g W1.heap.size r c A l cap zt zf capf from
    { bel := (HB0.out.trans (hb.mono hs0)).trans (hbn.mono (Nat.le_trans hs0 hb.size))
      x1 := row_keep hbn (row_keep hb HRow.out)
      x3 := heap_alloc_new W1 _
      rd := by
        have h1 := (HB0.out.trans (hb.mono hs0)).trans (hbn.mono (Nat.le_trans hs0 hb.size))
        exact (HX.out.reads.below h1).more h1.size
      rt := Reads.of_own (own_below hown hbn)
      own := own_below (hlst.own (B := w.heap.size) hs0) hbn })
  have HGl := Lib.hid (show w.heap.size ≤ g ∧ g < W1.heap.size from ⟨Nat.le_trans hs0 (hown.lt g rfl).1, (hown.lt g rfl).2⟩)
  have HZt := Lib.hid hzt
  have HZf := Lib.hid hzf
  have HZl := Lib.hid hlt
  have HZc := Lib.hid (own_slice hown).2.1
  obtain ⟨x0, x1, x2, -⟩ := box3 K1.out.x3
  clear hzt hlt hown hzf hlst hb hbn hs0 HLq HB0 HRow
  go_wp2_with fail
  refine (HOI.out _ _ _ _ HZt.out HZc.out K1.out.rt HZl.out).mono ?_
  rintro e W2 ⟨A1, k1, rfl, hL1, hb⟩
  have hbn := (below_new W2 (.cells #[.int .i64 (R : Nat), .int .i64 (R : Nat), .slice A1 L.length k1] 28)).new (Nat.le_refl _) (.cells #[.int .i64 f1, .int .i64 f2] 43)
  have K2 := Lib.hid ((K1.out.below hb).below hbn)
  have HL1 := Lib.hid (hL1.below hbn)
  have HR2 := Lib.hid (((KR.mk (W := (W2.alloc (.cells #[.int .i64 (R : Nat), .int .i64 (R : Nat), .slice A1 L.length k1] 28)).alloc (.cells #[.int .i64 f1, .int .i64 f2] 43)) (rows := []) (fun _ h => (List.not_mem_nil h).elim)).add (row_alloc (heap_alloc_new W2 _))).add (row_new2 W2 _ _))
  have HS2 := Lib.hid (show W1.heap.size + 1 ≤ W2.heap.size from by have := hb.size; simpa using this)
  clear hL1 hb hbn K1 x0 x1 x2
  obtain ⟨x0, x1, x2, -⟩ := box3 K2.out.x3
  go_wp2_with fail
  refine (HOI.out _ _ _ _ HZt.out HZc.out K2.out.rt HZl.out).mono ?_
  rintro e W3 ⟨A2, k2, rfl, hL2, hb⟩
  have hbn := (below_new W3 (.cells #[.int .i64 (R : Nat), .int .i64 (R : Nat), .slice A2 L.length k2] 28)).new (Nat.le_refl _) (.cells #[.int .i64 f1, .int .i64 f2] 43)
  have K3 := Lib.hid ((K2.out.below hb).below hbn)
  have HL1b := Lib.hid ((HL1.out.below hb).below hbn)
  have HL2 := Lib.hid (hL2.below hbn)
  have HR3 := Lib.hid ((((HR2.out.below hb).below hbn).add (row_alloc (heap_alloc_new W3 _))).add (row_new2 W3 _ _))
  have HS3 := Lib.hid (show W2.heap.size + 2 ≤ W3.heap.size from by have := hb.size; simpa using this)
  clear hL2 hb hbn K2 HL1 HR2 x0 x1 x2
  obtain ⟨x0, x1, x2, -⟩ := box3 K3.out.x3
  go_wp2_with fail
  refine (HOC.out _ _ _ _ HZt.out HZc.out K3.out.rt HZl.out).mono ?_
  rintro e W4 ⟨rfl, hb⟩
  have hbn := below_new W4 (.cells #[.int .i64 g1, .int .i64 g2] 43)
  have K4 := Lib.hid ((K3.out.below hb).below hbn)
  have HL1c := Lib.hid ((HL1b.out.below hb).below hbn)
  have HL2b := Lib.hid ((HL2.out.below hb).below hbn)
  have HR4 := Lib.hid (((HR3.out.below hb).below hbn).add (heap_alloc_new W4 _))
  have HS4 := Lib.hid (show W3.heap.size + 2 ≤ W4.heap.size from by have := hb.size; simpa using this)
  clear hb hbn K3 HL1b HL2 HR3 x0 x1 x2
  obtain ⟨x0, x1, x2, -⟩ := box3 K4.out.x1
  go_wp2_with fail
  refine (HRI.out _ K4.out.rd).mono ?_
  rintro e W5 ⟨A3, k3, rfl, hL3, hb⟩
  have hbn := (below_new W5 (.cells #[.int .i64 (R : Nat), .int .i64 (R : Nat), .slice A3 L.length k3] 28)).new (Nat.le_refl _) (.cells #[.int .i64 f1, .int .i64 f2] 43)
  have K5 := Lib.hid ((K4.out.below hb).below hbn)
  have HL1d := Lib.hid ((HL1c.out.below hb).below hbn)
  have HL2c := Lib.hid ((HL2b.out.below hb).below hbn)
  have HL3 := Lib.hid (hL3.below hbn)
  have HR5 := Lib.hid ((((HR4.out.below hb).below hbn).add (row_alloc (heap_alloc_new W5 _))).add (row_new2 W5 _ _))
  have HS5 := Lib.hid (show W4.heap.size + 1 ≤ W5.heap.size from by have := hb.size; simpa using this)
  clear hL3 hb hbn K4 HL1c HL2b HR4 x0 x1 x2
  obtain ⟨x0, x1, x2, -⟩ := box3 K5.out.x1
  go_wp2_with fail
  refine (HRC.out _ K5.out.rd).mono ?_
  rintro e W6 ⟨rfl, hb⟩
  have hbn := below_new W6 (.cells #[.int .i64 g1, .int .i64 g2] 43)
  have K6 := Lib.hid ((K5.out.below hb).below hbn)
  have HL1e := Lib.hid ((HL1d.out.below hb).below hbn)
  have HL2d := Lib.hid ((HL2c.out.below hb).below hbn)
  have HL3b := Lib.hid ((HL3.out.below hb).below hbn)
  have HR6 := Lib.hid (((HR5.out.below hb).below hbn).add (heap_alloc_new W6 _))
  have HS6 := Lib.hid (show W5.heap.size + 2 ≤ W6.heap.size from by have := hb.size; simpa using this)
  clear hb hbn K5 HL1d HL2c HL3 HR5 x0 x1 x2 HOI HRI HOC HRC
  obtain ⟨x0, x1, x2, -⟩ := box3 K6.out.x1
  obtain ⟨p0, p1, -⟩ := row2 (HR6.out.get 0 rfl)
  obtain ⟨q0, q1, -⟩ := row2 (HR6.out.get 1 rfl)
  obtain ⟨r0, r1, -⟩ := row2 (HR6.out.get 3 rfl)
  obtain ⟨s0, s1, -⟩ := row2 (HR6.out.get 4 rfl)
  obtain ⟨t0, t1, -⟩ := row2 (HR6.out.get 6 rfl)
  have HSr := Lib.hid (fun V => kSameReal_self7 cv V)
  go_wp2_with fail
  refine (HSr.out _).mono ?_
  rintro e w' ⟨rfl, rfl⟩
  have HKp := Lib.hid (Kept_t A (some ⟨g, 0, none⟩) l zf cap capf _ HLe.out HX.out.lt HX.out.none K6.out.rd HZf.out (Reads.of_own K6.out.own))
  go_wp2_with fail
  refine HKp.out.mono ?_
  rintro e W7 ⟨rfl, hb⟩
  have K7 := Lib.hid (K6.out.below hb)
  have HL1f := Lib.hid (HL1e.out.below hb)
  have HL2e := Lib.hid (HL2d.out.below hb)
  have HL3c := Lib.hid (HL3b.out.below hb)
  have HR7 := Lib.hid (HR6.out.below hb)
  have hS7 := Lib.hid hb.size
  clear hb HKp K6 HL1e HL2d HL3b HR6 x0 x1 x2 p0 p1 q0 q1 r0 r1 s0 s1 t0 t1 HSr
  have HOv := Lib.hid (Over_big w.heap.size g capf zf.length zf W7 rfl (by have h1 := lent_len HZf.out; have h2 := HLe.out; omega) K7.out.own)
  go_wp2_with fail
  refine HOv.out.mono ?_
  rintro e W8 ⟨ys, rfl, hyl, hyo, hgr⟩
  have hz := And.intro HGl.out (And.intro HS2.out (And.intro HS3.out (And.intro HS4.out (And.intro HS5.out HS6.out))))
  obtain ⟨⟨u0, u1⟩, u2, u3, u4, u5, u6⟩ := hz
  have T1 := Lib.hid (HL1f.out.over hgr (.inr (by simp; omega)))
  have T2 := Lib.hid (HL2e.out.over hgr (.inr (by simp; omega)))
  have T3 := Lib.hid (HL3c.out.over hgr (.inr (by simp; omega)))
  have R8 := Lib.hid (HR7.out.grown hgr (by
    intro t ht
    simp only [List.mem_cons, List.not_mem_nil, or_false] at ht
    rcases ht with rfl | rfl | rfl | rfl | rfl | rfl | rfl | rfl <;> (show _ ≠ g) <;> omega))
  have B8 := Lib.hid (K7.out.bel.grown hgr K7.out.bel.size (fun j hj => by injection hj with hj; rw [← hj]; exact u0))
  have HY := Lib.hid (And.intro hyl hyo)
  have S8 := Lib.hid (show W6.heap.size ≤ W8.heap.size from Nat.le_trans (Nat.le_trans (by simp) (Nat.le_refl _)) (Nat.le_trans hS7.out hgr.size))
  clear hyl hyo hgr u0 u1 u2 u3 u4 u5 u6 K7 HL1f HL2e HL3c HR7 HOv hS7
  obtain ⟨x0, x1, x2, -⟩ := box3 (R8.out.get 7 rfl)
  obtain ⟨y0, y1, y2, -⟩ := box3 (R8.out.get 2 rfl)
  have HSm := Lib.hid (SameMatrix_t (R : Nat) (R : Nat) A1 A3 L L L.length k1 k3 W8 rfl rfl rfl (by have := HL4.out; omega) T1.out.reads T3.out.reads)
  go_wp2_with fail
  refine HSm.out.mono ?_
  rintro e W9 ⟨rfl, hb⟩
  have U1 := Lib.hid (T1.out.below hb)
  have U2 := Lib.hid (T2.out.below hb)
  have U3 := Lib.hid (T3.out.below hb)
  have R9 := Lib.hid (R8.out.below hb)
  have B9 := Lib.hid (B8.out.trans (hb.mono B8.out.size))
  have HY9 := Lib.hid (And.intro HY.out.1 (own_below HY.out.2 hb))
  have S9 := Lib.hid (Nat.le_trans S8.out hb.size)
  clear hb HSm T1 T2 T3 R8 B8 HY S8 x0 x1 x2 y0 y1 y2
  obtain ⟨x0, x1, x2, -⟩ := box3 (R9.out.get 5 rfl)
  obtain ⟨y0, y1, y2, -⟩ := box3 (R9.out.get 2 rfl)
  have HSm := Lib.hid (SameMatrix_t (R : Nat) (R : Nat) A2 A3 L L L.length k2 k3 W9 rfl rfl rfl (by have := HL4.out; omega) U2.out.reads U3.out.reads)
  go_wp2_with fail
  refine HSm.out.mono ?_
  rintro e V rfl_hb
  obtain ⟨rfl, hb⟩ := rfl_hb
  have T1 := Lib.hid (U1.out.below hb)
  have T2 := Lib.hid (U2.out.below hb)
  have RV := Lib.hid (R9.out.below hb)
  have BV := Lib.hid (B9.out.trans (hb.mono B9.out.size))
  have HYV := Lib.hid (And.intro HY9.out.1 (own_below HY9.out.2 hb))
  have SV := Lib.hid (Nat.le_trans S9.out hb.size)
  clear hb HSm U1 U2 U3 R9 B9 HY9 S9 x0 x1 x2 y0 y1 y2
  obtain ⟨-, -, x2, -⟩ := box3 (RV.out.get 7 rfl)
  obtain ⟨-, -, y2, -⟩ := box3 (RV.out.get 5 rfl)
  have hz := And.intro HGl.out (And.intro HS2.out (And.intro HS3.out (And.intro HS4.out (And.intro HS5.out (And.intro HS6.out SV.out)))))
  obtain ⟨⟨u0, u1⟩, u2, u3, u4, u5, u6, u7⟩ := hz
  obtain ⟨hyl, hyo⟩ := HYV.out
  have hFam := fam3 (q := V.heap.size) (z0 := ys) ((show V.ownsRow w.heap.size 53 1 (.slice (some ⟨g, 0, none⟩) zf.length capf) ys.length (nums ys) by rw [hyl]; exact hyo).alloc _) ((T1.out.own (B := w.heap.size) (by simp; omega)).alloc _) ((T2.out.own (B := w.heap.size) (by simp; omega)).alloc _) (heap_alloc_new V _)
  have hApt := apt3 (q := V.heap.size) (S0 := .slice (some ⟨g, 0, none⟩) zf.length capf) (a0 := w.heap.size) (b0 := W1.heap.size) (fun b hb => by injection hb with hb; rw [← hb]; exact ⟨u0, u1⟩) T1.out.blk T2.out.blk (by simp) (by simp; omega) (by omega) (by omega) (by simp; omega) (by simp; omega)
  have hAp := AB.Apart_keep w.heap.size V.heap.size 3 3 _ _ _ _ rfl (by omega) hApt hFam rfl (Nat.le_trans BV.out.size (below_new V _).size) (by
    intro k hk
    have h1 := lent_len HZf.out
    have h2 := HLe.out
    have h3 := HL4.out
    simp only [List.map_cons, List.map_nil, List.mem_cons, List.not_mem_nil, or_false] at hk
    omega)
  have HAp := Lib.hid hAp
  clear hFam hApt hAp hyl hyo u0 u1 u2 u3 u4 u5 u6 u7
  obtain ⟨iS, his, hs0, hs1, hs2⟩ := info_parts infoSl
  go_wp2_with (first
    | (with_reducible refine wpList_buildSlice rfl 74 25 3 _ rfl #[.slice (some ⟨g, 0, none⟩) zf.length capf, .slice A1 L.length k1, .slice A2 L.length k2] iS (.slice none 0 0) Try.underlying74 his hs0 (by rw [hs1]; decide) (by rw [hs1]; decide) (by rw [hs1]; simp [Act.eval]; first | exact fill3 (some ⟨g, 0, none⟩) A1 A2 zf.length capf L.length k1 L.length k2 | rfl) ?_)
    | (refine wp_buildSlice 74 25 3 _ rfl #[.slice (some ⟨g, 0, none⟩) zf.length capf, .slice A1 L.length k1, .slice A2 L.length k2] iS (.slice none 0 0) Try.underlying74 his hs0 (by rw [hs1]; decide) (by rw [hs1]; decide) (by rw [hs1]; simp [Act.eval]; first | exact fill3 (some ⟨g, 0, none⟩) A1 A2 zf.length capf L.length k1 L.length k2 | rfl) ?_))
  refine HAp.out.mono ?_
  rintro e W11 ⟨rfl, bk⟩
  have BE := Lib.hid ((BV.out.trans ((below_new V _).mono BV.out.size)).trans bk.bel)
  clear bk HAp
  go_wp2
  go_ret
  exact ⟨rfl, BE.out⟩
theorem InvOf12 (n : Int) (A : Option Addr) (l : List C) (cap : Nat) (w : World) (hr : Reads w w.heap.size A (zcells l)) (hlt : ltCs l) :
    Calls Try.prog 4 #[.int .i64 n, .slice A l.length cap] w fun e w' => e = .returned (.bool true) ∧ Below w.heap.size w w' := by
  have HSq := Lib.hid (Square_c n A l cap w hr)
  obtain ⟨N, hN⟩ : ∃ N, N = sqN n := ⟨_, rfl⟩
  have hN64 : N ≤ 64 := by rw [hN]; exact sqN_le n
  obtain ⟨L, hL⟩ : ∃ L, L = sqL l (N * N) := ⟨_, rfl⟩
  have hLl : L.length = N * N := by rw [hL]; exact sqL_len _ _
  have hLt : ltCs L := by rw [hL]; exact sqL_lt hlt _
  rw [← hN, ← hL] at HSq
  have hl4 : L.length ≤ 4096 := by rw [hLl]; exact prod_small hN64 hN64
  have HL4 := Lib.hid hl4
  have HLt := Lib.hid hLt
  clear hr hlt hN hN64 hL hLl hLt hl4
  go_enter Try.func4, Try.ntmps4
  go_wp2_with fail
  refine HSq.out.mono ?_
  rintro e W1 hr
  obtain ⟨A1, c1, rfl, hrd, hle, hno, -, hb⟩ := hr.lies
  have HOf := Lib.hid (of12_c N N A1 L c1 W1 ⟨hrd, hno, hle, HLt.out⟩ (by have := HL4.out; omega))
  have HB := Lib.hid hb
  clear hr hrd hle hno hb HSq
  go_wp2_with fail
  refine HOf.out.mono ?_
  rintro e W2 ⟨rfl, hb⟩
  have HB2 := Lib.hid (HB.out.trans (hb.mono HB.out.size))
  clear hb HOf
  go_wp2
  go_ret
  exact ⟨rfl, HB2.out⟩
theorem InvShapes12 (r c : Int) (A : Option Addr) (l : List C) (cap : Nat) (w : World) (hr : Reads w w.heap.size A (zcells l)) (hlt : ltCs l) (hl : l.length ≤ 1000000) :
    Calls Try.prog 5 #[.int .i64 r, .int .i64 c, .slice A l.length cap] w fun e w' => e = .returned (.bool true) ∧ Below w.heap.size w w' := by
  have HNu := Lib.hid (Numbers_c A l cap w hl hr)
  have HLt := Lib.hid hlt
  have HL := Lib.hid hl
  clear hr hlt hl
  go_enter Try.func5, Try.ntmps5
  go_wp2_with fail
  refine HNu.out.mono ?_
  rintro e W1 ⟨s, rfl, hown, hb⟩
  obtain ⟨A1, c1, rfl, hrd, hle, hno⟩ := own_reads hown
  have HOf := Lib.hid (of12_c r c A1 l c1 W1 ⟨hrd, hno, hle, HLt.out⟩ HL.out)
  have HB := Lib.hid hb
  clear hown hrd hle hno hb HNu
  go_wp2_with fail
  refine HOf.out.mono ?_
  rintro e W2 ⟨rfl, hb⟩
  have HB2 := Lib.hid (HB.out.trans (hb.mono HB.out.size))
  clear hb HOf
  go_wp2
  go_ret
  exact ⟨rfl, HB2.out⟩
end Go.Proofs.Ytajdfbjjgjpicaa
