/- Layer 9: what an elimination tells beside the document's (told). Printed by gen_told.py. -/
import Derived.Test.YtibjkmjccelcaaaRC3
import Derived.Test.YtibjkmjccelcaaaApK
import Derived.Test.YtibjkmjccelcaaaApI
import Derived.Great.BuildSlice
namespace Go.Proofs.Ytibjkmjccelcaaa
open Go.RowKit Fl Ieee
set_option maxRecDepth 20000
attribute [local go_sem] run_store_float run_store_complex
/-- A list that reads so, up to NaN. -/
structure RD (W : World) (A : Option Addr) (M : Nat) (E zs : List C) : Prop where
  rd : Reads W W.heap.size A (nums zs)
  len : zs.length = M
  cn : zs.map cnC = E
theorem RD.below {W V : World} {A : Option Addr} {M : Nat} {E zs : List C} (h : RD W A M E zs) (hb : Below W.heap.size W V) : RD V A M E zs := ⟨(h.rd.below hb).more hb.size, h.len, h.cn⟩
/-- A list of one's own that was told: between two bounds of the heap. -/
structure TL (W : World) (lo hi : Nat) (A : Option Addr) (M c : Nat) (E zs : List C) : Prop where
  own : W.ownsRow lo 51 1 (.slice A M c) M (nums zs)
  hi : ∀ b, (Value.slice A M c).ownBlock = some b → b < hi
  len : zs.length = M
  cn : zs.map cnC = E
namespace TL
variable {W V : World} {lo hi M c : Nat} {A : Option Addr} {E zs : List C}
theorem below (h : TL W lo hi A M c E zs) (hb : Below W.heap.size W V) : TL V lo hi A M c E zs := ⟨own_below h.own hb, h.hi, h.len, h.cn⟩
theorem reads (h : TL W lo hi A M c E zs) : RD W A M E zs := ⟨Reads.of_own h.own, h.len, h.cn⟩
theorem blk (h : TL W lo hi A M c E zs) : ∀ b, (Value.slice A M c).ownBlock = some b → lo ≤ b ∧ b < hi := fun b hb => ⟨(h.own.lt b hb).1, h.hi b hb⟩
theorem ownB (h : TL W lo hi A M c E zs) {B : Nat} (hB : B ≤ lo) : W.ownsRow B 51 1 (.slice A M c) zs.length (nums zs) := by rw [h.len]; exact own_base h.own hB
end TL
theorem RetMx.tl {w w' : World} {r c M : Nat} {l : List C} {e : Ending} (h : RetMx r c l w e w') (hM : l.length = M) : ∃ A zs cap, e = .returned (mval r c (.slice A M cap)) ∧ TL w' w.heap.size w'.heap.size A M cap l zs ∧ Below w.heap.size w w' := by
  obtain ⟨s, zs, rfl, hz, -, hown, hb⟩ := h
  rw [hM] at hown
  obtain ⟨A, m, cap, rfl, rfl⟩ := slice_of_own hown
  exact ⟨A, zs, cap, rfl, ⟨hown, fun b hb => (hown.lt b hb).2, by rw [← hM, ← hz, List.length_map], hz⟩, hb⟩
theorem RetL.tl {w w' : World} {M : Nat} {l : List C} {e : Ending} (h : RetL l w e w') (hM : l.length = M) : ∃ A cap, e = .returned (.slice A M cap) ∧ TL w' w.heap.size w'.heap.size A M cap (l.map cnC) l ∧ Below w.heap.size w w' := by
  obtain ⟨s, rfl, hown, hb⟩ := h
  rw [hM] at hown
  obtain ⟨A, m, cap, rfl, rfl⟩ := slice_of_own hown
  exact ⟨A, cap, rfl, ⟨hown, fun b hb => (hown.lt b hb).2, hM, rfl⟩, hb⟩
def ordI (o : Nat → Nat) (n : Nat) : List Int := (List.range n).map fun i => ((o i : Nat) : Int)
theorem ordI_len (o : Nat → Nat) (n : Nat) : (ordI o n).length = n := by simp [ordI]
theorem ordI_vals (o : Nat → Nat) (n : Nat) : ((List.range n).map fun i => Value.int .i64 (o i : Nat)) = intsV (ordI o n) := by simp [ordI, intsV, Function.comp_def]
/-- An order of one's own. -/
structure TO (W : World) (lo hi : Nat) (A : Option Addr) (n c : Nat) (o : Nat → Nat) : Prop where
  own : W.ownsRow lo 3 1 (.slice A n c) n (intsV (ordI o n))
  hi : ∀ b, (Value.slice A n c).ownBlock = some b → b < hi
namespace TO
variable {W V : World} {lo hi n c : Nat} {A : Option Addr} {o : Nat → Nat}
theorem below (h : TO W lo hi A n c o) (hb : Below W.heap.size W V) : TO V lo hi A n c o := ⟨own_below h.own hb, h.hi⟩
theorem blk (h : TO W lo hi A n c o) : ∀ b, (Value.slice A n c).ownBlock = some b → lo ≤ b ∧ b < hi := fun b hb => ⟨(h.own.lt b hb).1, h.hi b hb⟩
theorem ownB (h : TO W lo hi A n c o) {B : Nat} (hB : B ≤ lo) : W.ownsRow B 3 1 (.slice A n c) (ordI o n).length (intsV (ordI o n)) := by rw [ordI_len]; exact own_base h.own hB
end TO
theorem RetO.tl {w w' : World} {n : Nat} {o : Nat → Nat} {e : Ending} (h : RetO n o w e w') : ∃ A cap, e = .returned (.slice A n cap) ∧ TO w' w.heap.size w'.heap.size A n cap o ∧ Below w.heap.size w w' := by
  obtain ⟨s, rfl, hown, hb⟩ := h
  rw [ordI_vals] at hown
  obtain ⟨A, m, cap, rfl, rfl⟩ := slice_of_own hown
  exact ⟨A, cap, rfl, ⟨hown, fun b hb => (hown.lt b hb).2⟩, hb⟩
theorem own_heap {W V : World} {B e n : Nat} {v : Value} {xs : List Value} (h : W.ownsRow B e 1 v n xs) (hb : ∀ b, v.ownBlock = some b → V.heap[b]? = W.heap[b]?) : V.ownsRow B e 1 v n xs := by
  refine ⟨h.1, ?_⟩
  rcases h.2 with h1 | ⟨g, cap, cur, hv, hbg, hg, hr⟩
  · exact .inl h1
  · exact .inr ⟨g, cap, cur, hv, hbg, by rw [hb g (by rw [hv]; rfl)]; exact hg, hr⟩
theorem fill6 (A0 A1 A2 A3 A4 A5 : Option Addr) (n0 c0 n1 c1 n2 c2 n3 c3 n4 c4 n5 c5 : Nat) :
    Instr.fill (fun i => some (i * 1, 1)) ((Array.range (6 * 1)).map ((Value.slice none 0 0).cells[· % (Value.slice none 0 0).cells.size]!)) [(0, .slice A0 n0 c0), (1, .slice A1 n1 c1), (2, .slice A2 n2 c2), (3, .slice A3 n3 c3), (4, .slice A4 n4 c4), (5, .slice A5 n5 c5)] =
      some #[.slice A0 n0 c0, .slice A1 n1 c1, .slice A2 n2 c2, .slice A3 n3 c3, .slice A4 n4 c4, .slice A5 n5 c5] := by kernel_rfl
theorem fill2 (A0 A1 : Option Addr) (n0 c0 n1 c1 : Nat) :
    Instr.fill (fun i => some (i * 1, 1)) ((Array.range (2 * 1)).map ((Value.slice none 0 0).cells[· % (Value.slice none 0 0).cells.size]!)) [(0, .slice A0 n0 c0), (1, .slice A1 n1 c1)] =
      some #[.slice A0 n0 c0, .slice A1 n1 c1] := by kernel_rfl
section
variable {W : World}
/-- Six lists lie apart. -/
theorem fam6 {B q : Nat} {S0 S1 S2 S3 S4 S5 : Value} {z0 z1 z2 z3 z4 z5 : List C} (h0 : W.ownsRow B 51 1 S0 z0.length (nums z0)) (h1 : W.ownsRow B 51 1 S1 z1.length (nums z1)) (h2 : W.ownsRow B 51 1 S2 z2.length (nums z2))
    (h3 : W.ownsRow B 51 1 S3 z3.length (nums z3)) (h4 : W.ownsRow B 51 1 S4 z4.length (nums z4)) (h5 : W.ownsRow B 51 1 S5 z5.length (nums z5)) (hq : W.heap[q]? = some (.cells #[S0, S1, S2, S3, S4, S5] 24)) : Fam W B q [S0, S1, S2, S3, S4, S5] [z0, z1, z2, z3, z4, z5] where
  len := rfl
  own k S zs a b := by
    match k, a, b with
    | 0, a, b => simp at a b; subst a b; exact h0
    | 1, a, b => simp at a b; subst a b; exact h1
    | 2, a, b => simp at a b; subst a b; exact h2
    | 3, a, b => simp at a b; subst a b; exact h3
    | 4, a, b => simp at a b; subst a b; exact h4
    | 5, a, b => simp at a b; subst a b; exact h5
  list k S a := by
    rw [cell_of_row W q k _ _ _ hq]
    match k, a with
    | 0, a => simpa using a
    | 1, a => simpa using a
    | 2, a => simpa using a
    | 3, a => simpa using a
    | 4, a => simpa using a
    | 5, a => simpa using a
theorem apt6 {q : Nat} {S0 S1 S2 S3 S4 S5 : Value} {a0 b0 a1 b1 a2 b2 a3 b3 a4 b4 a5 b5 : Nat} (h0 : ∀ b, S0.ownBlock = some b → a0 ≤ b ∧ b < b0) (h1 : ∀ b, S1.ownBlock = some b → a1 ≤ b ∧ b < b1) (h2 : ∀ b, S2.ownBlock = some b → a2 ≤ b ∧ b < b2)
    (h3 : ∀ b, S3.ownBlock = some b → a3 ≤ b ∧ b < b3) (h4 : ∀ b, S4.ownBlock = some b → a4 ≤ b ∧ b < b4) (h5 : ∀ b, S5.ownBlock = some b → a5 ≤ b ∧ b < b5) (e : b0 ≤ a1 ∧ b1 ≤ a2 ∧ b2 ≤ a3 ∧ b3 ≤ a4 ∧ b4 ≤ a5 ∧ b5 ≤ q ∧ a0 ≤ b0 ∧ a1 ≤ b1 ∧ a2 ≤ b2 ∧ a3 ≤ b3 ∧ a4 ≤ b4 ∧ a5 ≤ b5) : Apt q [S0, S1, S2, S3, S4, S5] := by
  obtain ⟨e0, e1, e2, e3, e4, e5, f0, f1, f2, f3, f4, f5⟩ := e
  have key : ∀ (k : Nat) (S : Value) (b : Nat), [S0, S1, S2, S3, S4, S5][k]? = some S → S.ownBlock = some b → (k = 0 ∧ a0 ≤ b ∧ b < b0) ∨ (k = 1 ∧ a1 ≤ b ∧ b < b1) ∨ (k = 2 ∧ a2 ≤ b ∧ b < b2) ∨ (k = 3 ∧ a3 ≤ b ∧ b < b3) ∨ (k = 4 ∧ a4 ≤ b ∧ b < b4) ∨ (k = 5 ∧ a5 ≤ b ∧ b < b5) := fun k S b hS hb => by
    match k, hS with
    | 0, hS => simp at hS; subst hS; have := h0 b hb; omega
    | 1, hS => simp at hS; subst hS; have := h1 b hb; omega
    | 2, hS => simp at hS; subst hS; have := h2 b hb; omega
    | 3, hS => simp at hS; subst hS; have := h3 b hb; omega
    | 4, hS => simp at hS; subst hS; have := h4 b hb; omega
    | 5, hS => simp at hS; subst hS; have := h5 b hb; omega
  exact
    { apart := fun j k S S' hj hk hjk => by
        cases hb : S.ownBlock with
        | none => exact .inl rfl
        | some b =>
          refine .inr fun e => ?_
          have q1 := key j S b hj hb
          have q2 := key k S' b hk e.symm
          omega
      notq := fun k S hk e => by
        have q1 := key k S q hk e
        omega }
theorem AI.fam2 {B q : Nat} {S0 S1 : Value} {z0 z1 : List Int} (h0 : W.ownsRow B 3 1 S0 z0.length (intsV z0)) (h1 : W.ownsRow B 3 1 S1 z1.length (intsV z1)) (hq : W.heap[q]? = some (.cells #[S0, S1] 23)) : AI.Fam W B q [S0, S1] [z0, z1] where
  len := rfl
  own k S zs a b := by
    match k, a, b with
    | 0, a, b => simp at a b; subst a b; exact h0
    | 1, a, b => simp at a b; subst a b; exact h1
  list k S a := by
    rw [cell_of_row W q k _ _ _ hq]
    match k, a with
    | 0, a => simpa using a
    | 1, a => simpa using a
theorem AI.apt2 {q : Nat} {S0 S1 : Value} {a0 b0 a1 b1 : Nat} (h0 : ∀ b, S0.ownBlock = some b → a0 ≤ b ∧ b < b0) (h1 : ∀ b, S1.ownBlock = some b → a1 ≤ b ∧ b < b1) (e : b0 ≤ a1 ∧ b1 ≤ q ∧ a0 ≤ b0 ∧ a1 ≤ b1) : AI.Apt q [S0, S1] := by
  obtain ⟨e0, e1, f0, f1⟩ := e
  have key : ∀ (k : Nat) (S : Value) (b : Nat), [S0, S1][k]? = some S → S.ownBlock = some b → (k = 0 ∧ a0 ≤ b ∧ b < b0) ∨ (k = 1 ∧ a1 ≤ b ∧ b < b1) := fun k S b hS hb => by
    match k, hS with
    | 0, hS => simp at hS; subst hS; have := h0 b hb; omega
    | 1, hS => simp at hS; subst hS; have := h1 b hb; omega
  exact
    { apart := fun j k S S' hj hk hjk => by
        cases hb : S.ownBlock with
        | none => exact .inl rfl
        | some b =>
          refine .inr fun e => ?_
          have q1 := key j S b hj hb
          have q2 := key k S' b hk e.symm
          omega
      notq := fun k S hk e => by
        have q1 := key k S q hk e
        omega }
end
theorem two_rows {W : World} {o o' : Obj} : ((W.alloc o).alloc o').heap[W.heap.size]? = some o ∧ ((W.alloc o).alloc o').heap[W.heap.size + 1]? = some o' ∧ Below W.heap.size W ((W.alloc o).alloc o') :=
  ⟨row_alloc (heap_alloc_new W o), row_new2 W o o', (below_new W o).new (Nat.le_refl _) o'⟩
set_option maxHeartbeats 16000000 in
theorem told_c {B b n B' b' : Nat} {S : El} {ti : Bool} (w : World) (h : Has9 w B b n S) (h' : rHas w B' b' n S ti) (hf : finTo S.E n) (hn : n ≤ 64) :
    Calls Try.prog 54 #[.pointer (some ⟨b, 0, none⟩), .pointer (some ⟨b', 0, none⟩)] w fun e w' => e = .returned (.bool true) ∧ Below w.heap.size w w' := by
  obtain ⟨M, hM⟩ : ∃ M, M = n * n := ⟨_, rfl⟩
  have hM4 : M ≤ 4096 := by rw [hM]; exact prod_small hn hn
  obtain ⟨El, hEl⟩ : ∃ El, El = entries n (lowE S) (n * n) := ⟨_, rfl⟩
  obtain ⟨Eu, hEu⟩ : ∃ Eu, Eu = entries n (uppE S) (n * n) := ⟨_, rfl⟩
  have hll : El.length = M := by rw [hEl, hM]; simp [entries]
  have hul : Eu.length = M := by rw [hEu, hM]; simp [entries]
  obtain ⟨pv, hpv⟩ : ∃ pv, pv = pivL S n := ⟨_, rfl⟩
  have hpl : pv.length = n := by rw [hpv]; simp [pivL]
  have HL := Lib.hid (fun (V : World) (hV : Below w.heap.size w V) => (show Calls Try.prog 15 #[.pointer (some ⟨b, 0, none⟩)] V fun e w' => ∃ A zs c, e = .returned (mval n n (.slice A M c)) ∧ TL w' V.heap.size w'.heap.size A M c El zs ∧ Below V.heap.size V w' from by
    have hc := L_c V (h.below hV) hf hn; rw [← hEl] at hc; exact hc.mono fun e w' hr => hr.tl hll))
  have HU := Lib.hid (fun (V : World) (hV : Below w.heap.size w V) => (show Calls Try.prog 16 #[.pointer (some ⟨b, 0, none⟩)] V fun e w' => ∃ A zs c, e = .returned (mval n n (.slice A M c)) ∧ TL w' V.heap.size w'.heap.size A M c Eu zs ∧ Below V.heap.size V w' from by
    have hc := U_c V (h.below hV) hf hn; rw [← hEu] at hc; exact hc.mono fun e w' hr => hr.tl hul))
  have HP := Lib.hid (fun (V : World) (hV : Below w.heap.size w V) => (show Calls Try.prog 26 #[.pointer (some ⟨b, 0, none⟩)] V fun e w' => ∃ A c, e = .returned (.slice A n c) ∧ TL w' V.heap.size w'.heap.size A n c (pv.map cnC) pv ∧ Below V.heap.size V w' from by
    have hc := Pivots_c V (h.below hV) hn; rw [← hpv] at hc; exact hc.mono fun e w' hr => hr.tl hpl))
  have HO := Lib.hid (fun (V : World) (hV : Below w.heap.size w V) => (show Calls Try.prog 17 #[.pointer (some ⟨b, 0, none⟩)] V fun e w' => ∃ A c, e = .returned (.slice A n c) ∧ TO w' V.heap.size w'.heap.size A n c S.o ∧ Below V.heap.size V w' from
    (Order_c V (h.below hV) hn).mono fun e w' hr => hr.tl))
  have GL := Lib.hid (fun (V : World) (hV : Below w.heap.size w V) => (show Calls Try.prog 72 #[.pointer (some ⟨b', 0, none⟩)] V fun e w' => ∃ A zs c, e = .returned (mval n n (.slice A M c)) ∧ TL w' V.heap.size w'.heap.size A M c El zs ∧ Below V.heap.size V w' from by
    have hc := rL_c V (h'.below hV) hf hn; rw [← hEl] at hc; exact hc.mono fun e w' hr => hr.tl hll))
  have GU := Lib.hid (fun (V : World) (hV : Below w.heap.size w V) => (show Calls Try.prog 73 #[.pointer (some ⟨b', 0, none⟩)] V fun e w' => ∃ A zs c, e = .returned (mval n n (.slice A M c)) ∧ TL w' V.heap.size w'.heap.size A M c Eu zs ∧ Below V.heap.size V w' from by
    have hc := rU_c V (h'.below hV) hf hn; rw [← hEu] at hc; exact hc.mono fun e w' hr => hr.tl hul))
  have GP := Lib.hid (fun (V : World) (hV : Below w.heap.size w V) => (show Calls Try.prog 74 #[.pointer (some ⟨b', 0, none⟩)] V fun e w' => ∃ A c, e = .returned (.slice A n c) ∧ TL w' V.heap.size w'.heap.size A n c (pv.map cnC) pv ∧ Below V.heap.size V w' from by
    have hc := rPivots_c V (h'.below hV) hn; rw [← hpv] at hc; exact hc.mono fun e w' hr => hr.tl hpl))
  have GO := Lib.hid (fun (V : World) (hV : Below w.heap.size w V) => (show Calls Try.prog 75 #[.pointer (some ⟨b', 0, none⟩)] V fun e w' => ∃ A c, e = .returned (.slice A n c) ∧ TO w' V.heap.size w'.heap.size A n c S.o ∧ Below V.heap.size V w' from
    (rOrder_c V (h'.below hV) hn).mono fun e w' hr => hr.tl))
  have GSz := Lib.hid (fun (V : World) (hV : Below w.heap.size w V) => Size_c V (h.below hV))
  have GrSz := Lib.hid (fun (V : World) (hV : Below w.heap.size w V) => rSize_c V (h'.below hV))
  have GSg := Lib.hid (fun (V : World) (hV : Below w.heap.size w V) => Sign_c V (h.below hV))
  have GrSg := Lib.hid (fun (V : World) (hV : Below w.heap.size w V) => rSign_c V (h'.below hV))
  have GSM := Lib.hid (fun (E : List C) (A A' : Option Addr) (c c' : Nat) (z z' : List C) (V : World) (r1 : RD V A M E z) (r2 : RD V A' M E z') => (show Calls Try.prog 14 #[mval n n (.slice A M c), mval n n (.slice A' M c')] V (RetBB true V) from
    SameMatrix_t n n A A' z z' M c c' V r1.len r2.len (r1.cn.trans r2.cn.symm) (by omega) r1.rd r2.rd))
  have GSN := Lib.hid (fun (A A' : Option Addr) (c c' : Nat) (V : World) (r1 : RD V A n (pv.map cnC) pv) (r2 : RD V A' n (pv.map cnC) pv) => (show Calls Try.prog 43 #[.slice A n c, .slice A' n c'] V (RetBB true V) from
    bb_of_b (SameNumbers_t A A' pv pv n c c' V r1.len r2.len rfl (by omega) r1.rd r2.rd)))
  have GSI := Lib.hid (fun (A A' : Option Addr) (c c' : Nat) (V : World) (r1 : Reads V V.heap.size A (intsV (ordI S.o n))) (r2 : Reads V V.heap.size A' (intsV (ordI S.o n))) => (show Calls Try.prog 22 #[.slice A n c, .slice A' n c'] V (RetBB true V) from
    bb_of_b (SameInts_t A A' (ordI S.o n) n c c' V (ordI_len _ _) (by omega) r1 r2)))
  have HM4 := Lib.hid hM4
  have HN := Lib.hid hn
  clear h h' hf hn hM hM4 hEl hEu hll hul hpv hpl
  go_enter Try.func54, Try.ntmps54
  go_wp2_with fail
  refine (HL.out w (Below.refl _ _)).mono ?_
  rintro e W1 ⟨A1, z1x, c1, rfl, t1, hb⟩
  have B1 := Lib.hid hb
  have S01 := Lib.hid hb.size
  have T1 := Lib.hid t1
  clear t1 hb
  go_wp2_with fail
  refine (HU.out W1 B1.out).mono ?_
  rintro e W2 ⟨A2, z2x, c2, rfl, t2, hb⟩
  have B2 := Lib.hid (B1.out.trans (hb.mono B1.out.size))
  have T1 := Lib.hid (T1.out.below hb)
  have T2 := Lib.hid t2
  have S12 := Lib.hid hb.size
  obtain ⟨x1, x2, hbn⟩ := two_rows (W := W2) (o := .cells #[.int .i64 (n : Nat), .int .i64 (n : Nat), .slice A1 M c1] 26) (o' := .cells #[.int .i64 (n : Nat), .int .i64 (n : Nat), .slice A2 M c2] 26)
  have X1 := Lib.hid x1
  have X2 := Lib.hid x2
  have BN := Lib.hid hbn
  clear t2 hb x1 x2 hbn
  go_wp2_with fail
  have B2' := Lib.hid (B2.out.trans (BN.out.mono B2.out.size))
  refine (HL.out _ B2'.out).mono ?_
  rintro e W3 ⟨A3, z3x, c3, rfl, t3, hb⟩
  have B3 := Lib.hid (B2'.out.trans (hb.mono B2'.out.size))
  have T1 := Lib.hid ((T1.out.below BN.out).below hb)
  have T2 := Lib.hid ((T2.out.below BN.out).below hb)
  have T3 := Lib.hid t3
  have X1 := Lib.hid (row_keep hb X1.out)
  have X2 := Lib.hid (row_keep hb X2.out)
  have S23 := Lib.hid (Nat.le_trans BN.out.size hb.size)
  have S23' := Lib.hid BN.out.size
  have S23'' := Lib.hid hb.size
  clear t3 hb BN B2'
  go_wp2_with fail
  refine (HU.out W3 B3.out).mono ?_
  rintro e W4 ⟨A4, z4x, c4, rfl, t4, hb⟩
  have B4 := Lib.hid (B3.out.trans (hb.mono B3.out.size))
  have T1 := Lib.hid (T1.out.below hb)
  have T2 := Lib.hid (T2.out.below hb)
  have T3 := Lib.hid (T3.out.below hb)
  have T4 := Lib.hid t4
  have X1 := Lib.hid (row_keep hb X1.out)
  have X2 := Lib.hid (row_keep hb X2.out)
  have S34 := Lib.hid hb.size
  obtain ⟨x1, x2, hbn⟩ := two_rows (W := W4) (o := .cells #[.int .i64 (n : Nat), .int .i64 (n : Nat), .slice A3 M c3] 26) (o' := .cells #[.int .i64 (n : Nat), .int .i64 (n : Nat), .slice A4 M c4] 26)
  have X3 := Lib.hid x1
  have X4 := Lib.hid x2
  have BN := Lib.hid hbn
  clear t4 hb x1 x2 hbn
  go_wp2_with fail
  have B4' := Lib.hid (B4.out.trans (BN.out.mono B4.out.size))
  refine (HP.out _ B4'.out).mono ?_
  rintro e W5 ⟨A5, c5, rfl, t5, hb⟩
  have B5 := Lib.hid (B4'.out.trans (hb.mono B4'.out.size))
  have T1 := Lib.hid ((T1.out.below BN.out).below hb)
  have T2 := Lib.hid ((T2.out.below BN.out).below hb)
  have T3 := Lib.hid ((T3.out.below BN.out).below hb)
  have T4 := Lib.hid ((T4.out.below BN.out).below hb)
  have T5 := Lib.hid t5
  have X1 := Lib.hid (row_keep hb (row_keep BN.out X1.out))
  have X2 := Lib.hid (row_keep hb (row_keep BN.out X2.out))
  have X3 := Lib.hid (row_keep hb X3.out)
  have X4 := Lib.hid (row_keep hb X4.out)
  have S45' := Lib.hid BN.out.size
  have S45'' := Lib.hid hb.size
  clear t5 hb BN B4'
  go_wp2_with fail
  refine (HP.out W5 B5.out).mono ?_
  rintro e W6 ⟨A6, c6, rfl, t6, hb⟩
  have B6 := Lib.hid (B5.out.trans (hb.mono B5.out.size))
  have T1 := Lib.hid (T1.out.below hb)
  have T2 := Lib.hid (T2.out.below hb)
  have T3 := Lib.hid (T3.out.below hb)
  have T4 := Lib.hid (T4.out.below hb)
  have T5 := Lib.hid (T5.out.below hb)
  have T6 := Lib.hid t6
  have X1 := Lib.hid (row_keep hb X1.out)
  have X2 := Lib.hid (row_keep hb X2.out)
  have X3 := Lib.hid (row_keep hb X3.out)
  have X4 := Lib.hid (row_keep hb X4.out)
  have S56 := Lib.hid hb.size
  clear t6 hb
  go_wp2_with fail
  refine (HO.out W6 B6.out).mono ?_
  rintro e W7 ⟨A7, c7, rfl, t7, hb⟩
  have B7 := Lib.hid (B6.out.trans (hb.mono B6.out.size))
  have T1 := Lib.hid (T1.out.below hb)
  have T2 := Lib.hid (T2.out.below hb)
  have T3 := Lib.hid (T3.out.below hb)
  have T4 := Lib.hid (T4.out.below hb)
  have T5 := Lib.hid (T5.out.below hb)
  have T6 := Lib.hid (T6.out.below hb)
  have T7 := Lib.hid t7
  have X1 := Lib.hid (row_keep hb X1.out)
  have X2 := Lib.hid (row_keep hb X2.out)
  have X3 := Lib.hid (row_keep hb X3.out)
  have X4 := Lib.hid (row_keep hb X4.out)
  have S67 := Lib.hid hb.size
  clear t7 hb
  go_wp2_with fail
  refine (HO.out W7 B7.out).mono ?_
  rintro e WX ⟨A8, c8, rfl, t8, hb⟩
  have BX := Lib.hid (B7.out.trans (hb.mono B7.out.size))
  have T1 := Lib.hid (T1.out.below hb)
  have T2 := Lib.hid (T2.out.below hb)
  have T3 := Lib.hid (T3.out.below hb)
  have T4 := Lib.hid (T4.out.below hb)
  have T5 := Lib.hid (T5.out.below hb)
  have T6 := Lib.hid (T6.out.below hb)
  have T7 := Lib.hid (T7.out.below hb)
  have T8 := Lib.hid t8
  have X1 := Lib.hid (row_keep hb X1.out)
  have X2 := Lib.hid (row_keep hb X2.out)
  have X3 := Lib.hid (row_keep hb X3.out)
  have X4 := Lib.hid (row_keep hb X4.out)
  have S78 := Lib.hid hb.size
  clear t8 hb B1 B2 B3 B4 B5 B6 B7
  have bx : ∀ {V : World}, Below WX.heap.size WX V → Below w.heap.size w V := fun hV => BX.out.trans (hV.mono BX.out.size)
  have cl : ∀ {V V' : World}, Below WX.heap.size WX V → Below V.heap.size V V' → Below WX.heap.size WX V' := fun hV hb => hV.trans (hb.mono hV.size)
  have R1 := Lib.hid T1.out.reads
  have R2 := Lib.hid T2.out.reads
  have R3 := Lib.hid T3.out.reads
  have R4 := Lib.hid T4.out.reads
  have R5 := Lib.hid T5.out.reads
  have R6 := Lib.hid T6.out.reads
  have R7 := Lib.hid (Reads.of_own T7.out.own)
  have R8 := Lib.hid (Reads.of_own T8.out.own)
  have HSz := Lib.hid (fun (V : World) (hV : Below WX.heap.size WX V) => GSz.out V (bx hV))
  have HrSz := Lib.hid (fun (V : World) (hV : Below WX.heap.size WX V) => GrSz.out V (bx hV))
  have HSg := Lib.hid (fun (V : World) (hV : Below WX.heap.size WX V) => GSg.out V (bx hV))
  have HrSg := Lib.hid (fun (V : World) (hV : Below WX.heap.size WX V) => GrSg.out V (bx hV))
  have HrL := Lib.hid (fun (V : World) (hV : Below WX.heap.size WX V) => (show Calls Try.prog 72 #[.pointer (some ⟨b', 0, none⟩)] V fun e w' => ∃ A zs c, e = .returned (mval n n (.slice A M c)) ∧ RD w' A M El zs ∧ Below WX.heap.size WX w' from
    (GL.out V (bx hV)).mono fun e w' ⟨A, zs, c, he, t, hb⟩ => ⟨A, zs, c, he, t.reads, cl hV hb⟩))
  have HrU := Lib.hid (fun (V : World) (hV : Below WX.heap.size WX V) => (show Calls Try.prog 73 #[.pointer (some ⟨b', 0, none⟩)] V fun e w' => ∃ A zs c, e = .returned (mval n n (.slice A M c)) ∧ RD w' A M Eu zs ∧ Below WX.heap.size WX w' from
    (GU.out V (bx hV)).mono fun e w' ⟨A, zs, c, he, t, hb⟩ => ⟨A, zs, c, he, t.reads, cl hV hb⟩))
  have HrP := Lib.hid (fun (V : World) (hV : Below WX.heap.size WX V) => (show Calls Try.prog 74 #[.pointer (some ⟨b', 0, none⟩)] V fun e w' => ∃ A c, e = .returned (.slice A n c) ∧ RD w' A n (pv.map cnC) pv ∧ Below WX.heap.size WX w' from
    (GP.out V (bx hV)).mono fun e w' ⟨A, c, he, t, hb⟩ => ⟨A, c, he, t.reads, cl hV hb⟩))
  have HrO := Lib.hid (fun (V : World) (hV : Below WX.heap.size WX V) => (show Calls Try.prog 75 #[.pointer (some ⟨b', 0, none⟩)] V fun e w' => ∃ A c, e = .returned (.slice A n c) ∧ Reads w' w'.heap.size A (intsV (ordI S.o n)) ∧ Below WX.heap.size WX w' from
    (GO.out V (bx hV)).mono fun e w' ⟨A, c, he, t, hb⟩ => ⟨A, c, he, Reads.of_own t.own, cl hV hb⟩))
  have HSMl := Lib.hid (fun (A A' : Option Addr) (c c' : Nat) (z z' : List C) (V : World) (r1 : RD V A M El z) (r2 : RD V A' M El z') (hV : Below WX.heap.size WX V) => (show Calls Try.prog 14 #[mval n n (.slice A M c), mval n n (.slice A' M c')] V fun e w' => e = .returned (.bool true) ∧ Below WX.heap.size WX w' from
    (GSM.out El A A' c c' z z' V r1 r2).mono fun e w' ⟨he, hb⟩ => ⟨he, cl hV hb⟩))
  have HSMu := Lib.hid (fun (A A' : Option Addr) (c c' : Nat) (z z' : List C) (V : World) (r1 : RD V A M Eu z) (r2 : RD V A' M Eu z') (hV : Below WX.heap.size WX V) => (show Calls Try.prog 14 #[mval n n (.slice A M c), mval n n (.slice A' M c')] V fun e w' => e = .returned (.bool true) ∧ Below WX.heap.size WX w' from
    (GSM.out Eu A A' c c' z z' V r1 r2).mono fun e w' ⟨he, hb⟩ => ⟨he, cl hV hb⟩))
  have HSN := Lib.hid (fun (A A' : Option Addr) (c c' : Nat) (V : World) (r1 : RD V A n (pv.map cnC) pv) (r2 : RD V A' n (pv.map cnC) pv) (hV : Below WX.heap.size WX V) => (show Calls Try.prog 43 #[.slice A n c, .slice A' n c'] V fun e w' => e = .returned (.bool true) ∧ Below WX.heap.size WX w' from
    (GSN.out A A' c c' V r1 r2).mono fun e w' ⟨he, hb⟩ => ⟨he, cl hV hb⟩))
  have HSI := Lib.hid (fun (A A' : Option Addr) (c c' : Nat) (V : World) (r1 : Reads V V.heap.size A (intsV (ordI S.o n))) (r2 : Reads V V.heap.size A' (intsV (ordI S.o n))) (hV : Below WX.heap.size WX V) => (show Calls Try.prog 22 #[.slice A n c, .slice A' n c'] V fun e w' => e = .returned (.bool true) ∧ Below WX.heap.size WX w' from
    (GSI.out A A' c c' V r1 r2).mono fun e w' ⟨he, hb⟩ => ⟨he, cl hV hb⟩))
  have HK := Lib.hid (fun (V : World) (hV : Below WX.heap.size WX V) => (show V.cell? ⟨W2.heap.size, 0, none⟩ = some (.int .i64 (n : Nat)) ∧ V.cell? ⟨W2.heap.size, 1, none⟩ = some (.int .i64 (n : Nat)) ∧ V.cell? ⟨W2.heap.size, 2, none⟩ = some (.slice A1 M c1) ∧ V.cell? ⟨W2.heap.size + 1, 0, none⟩ = some (.int .i64 (n : Nat)) ∧ V.cell? ⟨W2.heap.size + 1, 1, none⟩ = some (.int .i64 (n : Nat)) ∧ V.cell? ⟨W2.heap.size + 1, 2, none⟩ = some (.slice A2 M c2) ∧ V.cell? ⟨W4.heap.size, 0, none⟩ = some (.int .i64 (n : Nat)) ∧ V.cell? ⟨W4.heap.size, 1, none⟩ = some (.int .i64 (n : Nat)) ∧ V.cell? ⟨W4.heap.size, 2, none⟩ = some (.slice A3 M c3) ∧ V.cell? ⟨W4.heap.size + 1, 0, none⟩ = some (.int .i64 (n : Nat)) ∧ V.cell? ⟨W4.heap.size + 1, 1, none⟩ = some (.int .i64 (n : Nat)) ∧ V.cell? ⟨W4.heap.size + 1, 2, none⟩ = some (.slice A4 M c4) from by
    obtain ⟨a0, a1, a2, -⟩ := box3 (row_keep hV X1.out)
    obtain ⟨b0, b1, b2, -⟩ := box3 (row_keep hV X2.out)
    obtain ⟨d0, d1, d2, -⟩ := box3 (row_keep hV X3.out)
    obtain ⟨e0, e1, e2, -⟩ := box3 (row_keep hV X4.out)
    exact ⟨a0, a1, a2, b0, b1, b2, d0, d1, d2, e0, e1, e2⟩))
  clear bx cl HP GP
  go_wp2_with fail
  go_region_held3 (fun V => V.cell? ⟨W2.heap.size, 0, none⟩ = some (.int .i64 (n : Nat)) ∧ V.cell? ⟨W2.heap.size, 1, none⟩ = some (.int .i64 (n : Nat)) ∧ V.cell? ⟨W2.heap.size, 2, none⟩ = some (.slice A1 M c1) ∧ V.cell? ⟨W2.heap.size + 1, 0, none⟩ = some (.int .i64 (n : Nat)) ∧ V.cell? ⟨W2.heap.size + 1, 1, none⟩ = some (.int .i64 (n : Nat)) ∧ V.cell? ⟨W2.heap.size + 1, 2, none⟩ = some (.slice A2 M c2) ∧ V.cell? ⟨W4.heap.size, 0, none⟩ = some (.int .i64 (n : Nat)) ∧ V.cell? ⟨W4.heap.size, 1, none⟩ = some (.int .i64 (n : Nat)) ∧ V.cell? ⟨W4.heap.size, 2, none⟩ = some (.slice A3 M c3) ∧ V.cell? ⟨W4.heap.size + 1, 0, none⟩ = some (.int .i64 (n : Nat)) ∧ V.cell? ⟨W4.heap.size + 1, 1, none⟩ = some (.int .i64 (n : Nat)) ∧ V.cell? ⟨W4.heap.size + 1, 2, none⟩ = some (.slice A4 M c4))
    (with_reducible refine HK.out _ ?_; (repeat (first | with_reducible assumption | with_reducible refine Below.drew ?_ | with_reducible exact Below.refl _ _)); done)
    (first
    | (go_at_call 34; (with_reducible refine (HSz.out _ ?_).mono ?_); (repeat (first | with_reducible assumption | with_reducible refine Below.drew ?_ | with_reducible exact Below.refl _ _)); (rintro e V ⟨rfl, rfl⟩))
    | (go_at_call 70; (with_reducible refine (HrSz.out _ ?_).mono ?_); (repeat (first | with_reducible assumption | with_reducible refine Below.drew ?_ | with_reducible exact Below.refl _ _)); (rintro e V ⟨rfl, rfl⟩))
    | (go_at_call 18; (with_reducible refine (HSg.out _ ?_).mono ?_); (repeat (first | with_reducible assumption | with_reducible refine Below.drew ?_ | with_reducible exact Below.refl _ _)); (rintro e V ⟨rfl, rfl⟩))
    | (go_at_call 71; (with_reducible refine (HrSg.out _ ?_).mono ?_); (repeat (first | with_reducible assumption | with_reducible refine Below.drew ?_ | with_reducible exact Below.refl _ _)); (rintro e V ⟨rfl, rfl⟩))
    | (go_at_call 72; (with_reducible refine (HrL.out _ ?_).mono ?_); (repeat (first | with_reducible assumption | with_reducible refine Below.drew ?_ | with_reducible exact Below.refl _ _)); (rintro e V1 ⟨D1, z1, k1, rfl, r1, h1⟩))
    | (go_at_call 14; (with_reducible refine (HSMl.out A1 D1 c1 k1 z1x z1 V1 (R1.out.below h1) r1 h1).mono ?_); (rintro e V2 ⟨rfl, h2⟩))
    | (go_at_call 73; (with_reducible refine (HrU.out _ ?_).mono ?_); (repeat (first | with_reducible assumption | with_reducible refine Below.drew ?_ | with_reducible exact Below.refl _ _)); (rintro e V3 ⟨D3, z3, k3, rfl, r3, h3⟩))
    | (go_at_call 14; (with_reducible refine (HSMu.out A2 D3 c2 k3 z2x z3 V3 (R2.out.below h3) r3 h3).mono ?_); (rintro e V4 ⟨rfl, h4⟩))
    | (go_at_call 14; (with_reducible refine (HSMl.out A3 A1 c3 c1 z3x z1x V4 (R3.out.below h4) (R1.out.below h4) h4).mono ?_); (rintro e V5 ⟨rfl, h5⟩))
    | (go_at_call 14; (with_reducible refine (HSMu.out A4 A2 c4 c2 z4x z2x V5 (R4.out.below h5) (R2.out.below h5) h5).mono ?_); (rintro e V6 ⟨rfl, h6⟩))
    | (go_at_call 74; (with_reducible refine (HrP.out _ ?_).mono ?_); (repeat (first | with_reducible assumption | with_reducible refine Below.drew ?_ | with_reducible exact Below.refl _ _)); (rintro e V7 ⟨D7, k7, rfl, r7, h7⟩))
    | (go_at_call 43; (with_reducible refine (HSN.out A5 D7 c5 k7 V7 (R5.out.below h7) r7 h7).mono ?_); (rintro e V8 ⟨rfl, h8⟩))
    | (go_at_call 43; (with_reducible refine (HSN.out A6 A5 c6 c5 V8 (R6.out.below h8) (R5.out.below h8) h8).mono ?_); (rintro e V9 ⟨rfl, h9⟩))
    | (go_at_call 75; (with_reducible refine (HrO.out _ ?_).mono ?_); (repeat (first | with_reducible assumption | with_reducible refine Below.drew ?_ | with_reducible exact Below.refl _ _)); (rintro e V10 ⟨D10, k10, rfl, r10, h10⟩))
    | (go_at_call 22; (with_reducible refine (HSI.out A7 D10 c7 k10 V10 ((R7.out.below h10).more h10.size) r10 h10).mono ?_); (rintro e V11 ⟨rfl, h11⟩))
    | (go_at_call 22; (with_reducible refine (HSI.out A8 A7 c8 c7 V11 ((R8.out.below h11).more h11.size) ((R7.out.below h11).more h11.size) h11).mono ?_); (rintro e V12 ⟨rfl, h12⟩)))
  all_goals
    have T1 := Lib.hid (T1.out.below h12)
    have T2 := Lib.hid (T2.out.below h12)
    have T3 := Lib.hid (T3.out.below h12)
    have T4 := Lib.hid (T4.out.below h12)
    have T5 := Lib.hid (T5.out.below h12)
    have T6 := Lib.hid (T6.out.below h12)
    have T7 := Lib.hid (T7.out.below h12)
    have T8 := Lib.hid (T8.out.below h12)
    obtain ⟨-, -, a2, -⟩ := box3 (row_keep h12 X1.out)
    obtain ⟨-, -, b2, -⟩ := box3 (row_keep h12 X2.out)
    obtain ⟨-, -, d2, -⟩ := box3 (row_keep h12 X3.out)
    obtain ⟨-, -, e2, -⟩ := box3 (row_keep h12 X4.out)
    have BV := Lib.hid (BX.out.trans (h12.mono BX.out.size))
    have SV := Lib.hid h12.size
    clear h1 h2 h3 h4 h5 h6 h7 h8 h9 h10 h11 h12 r1 r3 r7 r10 X1 X2 X3 X4 R1 R2 R3 R4 R5 R6 R7 R8 HSz HrSz HSg HrSg HrL HrU HrP HrO HSMl HSMu HSN HSI HK GSz GrSz GSg GrSg GSN BX
    have hz := And.intro S01.out (And.intro S12.out (And.intro S23'.out (And.intro S23''.out (And.intro S34.out (And.intro S45'.out (And.intro S45''.out (And.intro S56.out (And.intro S67.out (And.intro S78.out SV.out)))))))))
    obtain ⟨s01, s12, s23, s23', s34, s45, s45', s56, s67, s78, sv⟩ := hz
    have hFam := fam6 (q := V12.heap.size) ((T1.out.ownB (B := w.heap.size) (Nat.le_refl _)).alloc _) ((T2.out.ownB (B := w.heap.size) (by omega)).alloc _) ((T3.out.ownB (B := w.heap.size) (by omega)).alloc _) ((T4.out.ownB (B := w.heap.size) (by omega)).alloc _) ((T5.out.ownB (B := w.heap.size) (by omega)).alloc _) ((T6.out.ownB (B := w.heap.size) (by omega)).alloc _) (heap_alloc_new V12 _)
    have hApt := apt6 (q := V12.heap.size) T1.out.blk T2.out.blk T3.out.blk T4.out.blk T5.out.blk T6.out.blk (by omega)
    have hAp := AK.Apart_keep w.heap.size V12.heap.size 6 6 _ _ _ _ rfl (by omega) hApt hFam rfl (Nat.le_trans BV.out.size (below_new V12 _).size) (by
      intro k hk
      have := HM4.out
      have := HN.out
      simp only [List.map_cons, List.map_nil, List.mem_cons, List.not_mem_nil, or_false, T1.out.len, T2.out.len, T3.out.len, T4.out.len, T5.out.len] at hk
      omega)
    have HAp := Lib.hid hAp
    clear hFam hApt hAp s01 s12 s23 s23' s34 s45 s45' s56 s67 s78 sv
    obtain ⟨iS, his, hs0, hs1, hs2⟩ := info_parts infoSl
    obtain ⟨jS, hjs, ht0, ht1, ht2⟩ := info_parts AI.infoSlI
    go_wp2_with (first
      | (with_reducible refine wpList_buildSlice rfl 34 24 6 _ rfl #[.slice A1 M c1, .slice A2 M c2, .slice A3 M c3, .slice A4 M c4, .slice A5 n c5, .slice A6 n c6] iS (.slice none 0 0) Try.underlying34 his hs0 (by rw [hs1]; decide) (by rw [hs1]; decide) (by rw [hs1]; simp [Act.eval]; first | exact fill6 A1 A2 A3 A4 A5 A6 M c1 M c2 M c3 M c4 n c5 n c6 | rfl) ?_)
      | (refine wp_buildSlice 34 24 6 _ rfl #[.slice A1 M c1, .slice A2 M c2, .slice A3 M c3, .slice A4 M c4, .slice A5 n c5, .slice A6 n c6] iS (.slice none 0 0) Try.underlying34 his hs0 (by rw [hs1]; decide) (by rw [hs1]; decide) (by rw [hs1]; simp [Act.eval]; first | exact fill6 A1 A2 A3 A4 A5 A6 M c1 M c2 M c3 M c4 n c5 n c6 | rfl) ?_))
    refine HAp.out.mono ?_
    rintro e V13 ⟨rfl, bk⟩
    have hbA := below_new V12 (.cells #[.slice A1 M c1, .slice A2 M c2, .slice A3 M c3, .slice A4 M c4, .slice A5 n c5, .slice A6 n c6] 24)
    have hz := And.intro S01.out (And.intro S12.out (And.intro S23'.out (And.intro S23''.out (And.intro S34.out (And.intro S45'.out (And.intro S45''.out (And.intro S56.out (And.intro S67.out (And.intro S78.out (And.intro SV.out hbA.size))))))))))
    obtain ⟨s01, s12, s23, s23', s34, s45, s45', s56, s67, s78, sv, sa⟩ := hz
    have off : ∀ b : Nat, W6.heap.size ≤ b → ∀ S' ∈ ([.slice A1 M c1, .slice A2 M c2, .slice A3 M c3, .slice A4 M c4, .slice A5 n c5, .slice A6 n c6] : List Value), S'.ownBlock ≠ some b := fun b hb S' hS' e => by
      simp only [List.mem_cons, List.not_mem_nil, or_false] at hS'
      rcases hS' with rfl | rfl | rfl | rfl | rfl | rfl
      · have := (T1.out.blk b e).2; omega
      · have := (T2.out.blk b e).2; omega
      · have := (T3.out.blk b e).2; omega
      · have := (T4.out.blk b e).2; omega
      · have := (T5.out.blk b e).2; omega
      · have := (T6.out.blk b e).2; omega
    have t7 : TO V13 W6.heap.size W7.heap.size A7 n c7 S.o := ⟨own_heap (T7.out.below hbA).own (fun b hb => bk.kept b (Nat.lt_of_lt_of_le ((T7.out.below hbA).own.lt b hb).2 (Nat.le_refl _)) (off b (T7.out.blk b hb).1)), T7.out.hi⟩
    have t8 : TO V13 W7.heap.size WX.heap.size A8 n c8 S.o := ⟨own_heap (T8.out.below hbA).own (fun b hb => bk.kept b (Nat.lt_of_lt_of_le ((T8.out.below hbA).own.lt b hb).2 (Nat.le_refl _)) (off b (by have := (T8.out.blk b hb).1; omega))), T8.out.hi⟩
    have BW := Lib.hid ((BV.out.trans (hbA.mono BV.out.size)).trans bk.bel)
    have s13 := bk.bel.size
    have hFam := AI.fam2 (q := V13.heap.size) ((t7.ownB (B := w.heap.size) (by omega)).alloc _) ((t8.ownB (B := w.heap.size) (by omega)).alloc _) (heap_alloc_new V13 _)
    have hApt := AI.apt2 (q := V13.heap.size) t7.blk t8.blk (by omega)
    have hAp := AI.Apart_try w.heap.size V13.heap.size 2 2 _ _ _ _ rfl (by omega) hApt hFam rfl (Nat.le_trans BW.out.size (below_new V13 _).size) (by
      intro k hk
      have := HN.out
      simp only [List.map_cons, List.map_nil, List.mem_cons, List.not_mem_nil, or_false, ordI_len] at hk
      omega)
    have HAi := Lib.hid hAp
    clear hFam hApt hAp s01 s12 s23 s23' s34 s45 s45' s56 s67 s78 sv sa s13 hbA bk off t7 t8 HAp a2 b2 d2 e2 T1 T2 T3 T4 T5 T6 T7 T8 his hs0 hs1 hs2
    go_wp2_with (first
      | (with_reducible refine wpList_buildSlice rfl 94 23 2 _ rfl #[.slice A7 n c7, .slice A8 n c8] jS (.slice none 0 0) Try.underlying94 hjs ht0 (by rw [ht1]; decide) (by rw [ht1]; decide) (by rw [ht1]; simp [Act.eval]; first | exact fill2 A7 A8 n c7 n c8 | rfl) ?_)
      | (refine wp_buildSlice 94 23 2 _ rfl #[.slice A7 n c7, .slice A8 n c8] jS (.slice none 0 0) Try.underlying94 hjs ht0 (by rw [ht1]; decide) (by rw [ht1]; decide) (by rw [ht1]; simp [Act.eval]; first | exact fill2 A7 A8 n c7 n c8 | rfl) ?_))
    refine HAi.out.mono ?_
    rintro e V14 ⟨rfl, hb⟩
    have B14 := Lib.hid ((BW.out.trans ((below_new V13 _).mono BW.out.size)).trans hb)
    clear hb HAi BW hjs ht0 ht1 ht2
    go_wp2_with fail
    refine (HL.out V14 B14.out).mono ?_
    rintro e V15 ⟨A15, z15, c15, rfl, t15, hb⟩
    have B15 := Lib.hid (B14.out.trans (hb.mono B14.out.size))
    have R15 := Lib.hid t15.reads
    clear hb t15
    go_wp2_with fail
    refine (GL.out V15 B15.out).mono ?_
    rintro e V16 ⟨A16, z16, c16, rfl, t16, hb⟩
    have B16 := Lib.hid (B15.out.trans (hb.mono B15.out.size))
    have HS16 := Lib.hid (GSM.out El A15 A16 c15 c16 z15 z16 V16 (R15.out.below hb) t16.reads)
    clear hb t16 R15
    go_wp2_with fail
    refine HS16.out.mono ?_
    rintro e V17 ⟨rfl, hb⟩
    have B17 := Lib.hid (B16.out.trans (hb.mono B16.out.size))
    clear hb HS16
    go_wp2_with fail
    refine (HU.out V17 B17.out).mono ?_
    rintro e V18 ⟨A18, z18, c18, rfl, t18, hb⟩
    have B18 := Lib.hid (B17.out.trans (hb.mono B17.out.size))
    have R18 := Lib.hid t18.reads
    clear hb t18
    go_wp2_with fail
    refine (GU.out V18 B18.out).mono ?_
    rintro e V19 ⟨A19, z19, c19, rfl, t19, hb⟩
    have B19 := Lib.hid (B18.out.trans (hb.mono B18.out.size))
    have HS19 := Lib.hid (GSM.out Eu A18 A19 c18 c19 z18 z19 V19 (R18.out.below hb) t19.reads)
    clear hb t19 R18
    go_wp2_with fail
    refine HS19.out.mono ?_
    rintro e V20 ⟨rfl, hb⟩
    have B20 := Lib.hid (B19.out.trans (hb.mono B19.out.size))
    clear hb HS19
    go_wp2_with fail
    refine (HO.out V20 B20.out).mono ?_
    rintro e V21 ⟨A21, c21, rfl, t21, hb⟩
    have B21 := Lib.hid (B20.out.trans (hb.mono B20.out.size))
    have R21 := Lib.hid (Reads.of_own t21.own)
    clear hb t21
    go_wp2_with fail
    refine (GO.out V21 B21.out).mono ?_
    rintro e V22 ⟨A22, c22, rfl, t22, hb⟩
    have B22 := Lib.hid (B21.out.trans (hb.mono B21.out.size))
    have HS22 := Lib.hid (GSI.out A21 A22 c21 c22 V22 ((R21.out.below hb).more hb.size) (Reads.of_own t22.own))
    clear hb t22 R21
    go_wp2_with fail
    refine HS22.out.mono ?_
    rintro e V23 ⟨rfl, hb⟩
    have B23 := Lib.hid (B22.out.trans (hb.mono B22.out.size))
    clear hb HS22
    go_wp2
    go_ret
    exact ⟨rfl, B23.out⟩
end Go.Proofs.Ytibjkmjccelcaaa
