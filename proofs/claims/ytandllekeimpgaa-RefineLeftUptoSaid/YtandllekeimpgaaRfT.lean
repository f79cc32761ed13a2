/- Layer 11: what is left, as the document does, whatever is handed in: the law's walk. -/
import Derived.Test.YtandllekeimpgaaRfS
import Derived.Test.YtandllekeimpgaaRf5
import Derived.Test.YtandllekeimpgaaApB
import Derived.Test.YtandllekeimpgaaMX21
import Derived.Great.BuildSlice
import Derived.Deep.DeepCutAuto
import Derived.Deep.CutBlock
import Derived.Deep.RegionHeld3
import Derived.Deep.RegionLaw
namespace Go.Proofs.Ytandllekeimpgaa
open Go.RowKit Fl Ieee
set_option maxRecDepth 20000
attribute [local go_sem] run_store_float run_store_complex
/-- A matrix in memory of its own, its numbers just these. -/
def RetMw (r c : Int) (l : List C) (w : World) (e : Ending) (w' : World) : Prop := ∃ s, e = .returned (mval r c s) ∧ w'.ownsRow w.heap.size 45 1 s l.length (nums l) ∧ Below w.heap.size w w'
set_option maxHeartbeats 2000000 in
theorem Matrix11_c (r c : Int) (A : Option Addr) (l : List C) (cap : Nat) (w : World) (hl : l.length ≤ 1000000) (hr : Reads w w.heap.size A (zcells l)) :
    Calls Try.prog 9 #[mval r c (.slice A l.length cap)] w (RetMw r c l w) := by
  obtain ⟨W0, hW0⟩ : ∃ W0, W0 = (w.alloc (.cells #[.int .i64 r, .int .i64 c, .slice A l.length cap] 24)).alloc (.cells #[.int .i64 0, .int .i64 0, .slice none 0 0] 28) := ⟨_, rfl⟩
  have hb0 : Below w.heap.size w W0 := by rw [hW0]; exact ((Below.refl _ w).new (Nat.le_refl _) _).new (Nat.le_refl _) _
  have hs0 : W0.heap.size = w.heap.size + 2 := by rw [hW0]; simp
  have hF : ∀ V, Below W0.heap.size W0 V → Box V w.heap.size r c (.slice A l.length cap) ∧ V.heap[w.heap.size + 1]? = some (.cells #[.int .i64 0, .int .i64 0, .slice none 0 0] 28) ∧ Below w.heap.size w V ∧ w.heap.size + 2 ≤ V.heap.size := fun V hV => by
    rw [hW0] at hV; exact frame1 hV
  have hN : ∀ V, Below W0.heap.size W0 V → Calls Try.prog 10 #[.slice A l.length cap] V (fun e w' => ∃ sA sn sc, e = .returned (.slice sA sn sc) ∧ w'.ownsRow W0.heap.size 45 1 (.slice sA sn sc) l.length (nums l) ∧ Below W0.heap.size W0 w') := fun V hV => by
    refine (Numbers_c A l cap V hl ((hr.below (hb0.trans (hV.mono hb0.size))).more (Nat.le_trans hb0.size hV.size))).mono ?_
    rintro e w' ⟨s, rfl, hown, hb⟩
    obtain ⟨sA, sn, sc, rfl, -⟩ := slice_of_own hown
    exact ⟨sA, sn, sc, rfl, own_base hown hV.size, hV.trans (hb.mono hV.size)⟩
  have HF := Lib.hid hF
  have HN := Lib.hid hN
  have HS := Lib.hid hs0
  obtain ⟨⟨b0, b1, b2⟩, hrow, -, -⟩ := hF W0 (Below.refl _ _)
  obtain ⟨r0, r1, r2, fr⟩ := box3 hrow
  have f0 := fr 0
  have f1 := fr 1
  have f2 := fr 2
  have hbd : Below W0.heap.size W0 W0.drew := (Below.refl _ W0).drew
  clear hl hr hb0 hs0 hF hN hrow fr
  go_enter Try.func9, Try.ntmps9
  go_wp2
  rw [← hW0]
  clear hW0
  go_region_law (first
    | (go_simp; go_at_call 10; (with_reducible refine (HN.out _ ?_).mono ?_); assumption; (rintro e V ⟨sA, sn, sc, rfl, hown, hV⟩); have hu := HF.out V hV; obtain ⟨⟨u0, u1, u2⟩, hrw, -, -⟩ := hu; obtain ⟨v0, v1, v2, hfv⟩ := box3 hrw; have v3 := hfv 0; have v4 := hfv 1; have v5 := hfv 2))
  all_goals
    have HO := Lib.hid hown
    have HV := Lib.hid (HF.out V hV).2.2.1
    clear hown hV hbd u0 u1 u2 hrw hfv
    go_wp2
    obtain ⟨q0, q1, q2⟩ := set3 (u := .int .i64 r) (v := .int .i64 c) (t := .slice sA sn sc) v0 v1 v2
    refine bodyPost_ret (v := mval r c (.slice sA sn sc)) (by simp [results, Try.results9, go_sem, q0, q1, q2]) rfl ?_
    exact ⟨_, rfl, own_base (ownsRow_setCell_below (ownsRow_setCell_below (ownsRow_setCell_below HO.out (by show w.heap.size + 1 < W0.heap.size; have := HS.out; omega) _) (by show w.heap.size + 1 < W0.heap.size; have := HS.out; omega) _) (by show w.heap.size + 1 < W0.heap.size; have := HS.out; omega) _) (by have := HS.out; omega),
      ((HV.out.setCell (by show w.heap.size ≤ w.heap.size + 1; omega) _).setCell (by show w.heap.size ≤ w.heap.size + 1; omega) _).setCell (by show w.heap.size ≤ w.heap.size + 1; omega) _⟩
/-- Lists of their own, kept while the world grows: where, what, capacity, from, to. -/
structure LsK (w W : World) (ls : List (Option Addr × List C × Nat × Nat × Nat)) : Prop where
  bel : Below w.heap.size w W
  l : ∀ t ∈ ls, Lst W t.2.2.2.1 t.2.2.2.2 t.1 t.2.1 t.2.2.1
namespace LsK
variable {w W V : World} {ls : List (Option Addr × List C × Nat × Nat × Nat)}
theorem below (h : LsK w W ls) (hb : Below W.heap.size W V) : LsK w V ls := ⟨h.bel.trans (hb.mono h.bel.size), fun t ht => (h.l t ht).below hb⟩
theorem add {A : Option Addr} {L : List C} {c lo hi : Nat} (h : LsK w W ls) (hL : Lst W lo hi A L c) : LsK w W ((A, L, c, lo, hi) :: ls) := ⟨h.bel, fun t ht => by
  rcases List.mem_cons.1 ht with rfl | ht
  · exact hL
  · exact h.l t ht⟩
theorem get {A : Option Addr} {L : List C} {c lo hi : Nat} (h : LsK w W ls) (i : Nat) (hi' : ls[i]? = some (A, L, c, lo, hi)) : Lst W lo hi A L c := h.l (A, L, c, lo, hi) (List.mem_of_getElem? hi')
theorem over {g : Nat} (h : LsK w W ls) (hg : W.grownBy V (some g)) (h0 : w.heap.size ≤ g) (hlo : ∀ t ∈ ls, g < t.2.2.2.1) : LsK w V ls :=
  ⟨h.bel.grown hg h.bel.size (fun j hj => by injection hj with hj; rw [← hj]; exact h0), fun t ht => (h.l t ht).over hg (.inr (hlo t ht))⟩
end LsK
structure KR9 (W : World) (rows : List (Nat × Obj)) : Prop where
  row : ∀ t ∈ rows, W.heap[t.1]? = some t.2
namespace KR9
variable {W V : World} {rows : List (Nat × Obj)}
theorem below (h : KR9 W rows) (hb : Below W.heap.size W V) : KR9 V rows := ⟨fun t ht => row_keep hb (h.row t ht)⟩
theorem grown {g : Nat} (h : KR9 W rows) (hg : W.grownBy V (some g)) (hn : ∀ t ∈ rows, t.1 ≠ g) : KR9 V rows := ⟨fun t ht => by
  rw [hg.block t.1 (row_lt (h.row t ht)) (fun e => hn t ht (by injection e))]; exact h.row t ht⟩
theorem add {b : Nat} {o : Obj} (h : KR9 W rows) (ho : W.heap[b]? = some o) : KR9 W ((b, o) :: rows) := ⟨fun t ht => by
  rcases List.mem_cons.1 ht with rfl | ht
  · exact ho
  · exact h.row t ht⟩
theorem get {b : Nat} {o : Obj} (h : KR9 W rows) (i : Nat) (hi : rows[i]? = some (b, o)) : W.heap[b]? = some o := h.row (b, o) (List.mem_of_getElem? hi)
end KR9
theorem LsK.sub {w W : World} {ls ls' : List (Option Addr × List C × Nat × Nat × Nat)} (h : LsK w W ls) (hs : ∀ t ∈ ls', t ∈ ls) : LsK w W ls' := ⟨h.bel, fun t ht => h.l t (hs t ht)⟩
/-- List t is written over: the others stay. -/
theorem LsK.over2 {w W V : World} {ls : List (Option Addr × List C × Nat × Nat × Nat)} {g : Nat} (h : LsK w W ls) (hg : W.grownBy V (some g)) (h0 : w.heap.size ≤ g) (hlo : ∀ t ∈ ls, t.2.2.2.2 ≤ g ∨ g < t.2.2.2.1) : LsK w V ls :=
  ⟨h.bel.grown hg h.bel.size (fun j hj => by injection hj with hj; rw [← hj]; exact h0), fun t ht => (h.l t ht).over hg (hlo t ht)⟩
/-- A list of one's own and its error. -/
def RetLt (L : List C) (er : Int) (w : World) (e : Ending) (w' : World) : Prop :=
  ∃ A c, e = .returned (.tuple #[.slice A L.length c, .int .i64 er]) ∧ Lst w' w.heap.size w'.heap.size A L c ∧ Below w.heap.size w w'
theorem lt_of {P : Program} {f : FuncId} {args : Array Value} {w : World} {L : List C} {er : Int} (h : Calls P f args w (RetLf L er w)) : Calls P f args w (RetLt L er w) := by
  refine h.mono ?_
  rintro e w' ⟨s, rfl, hown, hb⟩
  obtain ⟨A, m, c, rfl, rfl⟩ := slice_of_own hown
  exact ⟨A, c, rfl, OwnIn.of hown, hb⟩
theorem left_cn {r c : Int} {m m' x x' b b' : List C} (hm : m'.map cnC = m.map cnC) (hx : x'.map cnC = x.map cnC) (hb : b'.map cnC = b.map cnC) : leftE r c m' x' b' = leftE r c m x b ∧ leftR r c m' x' b' = leftR r c m x b := by
  have am : m'.all pFinite = m.all pFinite := (all_fin_cn hm).trans (all_fin_cn rfl).symm
  have ax : x'.all pFinite = x.all pFinite := (all_fin_cn hx).trans (all_fin_cn rfl).symm
  have ab : b'.all pFinite = b.all pFinite := (all_fin_cn hb).trans (all_fin_cn rfl).symm
  have lm : m'.length = m.length := by have := congrArg List.length hm; simpa using this
  have lx : x'.length = x.length := by have := congrArg List.length hx; simpa using this
  have lb : b'.length = b.length := by have := congrArg List.length hb; simpa using this
  have hsh : shape11 r c m' x' b' = shape11 r c m x b := by unfold shape11; rw [lm, lx, lb]
  have hnu : num11 m' x' b' = num11 m x b := by unfold num11; rw [am, ax, ab]
  have hl : num11 m x b = true → leftL r.toNat c.toNat m' x' b' = leftL r.toNat c.toNat m x b := fun h => by
    unfold num11 at h
    simp only [Bool.and_eq_true] at h
    obtain ⟨⟨h1, h2⟩, h3⟩ := h
    have em : m' = m := (fin_exact hm (by rw [am]; exact h1)).trans (fin_exact (zs := m) rfl h1).symm
    have ex : x' = x := (fin_exact hx (by rw [ax]; exact h2)).trans (fin_exact (zs := x) rfl h2).symm
    have eb : b' = b := (fin_exact hb (by rw [ab]; exact h3)).trans (fin_exact (zs := b) rfl h3).symm
    rw [em, ex, eb]
  have he : leftE r c m' x' b' = leftE r c m x b := by
    unfold leftE
    rw [hsh, hnu]
    by_cases h1 : shape11 r c m x b = true
    · by_cases h2 : num11 m x b = true
      · rw [hl h2]
      · rw [if_neg h2, if_neg h2]
    · rw [if_neg h1, if_neg h1]
  refine ⟨he, ?_⟩
  unfold leftR
  rw [he]
  by_cases h0 : leftE r c m x b = 0
  · have hn : num11 m x b = true := by
      unfold leftE at h0
      by_cases h1 : shape11 r c m x b = true
      · rw [if_pos h1] at h0
        by_cases h2 : num11 m x b = true
        · exact h2
        · rw [if_neg h2] at h0; cases h0
      · rw [if_neg h1] at h0; cases h0
    rw [if_pos h0, if_pos h0, hl hn]
  · rw [if_neg h0, if_neg h0]
theorem left_len {r c : Int} {m x b : List C} : (leftR r c m x b).length ≤ 64 := by
  unfold leftR
  split
  · rename_i h0
    have h1 : shape11 r c m x b = true := by
      unfold leftE at h0
      by_cases h1 : shape11 r c m x b = true
      · exact h1
      · rw [if_neg h1] at h0; cases h0
    unfold shape11 at h1
    simp only [Bool.and_eq_true] at h1
    have h2 := okM_iff.1 h1.1.1
    unfold leftL
    rw [List.length_map, List.length_range]
    omega
  · exact Nat.zero_le _
theorem apt_two {q : Nat} {Ss : List Value} {lo hi : Nat → Nat} (h : ∀ (k : Nat) (S : Value) (b : Nat), Ss[k]? = some S → S.ownBlock = some b → lo k ≤ b ∧ b < hi k) (hd : ∀ j k, j < Ss.length → k < Ss.length → j ≠ k → hi j ≤ lo k ∨ hi k ≤ lo j) (hq : ∀ k, k < Ss.length → hi k ≤ q) : Apt q Ss where
  apart j k S S' h1 h2 hjk := by
    cases hb : S.ownBlock with
    | none => exact .inl rfl
    | some b =>
      refine .inr fun e => ?_
      have a1 := h j S b h1 hb
      have a2 := h k S' b h2 e.symm
      have := hd j k (lt_of_some h1) (lt_of_some h2) hjk
      omega
  notq k S h1 e := by
    have a1 := h k S q h1 e
    have := hq k (lt_of_some h1)
    omega
/-- Five lists: the last three below the first two. -/
theorem apt5' {q : Nat} {S0 S1 S2 S3 S4 : Value} {a0 b0 a1 b1 a2 b2 a3 b3 a4 b4 : Nat} (h0 : ∀ b, S0.ownBlock = some b → a0 ≤ b ∧ b < b0) (h1 : ∀ b, S1.ownBlock = some b → a1 ≤ b ∧ b < b1) (h2 : ∀ b, S2.ownBlock = some b → a2 ≤ b ∧ b < b2)
    (h3 : ∀ b, S3.ownBlock = some b → a3 ≤ b ∧ b < b3) (h4 : ∀ b, S4.ownBlock = some b → a4 ≤ b ∧ b < b4) (e0 : b2 ≤ a3) (e1 : b3 ≤ a4) (e2 : b4 ≤ a0) (e3 : b0 ≤ a1) (e4 : b1 ≤ q) (f0 : a0 ≤ b0) (f1 : a1 ≤ b1) (_f2 : a2 ≤ b2) (f3 : a3 ≤ b3) (f4 : a4 ≤ b4) : Apt q [S0, S1, S2, S3, S4] := by
  refine apt_two (lo := fun i => match i with | 0 => a0 | 1 => a1 | 2 => a2 | 3 => a3 | _ => a4) (hi := fun i => match i with | 0 => b0 | 1 => b1 | 2 => b2 | 3 => b3 | _ => b4) (fun k S b hS hb => ?_) (fun j k hj hk hjk => ?_) (fun k hk => ?_)
  · match k, hS with
    | 0, hS => injection hS with hS; subst hS; exact h0 b hb
    | 1, hS => injection hS with hS; subst hS; exact h1 b hb
    | 2, hS => injection hS with hS; subst hS; exact h2 b hb
    | 3, hS => injection hS with hS; subst hS; exact h3 b hb
    | 4, hS => injection hS with hS; subst hS; exact h4 b hb
    | n + 5, hS => cases hS
  · have hj' : j = 0 ∨ j = 1 ∨ j = 2 ∨ j = 3 ∨ j = 4 := by simp at hj; omega
    have hk' : k = 0 ∨ k = 1 ∨ k = 2 ∨ k = 3 ∨ k = 4 := by simp at hk; omega
    rcases hj' with rfl | rfl | rfl | rfl | rfl <;> rcases hk' with rfl | rfl | rfl | rfl | rfl <;> first | exact absurd rfl hjk | (simp only; omega)
  · have hk' : k = 0 ∨ k = 1 ∨ k = 2 ∨ k = 3 ∨ k = 4 := by simp at hk; omega
    rcases hk' with rfl | rfl | rfl | rfl | rfl <;> (simp only; omega)
set_option maxHeartbeats 16000000 in
theorem LeftLaw_small (R0 C0 : Int) (A B D : Option Addr) (l x b : List C) (k0 k1 k2 : Nat) (w : World) (hl : l.length ≤ 600) (hx : x.length ≤ 1000000) (hb : b.length ≤ 1000000) (hr0 : Reads w w.heap.size A (zcells l)) (hr1 : Reads w w.heap.size B (zcells x)) (hr2 : Reads w w.heap.size D (zcells b)) (lt0 : ltCs l) (lt1 : ltCs x) (lt2 : ltCs b) :
    Calls Try.prog 3 #[mval R0 C0 (.slice A l.length k0), .slice B x.length k1, .slice D b.length k2] w (RetBB true w) := by
  have hl6 : ¬ (600 : Int) < (l.length : Int) := by omega
  have HLn := Lib.hid (And.intro hl (And.intro hx hb))
  have HLt := Lib.hid (And.intro lt0 (And.intro lt1 lt2))
  have HR0 := Lib.hid hr0
  have HR1 := Lib.hid hr1
  have HR2 := Lib.hid hr2
  obtain ⟨er, her⟩ : ∃ er, er = leftE R0 C0 l x b := ⟨_, rfl⟩
  obtain ⟨L, hL⟩ : ∃ L, L = leftR R0 C0 l x b := ⟨_, rfl⟩
  have HEr := Lib.hid (And.intro her hL)
  have HLL := Lib.hid (show L.length ≤ 64 by rw [hL]; exact left_len)
  clear hl hx hb lt0 lt1 lt2 hr0 hr1 hr2 her hL
  go_enter Try.func3, Try.ntmps3
  go_wp2_with fail
  refine (lives_c _).mono ?_
  rintro e W1 ⟨rfl, hb⟩
  have hbn := below_new w (.cells #[.int .i64 R0, .int .i64 C0, .slice A l.length k0] 24)
  have B1 := Lib.hid (hbn.trans (hb.mono hbn.size))
  have M1 := Lib.hid (row_keep hb (heap_alloc_new w (.cells #[.int .i64 R0, .int .i64 C0, .slice A l.length k0] 24)))
  clear hb hbn
  obtain ⟨x0, x1, x2, -⟩ := box3 M1.out
  go_wp2_with fail
  refine (Matrix11_c R0 C0 A l k0 W1 (by have := HLn.out.1; omega) ((HR0.out.below B1.out).more B1.out.size)).mono ?_
  rintro e W2 ⟨s, rfl, hown, hb⟩
  obtain ⟨A2, c2, rfl, hrd, hle, hno⟩ := own_reads hown
  have B2 := Lib.hid (B1.out.trans (hb.mono B1.out.size))
  have M2 := Lib.hid (row_keep hb M1.out)
  have V2 := Lib.hid (show Lies W2 A2 l c2 from ⟨hrd, hno, hle, HLt.out.1⟩)
  clear hown hrd hle hno hb B1 M1 x0 x1 x2
  go_wp2_with fail
  refine (Lentq_c R0 C0 A2 l c2 W2 (by have := HLn.out.1; omega) V2.out).mono ?_
  rintro e W3 ⟨g, zt, zf, capf, rfl, hzt, hlt, hown, hzf, hlst, hb⟩
  have hbn := below_new W3 (.cells #[.int .i64 R0, .int .i64 C0, .slice (some ⟨g, 0, none⟩) zt.length capf] 28)
  have hb2 := hb.trans (hbn.mono hb.size)
  have B3 := Lib.hid (B2.out.trans (hb2.mono B2.out.size))
  have M3 := Lib.hid (row_keep hb2 M2.out)
  have X3 := Lib.hid (heap_alloc_new W3 (.cells #[.int .i64 R0, .int .i64 C0, .slice (some ⟨g, 0, none⟩) zt.length capf] 28))
  have K3 := Lib.hid ((show LsK w _ [] from ⟨B3.out, fun _ h => (List.not_mem_nil h).elim⟩).add (hlst.below hbn))
  have HZt := Lib.hid (And.intro hzt hlt)
  have HZf := Lib.hid hzf
  have HTk := Lib.hid (own_below hown hbn)
  have S3 := Lib.hid (show w.heap.size ≤ W2.heap.size ∧ W2.heap.size ≤ W3.heap.size from ⟨B2.out.size, hb.size⟩)
  clear hzt hlt hown hzf hlst hb hbn hb2 B2 M2 V2
  obtain ⟨W4, hW4⟩ : ∃ W4, W4 = W3.alloc (.cells #[.int .i64 R0, .int .i64 C0, .slice (some ⟨g, 0, none⟩) zt.length capf] 28) := ⟨_, rfl⟩
  obtain ⟨q, hq⟩ : ∃ q, q = W3.heap.size := ⟨_, rfl⟩
  have S4 := Lib.hid (show q = W3.heap.size ∧ W4.heap.size = q + 1 from ⟨hq, by rw [hW4, hq]; simp⟩)
  have HW4 := Lib.hid (And.intro hW4 hq)
  clear hW4 hq
  go_upto_region 6 with fail
  rw [← HW4.out.1, ← HW4.out.2]
  rw [← HW4.out.1] at B3 M3 X3 K3 HTk
  rw [← HW4.out.2] at X3
  clear HW4
  go_wp2_with fail
  refine (n1_of (Numbers_c B x k1 W4 HLn.out.2.1 ((HR1.out.below B3.out).more B3.out.size))).mono ?_
  rintro e W5 ⟨xA, xc, rfl, hL, hb⟩
  have B5 := Lib.hid (B3.out.trans (hb.mono B3.out.size))
  have M5 := Lib.hid (row_keep hb M3.out)
  have X5 := Lib.hid (row_keep hb X3.out)
  have K5 := Lib.hid ((K3.out.below hb).add hL)
  have T5 := Lib.hid (own_below HTk.out hb)
  have S5 := Lib.hid (show W4.heap.size ≤ W5.heap.size from hb.size)
  clear hL hb B3 M3 X3 K3 HTk HR1
  go_wp2_with fail
  refine (n1_of (Numbers_c D b k2 W5 HLn.out.2.2 ((HR2.out.below B5.out).more B5.out.size))).mono ?_
  rintro e W6 ⟨bA, bc, rfl, hL, hb⟩
  have B6 := Lib.hid (B5.out.trans (hb.mono B5.out.size))
  have M6 := Lib.hid (row_keep hb M5.out)
  have X6 := Lib.hid (row_keep hb X5.out)
  have K6 := Lib.hid ((K5.out.below hb).add hL)
  have T6 := Lib.hid (own_below T5.out hb)
  have S6 := Lib.hid (show W5.heap.size ≤ W6.heap.size from hb.size)
  clear hL hb B5 M5 X5 K5 T5 HR2
  go_wp2_with fail
  refine (lg_of (Lent_c xA x xc W6 HLn.out.2.1 HLt.out.2.1 (K6.out.get 1 rfl).none (K6.out.get 1 rfl).reads)).mono ?_
  rintro e W7 ⟨gq, zq, qc, rfl, hzq, hlq, hL, hb⟩
  have B7 := Lib.hid (B6.out.trans (hb.mono B6.out.size))
  have M7 := Lib.hid (row_keep hb M6.out)
  have X7 := Lib.hid (row_keep hb X6.out)
  have K7 := Lib.hid ((K6.out.below hb).add hL)
  have T7 := Lib.hid (own_below T6.out hb)
  have S7 := Lib.hid (show W6.heap.size ≤ W7.heap.size from hb.size)
  have HZq := Lib.hid (And.intro hzq hlq)
  clear hL hb hzq hlq B6 M6 X6 K6 T6
  go_wp2_with fail
  refine (lg_of (Lent_c bA b bc W7 HLn.out.2.2 HLt.out.2.2 (K7.out.get 1 rfl).none (K7.out.get 1 rfl).reads)).mono ?_
  rintro e W8 ⟨gr, zr, rc, rfl, hzr, hlr, hL, hb⟩
  have B8 := Lib.hid (B7.out.trans (hb.mono B7.out.size))
  have M8 := Lib.hid (row_keep hb M7.out)
  have X8 := Lib.hid (row_keep hb X7.out)
  have K8 := Lib.hid ((K7.out.below hb).add hL)
  have T8 := Lib.hid (own_below T7.out hb)
  have S8 := Lib.hid (show W7.heap.size ≤ W8.heap.size from hb.size)
  have HZr := Lib.hid (And.intro hzr hlr)
  clear hL hb hzr hlr B7 M7 X7 K7 T7
  have hfq := (K8.out.get 1 rfl).fits
  have hfr := (K8.out.get 0 rfl).fits
  have hnq := lent_len HZq.out.1
  have hnr := lent_len HZr.out.1
  have HLf := Lib.hid (fun V (hV : Below W8.heap.size W8 V) => (show Calls Try.prog 12 #[mval R0 C0 (.slice (some ⟨g, 0, none⟩) zt.length capf), .slice (some ⟨gq, 0, none⟩) x.length qc, .slice (some ⟨gr, 0, none⟩) b.length rc] V (RetLt L er V) from by
    have e1 : (zq.take x.length).length = x.length := by rw [List.length_take]; omega
    have e2 : (zr.take b.length).length = b.length := by rw [List.length_take]; omega
    have hcn := left_cn (r := R0) (c := C0) HZt.out.1 (lent_take HZq.out.1) (lent_take HZr.out.1)
    have h := Left_c R0 C0 (some ⟨g, 0, none⟩) (some ⟨gq, 0, none⟩) (some ⟨gr, 0, none⟩) zt (zq.take x.length) (zr.take b.length) capf qc rc V (own_slice T8.out).2.1 (by omega) (by omega) HZt.out.2
      (fun z hz => HZq.out.2 z (List.mem_of_mem_take hz)) (fun z hz => HZr.out.2 z (List.mem_of_mem_take hz)) (Reads.of_own (own_below T8.out hV))
      (Reads.of_own (own_take (((K8.out.get 1 rfl).below hV).own (Nat.le_refl _)) (by omega))) (Reads.of_own (own_take (((K8.out.get 0 rfl).below hV).own (Nat.le_refl _)) (by omega)))
    rw [e1, e2, hcn.1, hcn.2, ← HEr.out.1, ← HEr.out.2] at h
    exact lt_of h))
  have hsq : (x.length : Int) ≤ (qc : Int) := by omega
  have hsr : (b.length : Int) ≤ (rc : Int) := by omega
  have HKP := Lib.hid (fun V (hV : Below W8.heap.size W8 V) => (show V.cell? ⟨q, 0, none⟩ = some (.int .i64 R0) ∧ V.cell? ⟨q, 1, none⟩ = some (.int .i64 C0) ∧ V.cell? ⟨q, 2, none⟩ = some (.slice (some ⟨g, 0, none⟩) zt.length capf) from by
    obtain ⟨y0, y1, y2, -⟩ := box3 (row_keep hV X8.out)
    exact ⟨y0, y1, y2⟩))
  clear hfq hfr hnq hnr
  go_wp2_with fail
  go_cut [13, 14] (fun s13 s14 wx => ∃ (A : Option Addr) (c : Nat), s13 = .slice A L.length c ∧ s14 = .int .i64 er ∧ Lst wx W8.heap.size wx.heap.size A L c ∧ Below W8.heap.size W8 wx)
  case first =>
    go_region_held3 (fun V => V.cell? ⟨q, 0, none⟩ = some (.int .i64 R0) ∧ V.cell? ⟨q, 1, none⟩ = some (.int .i64 C0) ∧ V.cell? ⟨q, 2, none⟩ = some (.slice (some ⟨g, 0, none⟩) zt.length capf))
      (with_reducible refine HKP.out _ ?_; (repeat (first | with_reducible assumption | with_reducible refine Below.drew ?_ | with_reducible exact Below.refl _ _)))
      (first
      | (go_at_call 12; (with_reducible refine (HLf.out _ ?_).mono ?_); (repeat (first | with_reducible assumption | with_reducible refine Below.drew ?_ | with_reducible exact Below.refl _ _)); (rintro e V ⟨tA, tc, rfl, hL, hb⟩); (have hV : Below W8.heap.size W8 V := Below.trans (by repeat (first | with_reducible assumption | with_reducible refine Below.drew ?_ | with_reducible exact Below.refl _ _)) (Below.mono hb (by first | exact Nat.le_refl _)))))
    all_goals
      go_wp2_with fail
      go_meet
      exact ⟨tA, tc, rfl, rfl, Lst.weak hL (by first | exact Nat.le_refl _), hV⟩
  case rest =>
  obtain ⟨oA, oc, rfl, rfl, hL, hb⟩ := hcut
  rename World => W9
  have B89 := Lib.hid hb
  have K9 := Lib.hid ((K8.out.below hb).add hL)
  have S9 := Lib.hid (show W8.heap.size ≤ W9.heap.size from hb.size)
  have HLg := Lib.hid (fun V (hV : Below W9.heap.size W9 V) => HLf.out V (B89.out.trans (hV.mono B89.out.size)))
  have HKQ := Lib.hid (fun V (hV : Below W9.heap.size W9 V) => HKP.out V (B89.out.trans (hV.mono B89.out.size)))
  clear hL hb HLf HKP
  go_wp2_with fail
  go_cut [15, 16] (fun s13 s14 wx => ∃ (A : Option Addr) (c : Nat), s13 = .slice A L.length c ∧ s14 = .int .i64 er ∧ Lst wx W9.heap.size wx.heap.size A L c ∧ Below W9.heap.size W9 wx)
  case first =>
    go_region_held3 (fun V => V.cell? ⟨q, 0, none⟩ = some (.int .i64 R0) ∧ V.cell? ⟨q, 1, none⟩ = some (.int .i64 C0) ∧ V.cell? ⟨q, 2, none⟩ = some (.slice (some ⟨g, 0, none⟩) zt.length capf))
      (with_reducible refine HKQ.out _ ?_; (repeat (first | with_reducible assumption | with_reducible refine Below.drew ?_ | with_reducible exact Below.refl _ _)))
      (first
      | (go_at_call 12; (with_reducible refine (HLg.out _ ?_).mono ?_); (repeat (first | with_reducible assumption | with_reducible refine Below.drew ?_ | with_reducible exact Below.refl _ _)); (rintro e V ⟨tA, tc, rfl, hL, hb⟩); (have hV : Below W9.heap.size W9 V := Below.trans (by repeat (first | with_reducible assumption | with_reducible refine Below.drew ?_ | with_reducible exact Below.refl _ _)) (Below.mono hb (by first | exact Nat.le_refl _)))))
    all_goals
      go_wp2_with fail
      go_meet
      exact ⟨tA, tc, rfl, rfl, Lst.weak hL (by first | exact Nat.le_refl _), hV⟩
  case rest =>
  obtain ⟨pA, pc, rfl, rfl, hL, hb⟩ := hcut
  rename World => W10
  have B8a := Lib.hid (B89.out.trans (hb.mono B89.out.size))
  have Ka := Lib.hid ((K9.out.below hb).add hL)
  have Sa := Lib.hid (show W9.heap.size ≤ W10.heap.size from hb.size)
  clear hL hb HLg HKQ B89 K9 X8 T8
  have Ba := Lib.hid (B8.out.trans (B8a.out.mono B8.out.size))
  have Ma := Lib.hid (row_keep B8a.out M8.out)
  clear B8a B8 M8 K8 hsq hsr
  obtain ⟨x0, x1, x2, -⟩ := box3 Ma.out
  go_wp2_with fail
  refine (Matrix11_c R0 C0 A l k0 W10 (by have := HLn.out.1; omega) ((HR0.out.below Ba.out).more Ba.out.size)).mono ?_
  rintro e W11 ⟨s, rfl, hown, hb⟩
  obtain ⟨A3, c3, rfl, hrd, hle, hno⟩ := own_reads hown
  have Bb := Lib.hid (Ba.out.trans (hb.mono Ba.out.size))
  have Mb := Lib.hid (row_keep hb Ma.out)
  have Vb := Lib.hid (show Lies W11 A3 l c3 from ⟨hrd, hno, hle, HLt.out.1⟩)
  have Kb := Lib.hid (Ka.out.below hb)
  have Sb := Lib.hid (show W10.heap.size ≤ W11.heap.size from hb.size)
  clear hown hrd hle hno hb Ba Ma Ka x0 x1 x2
  have HRf := Lib.hid (show Calls Try.prog 13 #[mval R0 C0 (.slice A3 l.length c3), .slice xA x.length xc, .slice bA b.length bc] W11 (RetLt L er W11) from by
    have h := RLeft_c R0 C0 A3 xA bA l x b c3 xc bc W11 Vb.out.fits (Kb.out.get 5 rfl).fits (Kb.out.get 4 rfl).fits HLt.out.1 HLt.out.2.1 HLt.out.2.2 Vb.out.reads (Kb.out.get 5 rfl).reads (Kb.out.get 4 rfl).reads
    rw [← HEr.out.1, ← HEr.out.2] at h
    exact lt_of h)
  go_wp2_with fail
  refine HRf.out.mono ?_
  rintro e W12 ⟨wA, wc, rfl, hL, hb⟩
  have Bc := Lib.hid (Bb.out.trans (hb.mono Bb.out.size))
  have Mc := Lib.hid (row_keep hb Mb.out)
  have Kc := Lib.hid ((Kb.out.below hb).add hL)
  have Sc := Lib.hid (show W11.heap.size ≤ W12.heap.size from hb.size)
  clear hL hb Bb Mb Kb Vb HRf
  obtain ⟨x0, x1, x2, -⟩ := box3 Mc.out
  go_wp2_with fail
  refine (Matrix11_c R0 C0 A l k0 W12 (by have := HLn.out.1; omega) ((HR0.out.below Bc.out).more Bc.out.size)).mono ?_
  rintro e W13 ⟨s, rfl, hown, hb⟩
  obtain ⟨A4, c4, rfl, hrd, hle, hno⟩ := own_reads hown
  have Bd := Lib.hid (Bc.out.trans (hb.mono Bc.out.size))
  have Kd := Lib.hid (Kc.out.below hb)
  have Sd := Lib.hid (show W12.heap.size ≤ W13.heap.size from hb.size)
  have HKp := Lib.hid (Kept_t A4 (some ⟨g, 0, none⟩) l zf c4 capf W13 (by have := HLn.out.1; omega) HLt.out.1 hno hrd HZf.out (Kd.out.get 7 rfl).reads)
  clear hown hrd hle hno hb Bc Kc Mc HR0 x0 x1 x2
  have hfd : ∀ W : World, (Instr.field 28 (mval R0 C0 (.slice A4 l.length c4)) 2).run Try.prog W = .ok (.slice A4 l.length c4) W := fun W => by kernel_rfl
  go_wp2_with fail
  refine HKp.out.mono ?_
  rintro e W14 ⟨rfl, hb⟩
  clear hfd
  have Be := Lib.hid (Bd.out.trans (hb.mono Bd.out.size))
  have Ke := Lib.hid (Kd.out.below hb)
  have Se := Lib.hid (show W13.heap.size ≤ W14.heap.size from hb.size)
  have HKq := Lib.hid (Kept_t xA (some ⟨gq, 0, none⟩) x zq xc qc W14 HLn.out.2.1 HLt.out.2.1 (Ke.out.get 6 rfl).none (Ke.out.get 6 rfl).reads HZq.out.1 (Ke.out.get 4 rfl).reads)
  clear hb Bd Kd HKp
  go_wp2_with fail
  refine HKq.out.mono ?_
  rintro e W15 ⟨rfl, hb⟩
  have Bf := Lib.hid (Be.out.trans (hb.mono Be.out.size))
  have Kf := Lib.hid (Ke.out.below hb)
  have Sf := Lib.hid (show W14.heap.size ≤ W15.heap.size from hb.size)
  have HKr := Lib.hid (Kept_t bA (some ⟨gr, 0, none⟩) b zr bc rc W15 HLn.out.2.2 HLt.out.2.2 (Kf.out.get 5 rfl).none (Kf.out.get 5 rfl).reads HZr.out.1 (Kf.out.get 3 rfl).reads)
  clear hb Be Ke HKq
  go_wp2_with fail
  refine HKr.out.mono ?_
  rintro e W16 ⟨rfl, hb⟩
  have Bg := Lib.hid (Bf.out.trans (hb.mono Bf.out.size))
  have Kg := Lib.hid (Kf.out.below hb)
  have Sg := Lib.hid (show W15.heap.size ≤ W16.heap.size from hb.size)
  clear hb Bf Kf HKr
  have SZ := Lib.hid (show w.heap.size ≤ W2.heap.size ∧ W2.heap.size ≤ W3.heap.size ∧ W3.heap.size ≤ W5.heap.size ∧ W5.heap.size ≤ W6.heap.size ∧ W6.heap.size ≤ W7.heap.size ∧ W7.heap.size ≤ W8.heap.size ∧ W8.heap.size ≤ W9.heap.size ∧ W9.heap.size ≤ W10.heap.size ∧ W10.heap.size ≤ W11.heap.size ∧ W10.heap.size ≤ W16.heap.size ∧ W3.heap.size ≤ W4.heap.size from by
    have h1 := S3.out; have h2 := S4.out; have h3 := S5.out; have h4 := S6.out; have h5 := S7.out; have h6 := S8.out; have h7 := S9.out; have h8 := Sa.out; have h9 := Sb.out; have ha := Sc.out; have hb := Sd.out; have hc := Se.out; have hd := Sf.out; have he := Sg.out
    omega)
  have HG := Lib.hid (show (W2.heap.size ≤ g ∧ g < W3.heap.size) ∧ (W6.heap.size ≤ gq ∧ gq < W7.heap.size) ∧ (W7.heap.size ≤ gr ∧ gr < W8.heap.size) from ⟨(Kg.out.get 7 rfl).blk g rfl, (Kg.out.get 4 rfl).blk gq rfl, (Kg.out.get 3 rfl).blk gr rfl⟩)
  clear S3 S4 S5 S6 S7 S8 S9 Sa Sb Sc Sd Se Sf Sg
  have HO1 := Lib.hid (Over_big W2.heap.size g capf zf.length zf W16 rfl (by have h1 := lent_len HZf.out; have h2 := HLn.out.1; omega) (Kg.out.get 7 rfl).1)
  go_wp2_with fail
  refine HO1.out.mono ?_
  rintro e W17 ⟨y0, rfl, hy, hown, hgr⟩
  have Kh := Lib.hid (show LsK w W17 [(some ⟨g, 0, none⟩, y0, capf, W2.heap.size, W3.heap.size), (wA, L, wc, W11.heap.size, W12.heap.size), (pA, L, pc, W9.heap.size, W10.heap.size), (oA, L, oc, W8.heap.size, W9.heap.size), (some ⟨gr, 0, none⟩, zr, rc, W7.heap.size, W8.heap.size), (some ⟨gq, 0, none⟩, zq, qc, W6.heap.size, W7.heap.size)] from
    ((Kg.out.sub (fun t ht => by
      simp only [List.mem_cons, List.not_mem_nil, or_false] at ht ⊢
      rcases ht with h | h | h | h | h <;> simp [h])).over2 hgr (by have h1 := SZ.out; have h2 := HG.out; omega) (fun t ht => by
      have h1 := SZ.out
      have h2 := HG.out
      simp only [List.mem_cons, List.not_mem_nil, or_false] at ht
      rcases ht with rfl | rfl | rfl | rfl | rfl <;> (simp only; omega))).add ⟨by rw [hy]; exact hown, fun j hj => (Kg.out.get 7 rfl).2 j hj⟩)
  have HY0 := Lib.hid (show y0.length ≤ 1500000 ∧ W16.heap.size ≤ W17.heap.size ∧ y0.length = zf.length from ⟨by have h1 := lent_len HZf.out; have h2 := HLn.out.1; omega, hgr.size, hy⟩)
  clear hy hown hgr HO1 Kg Bg HZf
  have HO2 := Lib.hid (Over_big W6.heap.size gq qc zq.length zq W17 rfl (by have h1 := lent_len HZq.out.1; have h2 := HLn.out.2.1; omega) (Kh.out.get 5 rfl).1)
  go_wp2_with fail
  refine HO2.out.mono ?_
  rintro e W18 ⟨y1, rfl, hy, hown, hgr⟩
  have Ki := Lib.hid (show LsK w W18 [(some ⟨gq, 0, none⟩, y1, qc, W6.heap.size, W7.heap.size), (some ⟨g, 0, none⟩, y0, capf, W2.heap.size, W3.heap.size), (wA, L, wc, W11.heap.size, W12.heap.size), (pA, L, pc, W9.heap.size, W10.heap.size), (oA, L, oc, W8.heap.size, W9.heap.size), (some ⟨gr, 0, none⟩, zr, rc, W7.heap.size, W8.heap.size)] from
    ((Kh.out.sub (fun t ht => by
      simp only [List.mem_cons, List.not_mem_nil, or_false] at ht ⊢
      rcases ht with h | h | h | h | h <;> simp [h])).over2 hgr (by have h1 := SZ.out; have h2 := HG.out; omega) (fun t ht => by
      have h1 := SZ.out
      have h2 := HG.out
      simp only [List.mem_cons, List.not_mem_nil, or_false] at ht
      rcases ht with rfl | rfl | rfl | rfl | rfl <;> (simp only; omega))).add ⟨by rw [hy]; exact hown, fun j hj => (Kh.out.get 5 rfl).2 j hj⟩)
  have HY1 := Lib.hid (show y1.length ≤ 1500000 ∧ W17.heap.size ≤ W18.heap.size ∧ y1.length = zq.length from ⟨by have h1 := lent_len HZq.out.1; have h2 := HLn.out.2.1; omega, hgr.size, hy⟩)
  clear hy hown hgr HO2 Kh HZq
  have HO3 := Lib.hid (Over_big W7.heap.size gr rc zr.length zr W18 rfl (by have h1 := lent_len HZr.out.1; have h2 := HLn.out.2.2; omega) (Ki.out.get 5 rfl).1)
  go_wp2_with fail
  refine HO3.out.mono ?_
  rintro e W19 ⟨y2, rfl, hy, hown, hgr⟩
  have Kj := Lib.hid (show LsK w W19 [(some ⟨gr, 0, none⟩, y2, rc, W7.heap.size, W8.heap.size), (some ⟨gq, 0, none⟩, y1, qc, W6.heap.size, W7.heap.size), (some ⟨g, 0, none⟩, y0, capf, W2.heap.size, W3.heap.size), (wA, L, wc, W11.heap.size, W12.heap.size), (pA, L, pc, W9.heap.size, W10.heap.size), (oA, L, oc, W8.heap.size, W9.heap.size)] from
    ((Ki.out.sub (fun t ht => by
      simp only [List.mem_cons, List.not_mem_nil, or_false] at ht ⊢
      rcases ht with h | h | h | h | h <;> simp [h])).over2 hgr (by have h1 := SZ.out; have h2 := HG.out; omega) (fun t ht => by
      have h1 := SZ.out
      have h2 := HG.out
      simp only [List.mem_cons, List.not_mem_nil, or_false] at ht
      rcases ht with rfl | rfl | rfl | rfl | rfl <;> (simp only; omega))).add ⟨by rw [hy]; exact hown, fun j hj => (Ki.out.get 5 rfl).2 j hj⟩)
  have HY2 := Lib.hid (show y2.length ≤ 1500000 ∧ W18.heap.size ≤ W19.heap.size ∧ y2.length = zr.length from ⟨by have h1 := lent_len HZr.out.1; have h2 := HLn.out.2.2; omega, hgr.size, hy⟩)
  clear hy hown hgr HO3 Ki HZr
  have HSm := Lib.hid (SameNumbers_t oA wA L L L.length oc wc W19 rfl rfl rfl (by have := HLL.out; omega) (Kj.out.get 5 rfl).reads (Kj.out.get 3 rfl).reads)
  go_wp2_with fail
  refine HSm.out.mono ?_
  rintro e W20' ⟨n, rfl, W20e⟩
  obtain ⟨W20, hW20⟩ : ∃ V, V = W20' := ⟨_, rfl⟩
  have hb : Below W19.heap.size W19 W20 := by rw [hW20, W20e]; exact below_drewN (Below.refl _ _) n
  have Kk := Lib.hid (Kj.out.below hb)
  have HSn := Lib.hid (SameNumbers_t pA wA L L L.length pc wc W20 rfl rfl rfl (by have := HLL.out; omega) (Kk.out.get 4 rfl).reads (Kk.out.get 3 rfl).reads)
  have S20 := Lib.hid hb.size
  rw [← hW20]
  clear W20e hW20 hb HSm Kj
  go_wp2_with fail
  refine HSn.out.mono ?_
  rintro e W21' ⟨n, rfl, W21e⟩
  obtain ⟨W21, hW21⟩ : ∃ V, V = W21' := ⟨_, rfl⟩
  have hb : Below W20.heap.size W20 W21 := by rw [hW21, W21e]; exact below_drewN (Below.refl _ _) n
  have Kl := Lib.hid (Kk.out.below hb)
  have SZ2 := Lib.hid (show W10.heap.size ≤ W21.heap.size from by
    have h1 := SZ.out; have h2 := HY0.out.2.1; have h3 := HY1.out.2.1; have h4 := HY2.out.2.1; have h5 := S20.out; have h6 := hb.size; omega)
  rw [← hW21]
  clear W21e hW21 hb HSn Kk S20
  have hFam := fam5 (W := W21.alloc (.cells #[.slice oA L.length oc, .slice pA L.length pc, .slice (some ⟨g, 0, none⟩) y0.length capf, .slice (some ⟨gq, 0, none⟩) y1.length qc, .slice (some ⟨gr, 0, none⟩) y2.length rc] 26)) (B := w.heap.size) (q := W21.heap.size)
    (((Kl.out.get 5 rfl).own (by have := SZ.out; omega)).alloc _) (((Kl.out.get 4 rfl).own (by have := SZ.out; omega)).alloc _) (((Kl.out.get 2 rfl).own (by have := SZ.out; omega)).alloc _) (((Kl.out.get 1 rfl).own (by have := SZ.out; omega)).alloc _) (((Kl.out.get 0 rfl).own (by have := SZ.out; omega)).alloc _) (heap_alloc_new _ _)
  have hApt := apt5' (q := W21.heap.size) (Kl.out.get 5 rfl).blk (Kl.out.get 4 rfl).blk (Kl.out.get 2 rfl).blk (Kl.out.get 1 rfl).blk (Kl.out.get 0 rfl).blk (by have := SZ.out; omega) (Nat.le_refl _) (Nat.le_refl _) (Nat.le_refl _) SZ2.out (by have := SZ.out; omega) (by have := SZ.out; omega) (by have := SZ.out; omega) (by have := SZ.out; omega) (by have := SZ.out; omega)
  have hAp := (AB.Apart_keep w.heap.size W21.heap.size 5 5 _ _ _ _ rfl (by omega) hApt hFam rfl (Nat.le_trans Kl.out.bel.size (below_new _ _).size) (by
    intro k hk
    have h1 := HLL.out
    have h2 := HY0.out.1
    have h3 := HY1.out.1
    have h4 := HY2.out.1
    simp only [List.map_cons, List.map_nil, List.mem_cons, List.not_mem_nil, or_false] at hk
    rcases hk with rfl | rfl | rfl | rfl | rfl <;> omega))
  rw [HY0.out.2.2, HY1.out.2.2, HY2.out.2.2] at hAp
  have HAp := Lib.hid hAp
  clear hFam hApt hAp
  go_wp2_with fail
  refine HAp.out.mono ?_
  rintro e W22 ⟨rfl, bk⟩
  have BEF := Lib.hid ((Kl.out.bel.new (Nat.le_refl _) _).trans bk.bel)
  clear bk
  go_wp2
  go_ret
  exact ⟨rfl, BEF.out⟩
theorem LeftLaw_big (R0 C0 : Int) (A B D : Option Addr) (n m j k0 k1 k2 : Nat) (w : World) (hl : 600 < n) :
    Calls Try.prog 3 #[mval R0 C0 (.slice A n k0), .slice B m k1, .slice D j k2] w (RetBB true w) := by
  have hl6 : (600 : Int) < (n : Int) := by omega
  clear hl
  go_enter Try.func3, Try.ntmps3
  go_wp2_with fail
  refine (lives_c _).mono ?_
  rintro e W1 ⟨rfl, hb⟩
  have hbn := below_new w (.cells #[.int .i64 R0, .int .i64 C0, .slice A n k0] 24)
  have B1 := Lib.hid (hbn.trans (hb.mono hbn.size))
  have M1 := Lib.hid (row_keep hb (heap_alloc_new w (.cells #[.int .i64 R0, .int .i64 C0, .slice A n k0] 24)))
  clear hb hbn
  obtain ⟨x0, x1, x2, -⟩ := box3 M1.out
  go_wp2
  go_ret
  exact ⟨rfl, B1.out⟩
end Go.Proofs.Ytandllekeimpgaa
