/- Layer 7: the list of what was told (gridworklaw07.told): tell. -/
import Derived.Test.YtdkcdcbbpebgmaaRM7
import Derived.Test.YtdkcdcbbpebgmaaHas
import Derived.Deep.AppendLies
import Derived.Deep.RegionLaw
import Derived.Deep.DeepCutAuto
import Derived.Deep.RegionHeld3
namespace Go.Proofs.Ytdkcdcbbpebgmaa
open Go.RowKit Fl Ieee
set_option maxRecDepth 20000
attribute [local go_sem] run_store_float run_store_complex Fl.order_self Fl.order_self' Fl.order_eq Fl.order_ne Fl.order_lt Fl.order_gt
/-- A matrix that lies in a box, its numbers in a row of their own between two bounds. -/
structure MI where
  b : Nat
  r : Int
  c : Int
  A : Option Addr
  zs : List C
  cap : Nat
  lo : Nat
  hi : Nat
def MI.val (x : MI) : Value := .slice x.A x.zs.length x.cap
def MI.cells (x : MI) : List Value := [.int .i64 x.r, .int .i64 x.c, x.val]
def mcells (l : List MI) : List Value := l.flatMap MI.cells
theorem mcells_len (l : List MI) : (mcells l).length = l.length * 3 := by
  unfold mcells
  induction l with
  | nil => rfl
  | cons x l ih => rw [List.flatMap_cons, List.length_append, ih, List.length_cons]; simp [MI.cells]; omega
theorem mcells_snoc (l : List MI) (x : MI) : mcells (l ++ [x]) = mcells l ++ x.cells := by simp [mcells]
theorem mcells_at {l : List MI} {k : Nat} {x : MI} (h : l[k]? = some x) : (mcells l)[k * 3]? = some (.int .i64 x.r) ∧ (mcells l)[k * 3 + 1]? = some (.int .i64 x.c) ∧ (mcells l)[k * 3 + 2]? = some x.val := by
  induction l generalizing k with
  | nil => simp at h
  | cons y l ih =>
    have e : mcells (y :: l) = y.cells ++ mcells l := by simp [mcells]
    have hy : y.cells.length = 3 := rfl
    rw [e]
    cases k with
    | zero =>
      simp at h; subst h
      exact ⟨rfl, rfl, rfl⟩
    | succ k =>
      simp at h
      obtain ⟨h1, h2, h3⟩ := ih h
      refine ⟨?_, ?_, ?_⟩
      · rw [List.getElem?_append_right (by rw [hy]; omega), hy, show (k + 1) * 3 - 3 = k * 3 by omega]; exact h1
      · rw [List.getElem?_append_right (by rw [hy]; omega), hy, show (k + 1) * 3 + 1 - 3 = k * 3 + 1 by omega]; exact h2
      · rw [List.getElem?_append_right (by rw [hy]; omega), hy, show (k + 1) * 3 + 2 - 3 = k * 3 + 2 by omega]; exact h3
/-- Below lo all stays but one block. -/
structure But (lo q : Nat) (w w' : World) : Prop where
  low : Below 0 w w'
  block : ∀ k, k < lo → k ≠ q → w'.heap[k]? = w.heap[k]?
section
variable {lo q : Nat} {w v V W : World}
theorem But.refl (lo q : Nat) (w : World) : But lo q w w := ⟨Below.refl _ _, fun _ _ _ => rfl⟩
theorem But.trans (h : But lo q w v) (h' : But lo q v V) : But lo q w V := ⟨h.low.trans h'.low, fun k hk hq => (h'.block k hk hq).trans (h.block k hk hq)⟩
theorem But.of_below {B : Nat} (h : Below B w v) (hB : lo ≤ B) : But lo q w v := ⟨h.mono (Nat.zero_le _), fun k hk _ => h.block k (Nat.lt_of_lt_of_le hk hB)⟩
theorem But.of_grown {row : Option Nat} (hg : w.grownBy v row) (hlo : lo ≤ w.heap.size) (hr : ∀ k, row = some k → lo ≤ k) : But lo q w v :=
  ⟨(Below.refl 0 w).grown hg (Nat.zero_le _) (fun _ _ => Nat.zero_le _), fun k hk _ => hg.block k (Nat.lt_of_lt_of_le hk hlo) (by intro e; have := hr k e.symm; omega)⟩
theorem But.of_set (w : World) (j : Nat) (u : Value) : But lo q w (w.setCell ⟨q, j, none⟩ u) :=
  ⟨(Below.refl 0 w).setCell (Nat.zero_le _) u, fun k _ hq => Below.heap_setCell w _ u k hq⟩
theorem But.size (h : But lo q w v) : w.heap.size ≤ v.heap.size := h.low.size
theorem But.below {B : Nat} (h : But lo q w v) (hB : B ≤ lo) (hq : B ≤ q) : Below B w v := ⟨h.low.os, h.low.tape, h.low.output, h.low.size, fun k hk => h.block k (by omega) (by omega)⟩
theorem But.lst {A : Option Addr} {zs : List C} {c l h : Nat} (hb : But lo q w v) (hl : Lst w l h A zs c) (hh : h ≤ lo) (hq : q < l ∨ h ≤ q) : Lst v l h A zs c := by
  refine ⟨⟨hl.1.1, ?_⟩, hl.2⟩
  rcases hl.1.2 with h1 | ⟨g, cap, cur, hv, hbg, hg, hr⟩
  · exact .inl h1
  · have hlt := hl.2 g (by rw [hv]; rfl)
    exact .inr ⟨g, cap, cur, hv, hbg, (hb.block g (by omega) (by omega)).trans hg, hr⟩
theorem But.row {b : Nat} {o : Option Obj} (hb : But lo q w v) (h : w.heap[b]? = o) (hl : b < lo) (hq : b ≠ q) : v.heap[b]? = o := (hb.block b hl hq).trans h
theorem But.box {b : Nat} {r c : Int} {s : Value} (hb : But lo q w v) (h : Box w b r c s) (hl : b < lo) (hq : b ≠ q) : Box v b r c s := by
  have e : ∀ j, v.cell? ⟨b, j, none⟩ = w.cell? ⟨b, j, none⟩ := fun j => World.cell?_of_block (hb.block b hl hq)
  exact ⟨(e 0).trans h.1, (e 1).trans h.2.1, (e 2).trans h.2.2⟩
end
/-- The two lists of what was told. -/
structure Told2 (W : World) (lo q : Nat) (Sg Sw : Value) (gs hs : List MI) : Prop where
  box : W.heap[q]? = some (.cells #[Sg, Sw] 53)
  got : W.ownsRow lo 28 3 Sg gs.length (mcells gs)
  want : W.ownsRow lo 28 3 Sw hs.length (mcells hs)
  apart : Sg.ownBlock = none ∨ Sg.ownBlock ≠ Sw.ownBlock
section
variable {lo q : Nat} {w v V W : World} {Sg Sw : Value} {gs hs : List MI} {x : MI}
theorem own_below3 {B e n s : Nat} {u : Value} {xs : List Value} (h : W.ownsRow B e s u n xs) (hb : Below W.heap.size W V) : V.ownsRow B e s u n xs := own_below h hb
theorem Told2.below (h : Told2 W lo q Sg Sw gs hs) (hb : Below W.heap.size W V) (hq : q < W.heap.size) : Told2 V lo q Sg Sw gs hs :=
  ⟨(hb.block q hq).trans h.box, own_below h.got hb, own_below h.want hb, h.apart⟩
theorem Told2.lt (h : Told2 W lo q Sg Sw gs hs) : q < W.heap.size := by
  rcases Nat.lt_or_ge q W.heap.size with h1 | h1
  · exact h1
  · have := h.box; rw [Array.getElem?_eq_none h1] at this; cases this
theorem Told2.cells (h : Told2 W lo q Sg Sw gs hs) : W.cell? ⟨q, 0, none⟩ = some Sg ∧ W.cell? ⟨q, 1, none⟩ = some Sw ∧ (∀ j, W.frozen? ⟨q, j, none⟩ = false) :=
  ⟨by rw [cell_of_row W q 0 _ _ _ h.box]; rfl, by rw [cell_of_row W q 1 _ _ _ h.box]; rfl, fun j => frozen_of_row W q j _ _ h.box⟩
/-- The first list has grown, and its new value was stored. -/
theorem Told2.set0 {Sg' : Value} (h : Told2 W lo q Sg Sw gs hs) (hq : q < lo) (hown : V.ownsRow lo 28 3 Sg' (gs.length + 1) (mcells gs ++ x.cells)) (hg : W.grownBy V Sg.ownBlock) (hat : Sg.ownBlock = Sg'.ownBlock ∨ Sg'.ownBlock = some W.heap.size) :
    Told2 (V.setCell ⟨q, 0, none⟩ Sg') lo q Sg' Sw (gs ++ [x]) hs := by
  have hne : some q ≠ Sg.ownBlock := fun e => by have := (h.got.lt q e.symm).1; omega
  have hb : V.heap[q]? = some (.cells #[Sg, Sw] 53) := (hg.block q h.lt hne).trans h.box
  have hw : V.ownsRow lo 28 3 Sw hs.length (mcells hs) := h.want.kept hg (by
    rcases h.apart with e | e
    · cases hs : Sw.ownBlock with
      | none => exact .inl rfl
      | some b => exact .inr (by rw [e]; exact fun h => nomatch h)
    · exact .inr (Ne.symm e))
  have hset : ∀ {u : Value} {n : Nat} {xs : List Value}, V.ownsRow lo 28 3 u n xs → (V.setCell ⟨q, 0, none⟩ Sg').ownsRow lo 28 3 u n xs := by
    intro u n xs hu
    refine ⟨hu.1, ?_⟩
    rcases hu.2 with h1 | ⟨g, cap, cur, hv, hbg, hgg, hr⟩
    · exact .inl h1
    · exact .inr ⟨g, cap, cur, hv, hbg, by rw [Below.heap_setCell _ _ _ _ (by show g ≠ q; omega)]; exact hgg, hr⟩
  refine ⟨?_, ?_, hset hw, ?_⟩
  · rw [heap_setCell_same V q 0 _ _ _ hb]; rfl
  · rw [List.length_append, mcells_snoc]; exact hset hown
  · rcases hat with e | e
    · rw [← e]; exact h.apart
    · rw [e]
      refine .inr fun e' => ?_
      have := (h.want.lt _ e'.symm).2; omega
theorem Told2.set1 {Sw' : Value} (h : Told2 W lo q Sg Sw gs hs) (hq : q < lo) (hown : V.ownsRow lo 28 3 Sw' (hs.length + 1) (mcells hs ++ x.cells)) (hg : W.grownBy V Sw.ownBlock) (hat : Sw.ownBlock = Sw'.ownBlock ∨ Sw'.ownBlock = some W.heap.size) :
    Told2 (V.setCell ⟨q, 1, none⟩ Sw') lo q Sg Sw' gs (hs ++ [x]) := by
  have hne : some q ≠ Sw.ownBlock := fun e => by have := (h.want.lt q e.symm).1; omega
  have hb : V.heap[q]? = some (.cells #[Sg, Sw] 53) := (hg.block q h.lt hne).trans h.box
  have hw : V.ownsRow lo 28 3 Sg gs.length (mcells gs) := h.got.kept hg h.apart
  have hset : ∀ {u : Value} {n : Nat} {xs : List Value}, V.ownsRow lo 28 3 u n xs → (V.setCell ⟨q, 1, none⟩ Sw').ownsRow lo 28 3 u n xs := by
    intro u n xs hu
    refine ⟨hu.1, ?_⟩
    rcases hu.2 with h1 | ⟨g, cap, cur, hv, hbg, hgg, hr⟩
    · exact .inl h1
    · exact .inr ⟨g, cap, cur, hv, hbg, by rw [Below.heap_setCell _ _ _ _ (by show g ≠ q; omega)]; exact hgg, hr⟩
  refine ⟨?_, hset hw, ?_, ?_⟩
  · rw [heap_setCell_same V q 1 _ _ _ hb]; rfl
  · rw [List.length_append, mcells_snoc]; exact hset hown
  · rcases hat with e | e
    · rw [← e]; exact h.apart
    · cases hs : Sg.ownBlock with
      | none => exact .inl rfl
      | some b =>
        rw [e]
        refine .inr fun e' => ?_
        injection e' with e'
        have := (h.got.lt _ hs).2; omega
theorem tell_step0 {V0 w1 : World} {g cap H : Nat} (hT : Told2 W lo q Sg Sw gs hs) (hb : Below W.heap.size W V0) (hq : q < lo) (hlo : lo ≤ W.heap.size) (hown : w1.ownsRow lo 28 3 (.slice (some ⟨g, 0, none⟩) (gs.length + 1) cap) (gs.length + 1) (mcells gs ++ x.cells))
    (hg : V0.grownBy w1 Sg.ownBlock) (hat : Sg.ownBlock = some g ∨ g = H) (hH : H = V0.heap.size) :
    w1.cell? ⟨q, 0, none⟩ = some Sg ∧ w1.frozen? ⟨q, 0, none⟩ = false ∧ Told2 (w1.setCell ⟨q, 0, none⟩ (.slice (some ⟨g, 0, none⟩) (gs.length + 1) cap)) lo q (.slice (some ⟨g, 0, none⟩) (gs.length + 1) cap) Sw (gs ++ [x]) hs ∧
      But lo q W (w1.setCell ⟨q, 0, none⟩ (.slice (some ⟨g, 0, none⟩) (gs.length + 1) cap)) ∧ (∀ b, b < W.heap.size → b ≠ q → Sg.ownBlock ≠ some b → (w1.setCell ⟨q, 0, none⟩ (.slice (some ⟨g, 0, none⟩) (gs.length + 1) cap)).heap[b]? = W.heap[b]?) := by
  have hT0 := hT.below hb hT.lt
  have hne : some q ≠ Sg.ownBlock := fun e => by have := (hT.got.lt q e.symm).1; omega
  obtain ⟨c0, c1, c2⟩ := hT0.cells
  refine ⟨hg.cell c0 hne, ?_, hT0.set0 hq hown hg ?_, ?_, ?_⟩
  · exact (hg.frozen_far ⟨q, 0, none⟩ hT0.lt hne).trans (c2 0)
  · rcases hat with e | e
    · exact .inl e
    · exact .inr (by rw [e, hH]; rfl)
  · exact ((But.of_below hb hlo).trans (But.of_grown hg (Nat.le_trans hlo hb.size) (fun k hk => (hT.got.lt k hk).1))).trans (But.of_set w1 0 _)
  · intro b h1 h2 h3
    rw [Below.heap_setCell w1 _ _ b h2, hg.block b (Nat.lt_of_lt_of_le h1 hb.size) (Ne.symm h3), hb.block b h1]
theorem tell_step1 {V0 w1 : World} {g cap H : Nat} (hT : Told2 W lo q Sg Sw gs hs) (hb : Below W.heap.size W V0) (hq : q < lo) (hlo : lo ≤ W.heap.size) (hown : w1.ownsRow lo 28 3 (.slice (some ⟨g, 0, none⟩) (hs.length + 1) cap) (hs.length + 1) (mcells hs ++ x.cells))
    (hg : V0.grownBy w1 Sw.ownBlock) (hat : Sw.ownBlock = some g ∨ g = H) (hH : H = V0.heap.size) :
    w1.cell? ⟨q, 1, none⟩ = some Sw ∧ w1.frozen? ⟨q, 1, none⟩ = false ∧ Told2 (w1.setCell ⟨q, 1, none⟩ (.slice (some ⟨g, 0, none⟩) (hs.length + 1) cap)) lo q Sg (.slice (some ⟨g, 0, none⟩) (hs.length + 1) cap) gs (hs ++ [x]) ∧
      But lo q W (w1.setCell ⟨q, 1, none⟩ (.slice (some ⟨g, 0, none⟩) (hs.length + 1) cap)) ∧ (∀ b, b < W.heap.size → b ≠ q → Sw.ownBlock ≠ some b → (w1.setCell ⟨q, 1, none⟩ (.slice (some ⟨g, 0, none⟩) (hs.length + 1) cap)).heap[b]? = W.heap[b]?) := by
  have hT0 := hT.below hb hT.lt
  have hne : some q ≠ Sw.ownBlock := fun e => by have := (hT.want.lt q e.symm).1; omega
  obtain ⟨c0, c1, c2⟩ := hT0.cells
  refine ⟨hg.cell c1 hne, ?_, hT0.set1 hq hown hg ?_, ?_, ?_⟩
  · exact (hg.frozen_far ⟨q, 1, none⟩ hT0.lt hne).trans (c2 1)
  · rcases hat with e | e
    · exact .inl e
    · exact .inr (by rw [e, hH]; rfl)
  · exact ((But.of_below hb hlo).trans (But.of_grown hg (Nat.le_trans hlo hb.size) (fun k hk => (hT.want.lt k hk).1))).trans (But.of_set w1 1 _)
  · intro b h1 h2 h3
    rw [Below.heap_setCell w1 _ _ b h2, hg.block b (Nat.lt_of_lt_of_le h1 hb.size) (Ne.symm h3), hb.block b h1]
end
theorem infoMx : (Try.prog.info? 28).map (fun i => (i.zero, i.size, i.bytes)) = some (some (.agg #[.int .i64 0, .int .i64 0, .slice none 0 0]), 3, 40) := by kernel_rfl
theorem cell_three_new (w : World) (x y z : Value) (t : TypeId) : ∀ j u, [x, y, z][j]? = some u → (w.alloc (.cells #[x, y, z] t)).cell? ((⟨w.heap.size, 0, none⟩ : Addr).add j) = some u :=
  World.news_of_block (cs := #[x, y, z]) (heap_alloc_new w _)
theorem box_of_block {W V : World} {b : Nat} {r c : Int} {s : Value} (h : Box W b r c s) (e : V.heap[b]? = W.heap[b]?) : Box V b r c s :=
  ⟨(World.cell?_of_block e).trans h.1, (World.cell?_of_block e).trans h.2.1, (World.cell?_of_block e).trans h.2.2⟩
theorem told_ret {b : Bool} (h : b = true) : Ending.returned (.bool b) = .returned (.bool true) := by rw [h]
set_option maxHeartbeats 4000000 in
theorem tell_of (lo q : Nat) (Sg Sw : Value) (gs hs : List MI) (gb : Nat) (gr gc : Int) (gA : Option Addr) (gz : List C) (gk gl gh : Nat) (hb : Nat) (hA : Option Addr) (hz : List C) (hk hl hh : Nat) (er : Int) (w : World) (hT : Told2 w lo q Sg Sw gs hs) (hq : q < lo) (hlo : lo ≤ w.heap.size)
    (hn : gs.length ≤ 100) (hn' : hs.length ≤ 100) (he : gz.map cnC = hz.map cnC) (hmx : gz.length ≤ 4096)
    (hRg : ∀ V, But lo q w V → Reads V V.heap.size gA (nums gz)) (hRh : ∀ V, But lo q w V → Reads V V.heap.size hA (nums hz)) :
    Calls Try.prog 41 #[.pointer (some ⟨q, 0, none⟩), mval gr gc (.slice gA gz.length gk), .int .i64 er, mval gr gc (.slice hA hz.length hk), .int .i64 er] w
      fun e w' => e = .returned (.bool true) ∧ (∃ Sg' Sw', Told2 w' lo q Sg' Sw' (gs ++ [⟨gb, gr, gc, gA, gz, gk, gl, gh⟩]) (hs ++ [⟨hb, gr, gc, hA, hz, hk, hl, hh⟩])) ∧ But lo q w w' := by
  obtain ⟨i0, hi, hz0, hz1, hz2⟩ := info_parts infoMx
  have hTw := hT
  obtain ⟨W2, hW2⟩ : ∃ W, W = (w.alloc (.cells #[.int .i64 gr, .int .i64 gc, .slice gA gz.length gk] 28)).alloc (.cells #[.int .i64 gr, .int .i64 gc, .slice hA hz.length hk] 28) := ⟨_, rfl⟩
  have hb2 : Below w.heap.size w W2 := by rw [hW2]; exact ((Below.refl _ w).new (Nat.le_refl _) _).new (Nat.le_refl _) _
  have hs2 : W2.heap.size = w.heap.size + 2 := by rw [hW2]; simp
  have hx6 : Box W2 w.heap.size gr gc (.slice gA gz.length gk) := by
    rw [hW2]; exact (Box.new w gr gc _ _).below (below_new _ _) (by simp)
  have hx8 : Box W2 (w.heap.size + 1) gr gc (.slice hA hz.length hk) := by
    have h := Box.new (w.alloc (.cells #[.int .i64 gr, .int .i64 gc, .slice gA gz.length gk] 28)) gr gc (.slice hA hz.length hk) 28
    have e : (w.alloc (.cells #[.int .i64 gr, .int .i64 gc, .slice gA gz.length gk] 28)).heap.size = w.heap.size + 1 := by simp
    rw [e] at h
    rw [hW2]; exact h
  have hT2 := hT.below hb2 hT.lt
  obtain ⟨c0, c1, c2⟩ := hT2.cells
  obtain ⟨x60, x61, x62⟩ := hx6
  have HT2 := Lib.hid hT2
  have HB2 := Lib.hid hb2
  have HS2 := Lib.hid hs2
  have HX8 := Lib.hid hx8
  have HX6 := Lib.hid (show Box W2 w.heap.size gr gc (.slice gA gz.length gk) from ⟨x60, x61, x62⟩)
  have HQ := Lib.hid hq
  have HLO := Lib.hid hlo
  have HNG := Lib.hid hn
  have HNH := Lib.hid hn'
  have HE := Lib.hid he
  have HMX := Lib.hid hmx
  have HRg := Lib.hid hRg
  have HRh := Lib.hid hRh
  have HGL := Lib.hid (show ∀ k, Sg.ownBlock = some k → k < w.heap.size from fun k hk => (hT.got.lt k hk).2)
  have cf := c2 0
  have cf1 := c2 1
  have kc : ∀ o, (W2.alloc o).cell? ⟨q, 0, none⟩ = some Sg := fun o => ((below_new W2 o).cell (p := ⟨q, 0, none⟩) hT2.lt).trans c0
  clear hT hq hlo hn hn' he hmx hRg hRh hb2 hs2 hx8 hT2 c2
  have HGW := Lib.hid (show ∀ k, Sw.ownBlock = some k → k < w.heap.size from fun k hk => (hTw.want.lt k hk).2)
  clear hTw
  go_enter Try.func41, Try.ntmps41
  go_wp2_with fail
  rw [← hW2]
  clear hW2
  go_cut [] (fun wx => ∃ Sg', Told2 wx lo q Sg' Sw (gs ++ [⟨gb, gr, gc, gA, gz, gk, gl, gh⟩]) hs ∧ Box wx w.heap.size gr gc (.slice gA gz.length gk) ∧ Box wx (w.heap.size + 1) gr gc (.slice hA hz.length hk) ∧ But lo q w wx ∧ w.heap.size + 2 ≤ wx.heap.size)
  case first =>
    go_region_law (first
      | (refine step_append_lies _ rfl (.tmp 15) (.tmp 17) 51 rfl lo 28 i0 (.agg #[.int .i64 0, .int .i64 0, .slice none 0 0]) 3 40 Try.underlying51 hi hz0 hz1 hz2 rfl (by decide) Sg gs.length (mcells gs) rfl ((own_below (w := W2.drew) HT2.out.got (Below.refl _ _)).alloc _) ⟨_, 0, none⟩ 1 1 [.int .i64 gr, .int .i64 gc, .slice gA gz.length gk] rfl rfl (cell_three_new _ _ _ _ _) (by intro u hu; simp at hu; rcases hu with rfl | rfl | rfl <;> rfl) (by decide) (by have := HNG.out; unfold maxLen; omega) (by have := HNG.out; omega) (Nat.le_trans (Nat.le_trans HLO.out (by have := HS2.out; show w.heap.size ≤ W2.heap.size; omega)) (below_new W2.drew _).size) _ rfl ?_; intro g cap' w1 hown1 hgrow1 hat1 hlt1; have hst := tell_step0 (x := ⟨gb, gr, gc, gA, gz, gk, gl, gh⟩) HT2.out ((Below.refl _ W2).drew.alloc (Nat.le_refl _) _) HQ.out (Nat.le_trans HLO.out (by have := HS2.out; omega)) hown1 hgrow1 hat1 rfl; have hk1 := hst.1; have hk2 := hst.2.1)
      | (refine step_append_lies _ rfl (.tmp 15) (.tmp 17) 51 rfl lo 28 i0 (.agg #[.int .i64 0, .int .i64 0, .slice none 0 0]) 3 40 Try.underlying51 hi hz0 hz1 hz2 rfl (by decide) Sg gs.length (mcells gs) rfl ((own_below (w := W2) HT2.out.got (Below.refl _ _)).alloc _) ⟨_, 0, none⟩ 1 1 [.int .i64 gr, .int .i64 gc, .slice gA gz.length gk] rfl rfl (cell_three_new _ _ _ _ _) (by intro u hu; simp at hu; rcases hu with rfl | rfl | rfl <;> rfl) (by decide) (by have := HNG.out; unfold maxLen; omega) (by have := HNG.out; omega) (Nat.le_trans (Nat.le_trans HLO.out (by have := HS2.out; show w.heap.size ≤ W2.heap.size; omega)) (below_new W2 _).size) _ rfl ?_; intro g cap' w1 hown1 hgrow1 hat1 hlt1; have hst := tell_step0 (x := ⟨gb, gr, gc, gA, gz, gk, gl, gh⟩) HT2.out ((Below.refl _ W2).alloc (Nat.le_refl _) _).drew HQ.out (Nat.le_trans HLO.out (by have := HS2.out; omega)) hown1 hgrow1 hat1 rfl; have hk1 := hst.1; have hk2 := hst.2.1))
    all_goals
      have HST := Lib.hid hst.2.2
      clear hst hk1 hk2 hown1 hgrow1 hat1 hlt1
      go_wp2
      go_meet
      have hh := HST.out
      have hgl := HGL.out
      have hs2 := HS2.out
      have hlo := HLO.out
      have hq := HQ.out
      refine ⟨_, hh.1, box_of_block HX6.out (hh.2.2 _ (by omega) (by omega) (fun e => by have := hgl _ e; omega)), box_of_block HX8.out (hh.2.2 _ (by omega) (by omega) (fun e => by have := hgl _ e; omega)), (But.of_below HB2.out hlo).trans hh.2.1, by have := hh.2.1.size; omega⟩
  case rest =>
    as_aux_lemma =>
    obtain ⟨Sg', hT3, hx6, hx8, hbt, hsz⟩ := hcut
    rename World => W3
    clear c0 c1 cf cf1 kc x60 x61 x62 HT2 HB2 HS2 HX6 HX8 HGL
    have HT3 := Lib.hid hT3
    have HX6 := Lib.hid hx6
    have HX8 := Lib.hid hx8
    have HBT := Lib.hid hbt
    have HS3 := Lib.hid hsz
    obtain ⟨c0, c1, c2⟩ := hT3.cells
    have cf1 := c2 1
    obtain ⟨x80, x81, x82⟩ := hx8
    have kc : ∀ o, (W3.alloc o).cell? ⟨q, 1, none⟩ = some Sw := fun o => ((below_new W3 o).cell (p := ⟨q, 1, none⟩) hT3.lt).trans c1
    clear hT3 hx6 hbt hsz c2
    go_wp2_with fail
    go_cut [] (fun wx => ∃ Sw', Told2 wx lo q Sg' Sw' (gs ++ [⟨gb, gr, gc, gA, gz, gk, gl, gh⟩]) (hs ++ [⟨hb, gr, gc, hA, hz, hk, hl, hh⟩]) ∧ Box wx w.heap.size gr gc (.slice gA gz.length gk) ∧ Box wx (w.heap.size + 1) gr gc (.slice hA hz.length hk) ∧ But lo q w wx ∧ w.heap.size + 2 ≤ wx.heap.size)
    case first =>
      go_region_law (first
        | (refine step_append_lies _ rfl (.tmp 25) (.tmp 27) 51 rfl lo 28 i0 (.agg #[.int .i64 0, .int .i64 0, .slice none 0 0]) 3 40 Try.underlying51 hi hz0 hz1 hz2 rfl (by decide) Sw hs.length (mcells hs) rfl ((own_below (w := W3.drew) HT3.out.want (Below.refl _ _)).alloc _) ⟨_, 0, none⟩ 1 1 [.int .i64 gr, .int .i64 gc, .slice hA hz.length hk] rfl rfl (cell_three_new _ _ _ _ _) (by intro u hu; simp at hu; rcases hu with rfl | rfl | rfl <;> rfl) (by decide) (by have := HNH.out; unfold maxLen; omega) (by have := HNH.out; omega) (Nat.le_trans (Nat.le_trans HLO.out (by have := HS3.out; show w.heap.size ≤ W3.heap.size; omega)) (below_new W3.drew _).size) _ rfl ?_; intro g cap' w1 hown1 hgrow1 hat1 hlt1; have hst := tell_step1 (x := ⟨hb, gr, gc, hA, hz, hk, hl, hh⟩) HT3.out ((Below.refl _ W3).drew.alloc (Nat.le_refl _) _) HQ.out (Nat.le_trans HLO.out (by have := HS3.out; omega)) hown1 hgrow1 hat1 rfl; have hk1 := hst.1; have hk2 := hst.2.1)
        | (refine step_append_lies _ rfl (.tmp 25) (.tmp 27) 51 rfl lo 28 i0 (.agg #[.int .i64 0, .int .i64 0, .slice none 0 0]) 3 40 Try.underlying51 hi hz0 hz1 hz2 rfl (by decide) Sw hs.length (mcells hs) rfl ((own_below (w := W3) HT3.out.want (Below.refl _ _)).alloc _) ⟨_, 0, none⟩ 1 1 [.int .i64 gr, .int .i64 gc, .slice hA hz.length hk] rfl rfl (cell_three_new _ _ _ _ _) (by intro u hu; simp at hu; rcases hu with rfl | rfl | rfl <;> rfl) (by decide) (by have := HNH.out; unfold maxLen; omega) (by have := HNH.out; omega) (Nat.le_trans (Nat.le_trans HLO.out (by have := HS3.out; show w.heap.size ≤ W3.heap.size; omega)) (below_new W3 _).size) _ rfl ?_; intro g cap' w1 hown1 hgrow1 hat1 hlt1; have hst := tell_step1 (x := ⟨hb, gr, gc, hA, hz, hk, hl, hh⟩) HT3.out ((Below.refl _ W3).alloc (Nat.le_refl _) _).drew HQ.out (Nat.le_trans HLO.out (by have := HS3.out; omega)) hown1 hgrow1 hat1 rfl; have hk1 := hst.1; have hk2 := hst.2.1))
      all_goals
        have HST := Lib.hid hst.2.2
        clear hst hk1 hk2 hown1 hgrow1 hat1 hlt1
        go_wp2
        go_meet
        have hh := HST.out
        have hgl := HGW.out
        have hs3 := HS3.out
        have hlo := HLO.out
        have hq := HQ.out
        refine ⟨_, hh.1, box_of_block HX6.out (hh.2.2 _ (by omega) (by omega) (fun e => by have := hgl _ e; omega)), box_of_block HX8.out (hh.2.2 _ (by omega) (by omega) (fun e => by have := hgl _ e; omega)), HBT.out.trans hh.2.1, by have := hh.2.1.size; omega⟩
    case rest =>
      as_aux_lemma =>
      obtain ⟨Sw', hT4, hx6, hx8, hbt, hsz⟩ := hcut
      rename World => W4
      clear c0 c1 cf1 kc x80 x81 x82 HT3 HBT HS3 HX6 HX8 HGW
      have HT4 := Lib.hid hT4
      obtain ⟨x60, x61, x62⟩ := hx6
      obtain ⟨x80, x81, x82⟩ := hx8
      have HBT := Lib.hid hbt
      have HS4 := Lib.hid hsz
      have HSM := Lib.hid (SameMatrix_u gr gc gA hA gz hz gk hk W4 HE.out HMX.out (HRg.out _ hbt) (HRh.out _ hbt))
      clear hT4 hbt hsz
      go_wp2_with fail
      refine HSM.out.mono ?_
      rintro e W5 ⟨rfl, hb5⟩
      have HB5 := Lib.hid hb5
      clear hb5
      go_wp2
      go_ret
      refine ⟨rfl, ⟨Sg', Sw', HT4.out.below HB5.out HT4.out.lt⟩, HBT.out.trans (But.of_below HB5.out (Nat.le_trans HLO.out (by have := HS4.out; omega)))⟩
end Go.Proofs.Ytdkcdcbbpebgmaa
namespace Go.Proofs.Ytdkcdcbbpebgmaa
open Go.RowKit Fl Ieee
set_option maxRecDepth 20000
attribute [local go_sem] run_store_float run_store_complex Fl.order_self Fl.order_self' Fl.order_eq Fl.order_ne Fl.order_lt Fl.order_gt
theorem mcells_row {W : World} {lo g n c k : Nat} {l : List MI} {x : MI} (h : W.ownsRow lo 28 3 (.slice (some ⟨g, 0, none⟩) n c) l.length (mcells l)) (hk : l[k]? = some x) :
    W.cell? ⟨g, k * 3, none⟩ = some (.int .i64 x.r) ∧ W.cell? ⟨g, k * 3 + 1, none⟩ = some (.int .i64 x.c) ∧ W.cell? ⟨g, k * 3 + 2, none⟩ = some x.val := by
  obtain ⟨h0, h1, h2⟩ := mcells_at hk
  have a0 := h.cells (g := g) rfl _ _ h0
  have a1 := h.cells (g := g) rfl _ _ h1
  have a2 := h.cells (g := g) rfl _ _ h2
  rw [add0] at a0 a1 a2
  exact ⟨a0, a1, a2⟩
/-- What is asked of the two lists. -/
structure Fit (w : World) (B : Nat) (gs hs : List MI) : Prop where
  len : hs.length = gs.length
  pos : 0 < gs.length
  small : gs.length ≤ 100
  pair : ∀ (k : Nat) (g h : MI), gs[k]? = some g → hs[k]? = some h → h.r = g.r ∧ h.c = g.c ∧ g.zs.map cnC = h.zs.map cnC ∧ g.zs.length ≤ 4096
  got : ∀ (k : Nat) (g : MI), gs[k]? = some g → Lst w g.lo g.hi g.A g.zs g.cap ∧ B ≤ g.lo
  want : ∀ (k : Nat) (h : MI), hs[k]? = some h → Reads w w.heap.size h.A (nums h.zs)
  ord : ∀ (j k : Nat) (x y : MI), gs[j]? = some x → gs[k]? = some y → j < k → x.hi ≤ y.lo
theorem vals_at {l : List MI} {k : Nat} {S : Value} (h : (l.map MI.val)[k]? = some S) : ∃ x, l[k]? = some x ∧ S = x.val := by
  rw [List.getElem?_map] at h
  cases hx : l[k]? with
  | none => rw [hx] at h; cases h
  | some x => rw [hx] at h; injection h with h; exact ⟨x, rfl, h.symm⟩
theorem Fit.apt {w : World} {B q : Nat} {gs hs : List MI} (h : Fit w B gs hs) (hq : w.heap.size ≤ q) : Apt q (gs.map MI.val) where
  apart j k S S' h1 h2 hjk := by
    obtain ⟨x, hx, rfl⟩ := vals_at h1
    obtain ⟨y, hy, rfl⟩ := vals_at h2
    cases hb : x.val.ownBlock with
    | none => exact .inl rfl
    | some b =>
      refine .inr fun e => ?_
      have a1 := (h.got j x hx).1.blk b hb
      have a2 := (h.got k y hy).1.blk b e.symm
      rcases Nat.lt_or_gt_of_ne hjk with h3 | h3
      · have := h.ord j k x y hx hy h3; omega
      · have := h.ord k j y x hy hx h3; omega
  notq k S h1 e := by
    obtain ⟨x, hx, rfl⟩ := vals_at h1
    have := ((h.got k x hx).1.1.lt q e).2; omega
theorem Fit.fam {w W : World} {B q lo n c : Nat} {gs hs : List MI} (h : Fit w B gs hs) (hb : Below w.heap.size w W) (hown : W.ownsRow lo 26 1 (.slice (some ⟨q, 0, none⟩) n c) gs.length (gs.map MI.val)) : Fam W B q (gs.map MI.val) (gs.map MI.zs) where
  len := by simp
  own k S zs h1 h2 := by
    obtain ⟨x, hx, rfl⟩ := vals_at h1
    rw [List.getElem?_map, hx] at h2
    injection h2 with h2
    subst h2
    obtain ⟨hl, hB⟩ := h.got k x hx
    exact own_below (hl.own hB) hb
  list k S h1 := by
    have a := hown.cells (g := q) rfl k S h1
    rw [add0] at a
    exact a
set_option maxHeartbeats 4000000 in
theorem right_of (B lo q : Nat) (gs hs : List MI) (g1 c1 g2 c2 : Nat) (w : World) (hT : Told2 w lo q (.slice (some ⟨g1, 0, none⟩) gs.length c1) (.slice (some ⟨g2, 0, none⟩) gs.length c2) gs hs) (hB : B ≤ w.heap.size) (hF : Fit w B gs hs) :
    Calls Try.prog 50 #[.pointer (some ⟨q, 0, none⟩), .slice none 0 0] w fun e w' => e = .returned (.bool true) ∧ Below B w w' := by
  obtain ⟨iS, his, hs0, hs1, hs2⟩ := info_parts infoSl
  have HT := Lib.hid hT
  have HBs := Lib.hid hB
  have HF := Lib.hid hF
  obtain ⟨N, hN⟩ : ∃ n, n = gs.length := ⟨_, rfl⟩
  have HN := Lib.hid hN
  have h100 : N ≤ 100 := by have := hF.small; omega
  rw [← hN] at hT
  clear hT hB hF hN
  go_enter Try.func50, Try.ntmps50
  go_wp2_with fail
  go_loopw [5] (fun i wr => ∃ k : Nat, k ≤ N ∧ i = .int .i64 (k : Nat) ∧ Below w.heap.size w wr) (fun i _ => N - (intOf i).toNat)
  case atStart => exact ⟨0, Nat.zero_le _, rfl, Below.refl _ _⟩
  case round =>
    rename World => w1
    obtain ⟨k, hk, rfl, hbel⟩ := hrel
    have HB := Lib.hid hbel
    have hT1 := HT.out.below hbel HT.out.lt
    have HT1 := Lib.hid hT1
    obtain ⟨q0, q1, -⟩ := hT1.cells
    rw [← HN.out] at q0 q1
    clear hT1 hbel
    by_cases hlt : k < N
    · have hlg : k < gs.length := by rw [← HN.out]; exact hlt
      have hlh : k < hs.length := by rw [HF.out.len]; exact hlg
      obtain ⟨g, hg⟩ := some_of_lt (l := gs) (k := k) hlg
      obtain ⟨h, hh⟩ := some_of_lt (l := hs) (k := k) hlh
      have HP := Lib.hid (HF.out.pair k g h hg hh)
      have HRg := Lib.hid (HF.out.got k g hg).1
      have HRh := Lib.hid (HF.out.want k h hh)
      have hcg := mcells_row HT1.out.got hg
      have hch := mcells_row HT1.out.want hh
      clear hlg hlh hg hh
      obtain ⟨gb, gr, gc, gA, gz, gk, gl, gh⟩ := g
      obtain ⟨hb, hr, hc, hA, hz, hk', hl, hh⟩ := h
      simp only [MI.val] at hcg hch
      obtain ⟨er, ec, ez, emx⟩ := HP.out
      simp only at er ec
      subst er ec
      obtain ⟨m0, m1, m2⟩ := hcg
      obtain ⟨n0, n1, n2⟩ := hch
      have hki : (k : Int) < (N : Int) := Int.ofNat_lt.2 hlt
      have hsm : ∀ V, Below w1.heap.size w1 V → Calls Try.prog 24 #[mval hr hc (.slice gA gz.length gk), mval hr hc (.slice hA hz.length hk')] V (FromV (.bool true) w1.heap.size w1) := fun V hV => by
        have hWV := HB.out.trans (hV.mono HB.out.size)
        exact (SameMatrix_u hr hc gA hA gz hz gk hk' V ez emx ((HRg.out.reads.below hWV).more hWV.size) ((HRh.out.below hWV).more hWV.size)).mono fun e V' ⟨h1, h2⟩ => ⟨h1, hV.trans (h2.mono hV.size)⟩
      have HSM := Lib.hid hsm
      have hkp : ∀ V, Below w1.heap.size w1 V → V.cell? ⟨q, 0, none⟩ = some (.slice (some ⟨g1, 0, none⟩) N c1) ∧ V.cell? ⟨q, 1, none⟩ = some (.slice (some ⟨g2, 0, none⟩) N c2) ∧
          V.cell? ⟨g1, k * 3, none⟩ = some (.int .i64 hr) ∧ V.cell? ⟨g1, k * 3 + 1, none⟩ = some (.int .i64 hc) ∧ V.cell? ⟨g1, k * 3 + 2, none⟩ = some (.slice gA gz.length gk) ∧
          V.cell? ⟨g2, k * 3, none⟩ = some (.int .i64 hr) ∧ V.cell? ⟨g2, k * 3 + 1, none⟩ = some (.int .i64 hc) ∧ V.cell? ⟨g2, k * 3 + 2, none⟩ = some (.slice hA hz.length hk') := fun V hV =>
        have go : ∀ {p : Addr} {v : Value}, w1.cell? p = some v → V.cell? p = some v := fun h => (hV.cell (block_lt_of_cell h)).trans h
        ⟨go q0, go q1, go m0, go m1, go m2, go n0, go n1, go n2⟩
      have HK := Lib.hid hkp
      clear ez emx hsm hkp HRg HRh HP
      go_wp2_with fail
      go_region_held3 (fun V => V.cell? ⟨q, 0, none⟩ = some (.slice (some ⟨g1, 0, none⟩) N c1) ∧ V.cell? ⟨q, 1, none⟩ = some (.slice (some ⟨g2, 0, none⟩) N c2) ∧
          V.cell? ⟨g1, k * 3, none⟩ = some (.int .i64 hr) ∧ V.cell? ⟨g1, k * 3 + 1, none⟩ = some (.int .i64 hc) ∧ V.cell? ⟨g1, k * 3 + 2, none⟩ = some (.slice gA gz.length gk) ∧
          V.cell? ⟨g2, k * 3, none⟩ = some (.int .i64 hr) ∧ V.cell? ⟨g2, k * 3 + 1, none⟩ = some (.int .i64 hc) ∧ V.cell? ⟨g2, k * 3 + 2, none⟩ = some (.slice hA hz.length hk'))
        (with_reducible refine HK.out _ ?_; (repeat (first | with_reducible assumption | with_reducible refine Below.drew ?_ | with_reducible exact Below.refl _ _)); done)
        (first
        | (go_at_call 24; (with_reducible refine (HSM.out _ ?_).mono ?_); (repeat (first | with_reducible assumption | with_reducible refine Below.drew ?_ | with_reducible exact Below.refl _ _)); (rintro e V ⟨rfl, hV⟩)))
      all_goals
        have HVV := Lib.hid ‹Below w1.heap.size w1 _›
        go_wp2
        go_roundw
        case rel => exact ⟨k + 1, hlt, by go_num, HB.out.trans (HVV.out.mono HB.out.size)⟩
        case measure => simp [intOf]; omega
    · have e : N = k := by omega
      subst e
      as_aux_lemma =>
      go_wp2_with fail
      clear q0 q1
      go_loopw [6, 7] (fun s i wr => ∃ k : Nat, k ≤ N ∧ i = .int .i64 (k : Nat) ∧ wr.ownsRow w.heap.size 26 1 s k ((gs.take k).map MI.val) ∧ Below w.heap.size w wr) (fun _ i _ => N - (intOf i).toNat)
      case atStart => exact ⟨0, Nat.zero_le _, rfl, World.ownsRow_nil _ _ _ _, HB.out⟩
      case round =>
        rename World => w2
        obtain ⟨k, hk, rfl, hown, hbel⟩ := hrel
        clear HB HT1
        have HB := Lib.hid hbel
        have hT1 := HT.out.below hbel HT.out.lt
        have HT1 := Lib.hid hT1
        have HO := Lib.hid hown
        obtain ⟨q0, q1, -⟩ := hT1.cells
        rw [← HN.out] at q0 q1
        clear hT1 hbel hown
        by_cases hlt : k < N
        · have hlg : k < gs.length := by rw [← HN.out]; exact hlt
          obtain ⟨g, hg⟩ := some_of_lt (l := gs) (k := k) hlg
          have htk : (gs.take (k + 1)).map MI.val = (gs.take k).map MI.val ++ [g.val] := by
            rw [List.take_add_one, hg]; simp
          have HTK := Lib.hid htk
          have hcg := mcells_row HT1.out.got hg
          clear hlg hg htk
          obtain ⟨gb, gr, gc, gA, gz, gk, gl, gh⟩ := g
          simp only [MI.val] at hcg
          obtain ⟨m0, m1, m2⟩ := hcg
          have hki : (k : Int) < (N : Int) := Int.ofNat_lt.2 hlt
          have HOv := Lib.hid (HO.out.alloc (.cells #[.slice gA gz.length gk] 26))
          have HSz := Lib.hid (Nat.le_trans HB.out.size (below_new w2 (.cells #[.slice gA gz.length gk] 26)).size)
          go_wp2_with (at_builtin; refine wpList_append_own _ rfl (.tmp 43) (.tmp 52) 48 rfl w.heap.size 26 iS (.slice none 0 0) 1 24 Try.underlying48 his hs0 hs1 hs2 rfl (by decide) _ _ _ rfl HOv.out ⟨w2.heap.size, 0, none⟩ 1 1 [.slice gA gz.length gk] rfl rfl (cell_one_new _ _ _) (by intro u hu; simp at hu; subst hu; rfl) (by unfold maxLen; omega) (by omega) HSz.out ?_; intro v' w1 hown1 hgrow1 hnil1)
          have HOW := Lib.hid hown1
          have HBX := Lib.hid (((HB.out.trans ((below_new w2 _).mono HB.out.size))).grown hgrow1 HSz.out (fun j hj => (HO.out.lt j hj).1))
          clear hown1 hgrow1 hnil1
          go_wp2
          go_roundw
          case rel =>
            exact ⟨k + 1, hlt, by go_num, by rw [HTK.out]; exact HOW.out, HBX.out⟩
          case measure => simp [intOf]; omega
        · have e : N = k := by omega
          subst e
          have htk : (gs.take N).map MI.val = gs.map MI.val := by rw [HN.out, List.take_length]
          have hO := HO.out
          rw [htk] at hO
          obtain ⟨g, cap, rfl, hgl, hgh⟩ := hO.form (by have := HF.out.pos; have := HN.out; omega)
          rw [HN.out] at hO
          have hap := Apart_try B g N cap (gs.map MI.val) ((gs.map MI.zs).map List.length) (gs.map MI.zs) w2 (by rw [List.length_map]; exact HN.out.symm) h100 (HF.out.apt hgl) (HF.out.fam HB.out hO) rfl (Nat.le_trans HBs.out HB.out.size)
            (by
              intro n hn
              rw [List.map_map, List.mem_map] at hn
              obtain ⟨x, hx, rfl⟩ := hn
              obtain ⟨j, hj, hjx⟩ := List.getElem_of_mem hx
              have hjh : j < hs.length := by rw [HF.out.len]; exact hj
              have := (HF.out.pair j x hs[j] (by rw [← hjx]; exact List.getElem?_eq_getElem hj) (List.getElem?_eq_getElem hjh)).2.2.2
              show x.zs.length ≤ 5000
              omega)
          have HAP := Lib.hid hap
          have HBB := Lib.hid HB.out
          clear hO hap htk HO HT1
          go_wp2_with fail
          refine HAP.out.mono ?_
          rintro e w3 ⟨rfl, hb⟩
          have HB3 := Lib.hid hb
          clear hb
          go_wp2
          go_ret
          exact ⟨rfl, (HBB.out.mono HBs.out).trans HB3.out⟩
end Go.Proofs.Ytdkcdcbbpebgmaa
namespace Go.Proofs.Ytdkcdcbbpebgmaa
open Go.RowKit Fl Ieee
set_option maxRecDepth 20000
/-- The matrix lies so in this world. -/
structure MI.At (x : MI) (W : World) : Prop where
  box : Box W x.b x.r x.c (.slice x.A x.zs.length x.cap)
  lt : x.b < W.heap.size
  lst : Lst W x.lo x.hi x.A x.zs x.cap
  hi : x.hi ≤ W.heap.size
section
variable {x : MI} {W V : World} {lo q : Nat}
theorem MI.At.below (h : x.At W) (hb : Below W.heap.size W V) : x.At V := ⟨h.box.below hb h.lt, Nat.lt_of_lt_of_le h.lt hb.size, h.lst.below hb, Nat.le_trans h.hi hb.size⟩
theorem MI.At.but (h : x.At W) (hb : But lo q W V) (h1 : W.heap.size ≤ lo) (h2 : x.b ≠ q) (h3 : q < x.lo) : x.At V :=
  ⟨hb.box h.box (Nat.lt_of_lt_of_le h.lt h1) h2, Nat.lt_of_lt_of_le h.lt hb.size, hb.lst h.lst (Nat.le_trans h.hi h1) (.inl h3), Nat.le_trans h.hi hb.size⟩
theorem MI.new {r c : Int} {A : Option Addr} {zs : List C} {cap lo : Nat} {t : TypeId} (hL : Lst W lo W.heap.size A zs cap) (hb : Below (W.alloc (.cells #[.int .i64 r, .int .i64 c, .slice A zs.length cap] t)).heap.size (W.alloc (.cells #[.int .i64 r, .int .i64 c, .slice A zs.length cap] t)) V) :
    (⟨W.heap.size, r, c, A, zs, cap, lo, W.heap.size⟩ : MI).At V ∧ Below W.heap.size W V := by
  obtain ⟨h1, h2, h3⟩ := frame0 hb
  exact ⟨⟨h1, h3, hL.below h2, h2.size⟩, h2⟩
/-- Between two blocks all stays. -/
structure Mid (lo q : Nat) (w w' : World) : Prop where
  low : Below 0 w w'
  block : ∀ k, q < k → k < lo → w'.heap[k]? = w.heap[k]?
theorem Mid.of_but {w v : World} (h : But lo q w v) : Mid lo q w v := ⟨h.low, fun k h1 h2 => h.block k h2 (by omega)⟩
theorem Mid.trans {u w v : World} (h : Mid lo q u w) (h' : Mid lo q w v) : Mid lo q u v := ⟨h.low.trans h'.low, fun k h1 h2 => (h'.block k h1 h2).trans (h.block k h1 h2)⟩
theorem Mid.of_below {w v : World} {B : Nat} (h : Below B w v) (hB : lo ≤ B) : Mid lo q w v := Mid.of_but (But.of_below h hB)
theorem Mid.of_grown {w v : World} {g : Nat} (hg : w.grownBy v (some g)) (hl : lo ≤ w.heap.size) (h : g < q) : Mid lo q w v :=
  ⟨(Below.refl 0 w).grown hg (Nat.zero_le _) (fun _ _ => Nat.zero_le _), fun k h1 h2 => hg.block k (by omega) (by intro e; injection e; omega)⟩
theorem Mid.lst {w v : World} {A : Option Addr} {zs : List C} {c l h : Nat} (hb : Mid lo q w v) (hl : Lst w l h A zs c) (hh : h ≤ lo) (hq : q < l) : Lst v l h A zs c := by
  refine ⟨⟨hl.1.1, ?_⟩, hl.2⟩
  rcases hl.1.2 with h1 | ⟨g, cap, cur, hv, hbg, hg, hr⟩
  · exact .inl h1
  · have hlt := hl.2 g (by rw [hv]; rfl)
    exact .inr ⟨g, cap, cur, hv, hbg, (hb.block g (by omega) (by omega)).trans hg, hr⟩
theorem Told2.start (h : W.heap[q]? = some (.cells #[.slice none 0 0, .slice none 0 0] 53)) : Told2 W lo q (.slice none 0 0) (.slice none 0 0) [] [] :=
  ⟨h, World.ownsRow_nil _ _ _ _, World.ownsRow_nil _ _ _ _, .inl rfl⟩
theorem Told2.over {g : Nat} {Sg Sw : Value} {gs hs : List MI} (h : Told2 W lo q Sg Sw gs hs) (hg : W.grownBy V (some g)) (h1 : g < q) (h2 : q < lo) : Told2 V lo q Sg Sw gs hs :=
  ⟨(hg.block q h.lt (by intro e; injection e; omega)).trans h.box, h.got.kept hg (.inr fun e => by have := (h.got.lt g e).1; omega), h.want.kept hg (.inr fun e => by have := (h.want.lt g e).1; omega), h.apart⟩
end
/-- What is asked of a told matrix and of what it must be, in the world ahead of the tells. -/
structure Two (V0 : World) (B q : Nat) (x y : MI) : Prop where
  x0 : x.At V0
  y0 : y.At V0
  r : y.r = x.r
  c : y.c = x.c
  eq : x.zs.map cnC = y.zs.map cnC
  max : x.zs.length ≤ 4096
  xq : q < x.lo
  yq : q < y.lo
  base : B ≤ x.lo
theorem fit6 {V0 W : World} {B lo q : Nat} {x0 x1 x2 x3 x4 x5 y0 y1 y2 y3 y4 y5 : MI} (hlo : lo = V0.heap.size) (hm : Mid lo q V0 W) (_ : B ≤ q)
    (a0 : Two V0 B q x0 y0) (a1 : Two V0 B q x1 y1) (a2 : Two V0 B q x2 y2) (a3 : Two V0 B q x3 y3) (a4 : Two V0 B q x4 y4) (a5 : Two V0 B q x5 y5)
    (o0 : x0.hi ≤ x1.lo) (o1 : x1.hi ≤ x2.lo) (o2 : x2.hi ≤ x3.lo) (o3 : x3.hi ≤ x4.lo) (o4 : x4.hi ≤ x5.lo) (p1 : x1.lo ≤ x1.hi) (p2 : x2.lo ≤ x2.hi) (p3 : x3.lo ≤ x3.hi) (p4 : x4.lo ≤ x4.hi) :
    Fit W B [x0, x1, x2, x3, x4, x5] [y0, y1, y2, y3, y4, y5] := by
  have key : ∀ {k : Nat} {g h : MI}, [x0, x1, x2, x3, x4, x5][k]? = some g → [y0, y1, y2, y3, y4, y5][k]? = some h → Two V0 B q g h := by
    intro k g h h1 h2
    match k, h1, h2 with
    | 0, h1, h2 => simp at h1 h2; subst h1 h2; exact a0
    | 1, h1, h2 => simp at h1 h2; subst h1 h2; exact a1
    | 2, h1, h2 => simp at h1 h2; subst h1 h2; exact a2
    | 3, h1, h2 => simp at h1 h2; subst h1 h2; exact a3
    | 4, h1, h2 => simp at h1 h2; subst h1 h2; exact a4
    | 5, h1, h2 => simp at h1 h2; subst h1 h2; exact a5
    | _ + 6, h1, _ => simp at h1
  have some6 : ∀ {k : Nat} {g : MI}, [x0, x1, x2, x3, x4, x5][k]? = some g → ∃ h, [y0, y1, y2, y3, y4, y5][k]? = some h := by
    intro k g h1
    have : k < 6 := by have := lt_of_some h1; simpa using this
    exact ⟨_, List.getElem?_eq_getElem (by simpa using this)⟩
  have some6' : ∀ {k : Nat} {h : MI}, [y0, y1, y2, y3, y4, y5][k]? = some h → ∃ g, [x0, x1, x2, x3, x4, x5][k]? = some g := by
    intro k g h1
    have : k < 6 := by have := lt_of_some h1; simpa using this
    exact ⟨_, List.getElem?_eq_getElem (by simpa using this)⟩
  refine ⟨rfl, by simp, by simp, ?_, ?_, ?_, ?_⟩
  · intro k g h h1 h2
    have t := key h1 h2
    exact ⟨t.r, t.c, t.eq, t.max⟩
  · intro k g h1
    obtain ⟨h, h2⟩ := some6 h1
    have t := key h1 h2
    exact ⟨hm.lst t.x0.lst (by rw [hlo]; exact t.x0.hi) t.xq, t.base⟩
  · intro k h h2
    obtain ⟨g, h1⟩ := some6' h2
    have t := key h1 h2
    exact (hm.lst t.y0.lst (by rw [hlo]; exact t.y0.hi) t.yq).reads
  · intro j k x y h1 h2 hjk
    have hk : k < 6 := by have := lt_of_some h2; simpa using this
    have get : ∀ {i : Nat} {z : MI}, [x0, x1, x2, x3, x4, x5][i]? = some z → (i = 0 ∧ z = x0) ∨ (i = 1 ∧ z = x1) ∨ (i = 2 ∧ z = x2) ∨ (i = 3 ∧ z = x3) ∨ (i = 4 ∧ z = x4) ∨ (i = 5 ∧ z = x5) := by
      intro i z h
      match i, h with
      | 0, h | 1, h | 2, h | 3, h | 4, h | 5, h => simp at h; simp [h]
      | _ + 6, h => simp at h
    rcases get h1 with ⟨rfl, rfl⟩ | ⟨rfl, rfl⟩ | ⟨rfl, rfl⟩ | ⟨rfl, rfl⟩ | ⟨rfl, rfl⟩ | ⟨rfl, rfl⟩ <;> rcases get h2 with ⟨rfl, rfl⟩ | ⟨rfl, rfl⟩ | ⟨rfl, rfl⟩ | ⟨rfl, rfl⟩ | ⟨rfl, rfl⟩ | ⟨rfl, rfl⟩ <;> omega
/-- One more is told. -/
def RetTell (V0 : World) (lo q : Nat) (gs hs : List MI) (e : Ending) (w' : World) : Prop :=
  e = .returned (.bool true) ∧ (∃ Sg Sw, Told2 w' lo q Sg Sw gs hs) ∧ But lo q V0 w'
theorem tell_c {V0 w : World} {B lo q : Nat} {Sg Sw : Value} {gs hs : List MI} {x y : MI} {er : Int} (hT : Told2 w lo q Sg Sw gs hs) (hq : q < lo) (hlo : lo = V0.heap.size) (hb : But lo q V0 w) (hn : gs.length ≤ 100) (hn' : hs.length ≤ 100) (h : Two V0 B q x y) :
    Calls Try.prog 41 #[.pointer (some ⟨q, 0, none⟩), mval x.r x.c (.slice x.A x.zs.length x.cap), .int .i64 er, mval y.r y.c (.slice y.A y.zs.length y.cap), .int .i64 er] w (RetTell V0 lo q (gs ++ [x]) (hs ++ [y])) := by
  have hR : ∀ z : MI, z.At V0 → q < z.lo → ∀ V, But lo q w V → Reads V V.heap.size z.A (nums z.zs) := fun z hz hq V hV =>
    ((hb.trans hV).lst hz.lst (by rw [hlo]; exact hz.hi) (.inl hq)).reads
  have h1 := hR x h.x0 h.xq
  have h2 := hR y h.y0 h.yq
  have h3 := h.eq
  have h4 := h.max
  have h5 := h.r
  have h6 := h.c
  obtain ⟨xb, xr, xc, xA, xz, xk, xl, xh⟩ := x
  obtain ⟨yb, yr, yc, yA, yz, yk, yl, yh⟩ := y
  simp only at h5 h6
  subst h5 h6
  exact (tell_of lo q Sg Sw gs hs xb yr yc xA xz xk xl xh yb yA yz yk yl yh er w hT hq (by rw [hlo]; exact hb.size) hn hn' h3 h4 h1 h2).mono fun e w' ⟨p1, p2, p3⟩ => ⟨p1, p2, hb.trans p3⟩
theorem right_c {W : World} {B lo q : Nat} {Sg Sw : Value} {gs hs : List MI} (hT : Told2 W lo q Sg Sw gs hs) (hB : B ≤ W.heap.size) (hF : Fit W B gs hs) :
    Calls Try.prog 50 #[.pointer (some ⟨q, 0, none⟩), .slice none 0 0] W fun e w' => e = .returned (.bool true) ∧ Below B W w' := by
  obtain ⟨g1, c1, rfl, -, -⟩ := hT.got.form hF.pos
  obtain ⟨g2, c2, rfl, -, -⟩ := hT.want.form (by rw [hF.len]; exact hF.pos)
  rw [hF.len] at hT
  exact right_of B lo q gs hs g1 c1 g2 c2 W hT hB hF
end Go.Proofs.Ytdkcdcbbpebgmaa
namespace Go.Proofs.Ytdkcdcbbpebgmaa
open Go.RowKit Fl Ieee
set_option maxRecDepth 20000
/-- A function of two matrices answers so, whatever the world. -/
def Ans2 (f : FuncId) (R0 C0 R1 C1 : Int) (l0 l1 : List C) (r k : Int) (L : List C) (er : Int) : Prop :=
  ∀ (A B : Option Addr) (za zb : List C) (ca cb : Nat) (W : World), za.map cnC = l0.map cnC → zb.map cnC = l1.map cnC → Reads W W.heap.size A (nums za) → Reads W W.heap.size B (nums zb) →
    Calls Try.prog f #[mval R0 C0 (.slice A za.length ca), mval R1 C1 (.slice B zb.length cb)] W (RetMO r k L er W)
def Ans1 (f : FuncId) (R0 C0 : Int) (l0 : List C) (r k : Int) (L : List C) (er : Int) : Prop :=
  ∀ (A : Option Addr) (za : List C) (ca : Nat) (W : World), za.map cnC = l0.map cnC → ltCs za → Reads W W.heap.size A (nums za) →
    Calls Try.prog f #[mval R0 C0 (.slice A za.length ca)] W (RetMO r k L er W)
def AnsS (f : FuncId) (i j R0 C0 : Int) (l0 : List C) (r k : Int) (L : List C) (er : Int) : Prop :=
  ∀ (A : Option Addr) (za : List C) (ca : Nat) (W : World), za.map cnC = l0.map cnC → ltCs za → Reads W W.heap.size A (nums za) →
    Calls Try.prog f #[mval R0 C0 (.slice A za.length ca), .int .i64 i, .int .i64 j] W (RetMO r k L er W)
def Tst2 (f : FuncId) (R0 C0 R1 C1 : Int) (l0 l1 : List C) (b : Bool) : Prop :=
  ∀ (A B : Option Addr) (za zb : List C) (ca cb : Nat) (W : World), za.map cnC = l0.map cnC → zb.map cnC = l1.map cnC → Reads W W.heap.size A (nums za) → Reads W W.heap.size B (nums zb) →
    Calls Try.prog f #[mval R0 C0 (.slice A za.length ca), mval R1 C1 (.slice B zb.length cb)] W (RetBB b W)
def Tst1 (f : FuncId) (R0 C0 : Int) (l0 : List C) (b : Bool) : Prop :=
  ∀ (A : Option Addr) (za : List C) (ca : Nat) (W : World), za.map cnC = l0.map cnC → ltCs za → Reads W W.heap.size A (nums za) →
    Calls Try.prog f #[mval R0 C0 (.slice A za.length ca)] W (RetBB b W)
def TstC (f : FuncId) (R0 C0 : Int) (n : Nat) (v : Int) : Prop :=
  ∀ (A : Option Addr) (m ca : Nat) (W : World), m = n → Calls Try.prog f #[mval R0 C0 (.slice A m ca)] W (FromV (.int .i64 v) W.heap.size W)
section
variable {R0 C0 R1 C1 : Int} {l0 l1 : List C} {i j : Int}
theorem Add_s : Ans2 29 R0 C0 R1 C1 l0 l1 (ifI (okP R0 C0 R1 C1 l0.length l1.length) R0) (ifI (okP R0 C0 R1 C1 l0.length l1.length) C0) (bothL pAdd R0 C0 R1 C1 l0 l1) (erB (okP R0 C0 R1 C1 l0.length l1.length)) :=
  fun _ _ _ _ _ _ _ h h' hA hB => Add_l h h' hA hB
theorem rAdd_s : Ans2 35 R0 C0 R1 C1 l0 l1 (ifI (okP R0 C0 R1 C1 l0.length l1.length) R0) (ifI (okP R0 C0 R1 C1 l0.length l1.length) C0) (bothL pAdd R0 C0 R1 C1 l0 l1) (erB (okP R0 C0 R1 C1 l0.length l1.length)) := by
  intro A B za zb ca cb W h h' hA hB
  have e := mo_of (rAdd_x R0 C0 R1 C1 A B za zb ca cb W hA hB)
  rw [bothL_congr h h'] at e
  rw [map_len h, map_len h'] at e ⊢
  exact e
theorem Sub_s : Ans2 30 R0 C0 R1 C1 l0 l1 (ifI (okP R0 C0 R1 C1 l0.length l1.length) R0) (ifI (okP R0 C0 R1 C1 l0.length l1.length) C0) (bothL pSub R0 C0 R1 C1 l0 l1) (erB (okP R0 C0 R1 C1 l0.length l1.length)) :=
  fun _ _ _ _ _ _ _ h h' hA hB => Sub_l h h' hA hB
theorem rSub_s : Ans2 36 R0 C0 R1 C1 l0 l1 (ifI (okP R0 C0 R1 C1 l0.length l1.length) R0) (ifI (okP R0 C0 R1 C1 l0.length l1.length) C0) (bothL pSub R0 C0 R1 C1 l0 l1) (erB (okP R0 C0 R1 C1 l0.length l1.length)) := by
  intro A B za zb ca cb W h h' hA hB
  have e := mo_of (rSub_x R0 C0 R1 C1 A B za zb ca cb W hA hB)
  rw [bothL_congr h h'] at e
  rw [map_len h, map_len h'] at e ⊢
  exact e
theorem Mul_s : Ans2 31 R0 C0 R1 C1 l0 l1 (ifI (okQ R0 C0 R1 C1 l0.length l1.length) R0) (ifI (okQ R0 C0 R1 C1 l0.length l1.length) C1) (mulL R0 C0 R1 C1 l0 l1) (erB (okQ R0 C0 R1 C1 l0.length l1.length)) :=
  fun _ _ _ _ _ _ _ h h' hA hB => Mul_l h h' hA hB
theorem rMul_s : Ans2 37 R0 C0 R1 C1 l0 l1 (ifI (okQ R0 C0 R1 C1 l0.length l1.length) R0) (ifI (okQ R0 C0 R1 C1 l0.length l1.length) C1) (mulL R0 C0 R1 C1 l0 l1) (erB (okQ R0 C0 R1 C1 l0.length l1.length)) := by
  intro A B za zb ca cb W h h' hA hB
  have e := mo_of (rMul_x R0 C0 R1 C1 A B za zb ca cb W hA hB)
  rw [mulL_congr h h'] at e
  rw [map_len h, map_len h'] at e ⊢
  exact e
theorem Tr_s : Ans1 32 R0 C0 l0 (ifI (okM R0 C0 l0.length) C0) (ifI (okM R0 C0 l0.length) R0) (trL R0 C0 l0) (erB (okM R0 C0 l0.length)) :=
  fun _ _ _ _ h hl hA => Tr_l h hA hl
theorem rTr_s : Ans1 38 R0 C0 l0 (ifI (okM R0 C0 l0.length) C0) (ifI (okM R0 C0 l0.length) R0) (trL R0 C0 l0) (erB (okM R0 C0 l0.length)) := by
  intro A za ca W h hl hA
  have e := mo_of (rTr_x R0 C0 A za ca W hA hl)
  rw [trL_congr h] at e
  rw [map_len h] at e ⊢
  exact e
theorem Cj_s : Ans1 33 R0 C0 l0 (ifI (okM R0 C0 l0.length) R0) (ifI (okM R0 C0 l0.length) C0) (cjL R0 C0 l0) (erB (okM R0 C0 l0.length)) :=
  fun _ _ _ _ h hl hA => Cj_l h hA hl
theorem rCj_s : Ans1 39 R0 C0 l0 (ifI (okM R0 C0 l0.length) R0) (ifI (okM R0 C0 l0.length) C0) (cjL R0 C0 l0) (erB (okM R0 C0 l0.length)) := by
  intro A za ca W h hl hA
  have e := mo_of (rCj_x R0 C0 A za ca W hA hl)
  rw [cjL_congr h] at e
  rw [map_len h] at e ⊢
  exact e
theorem Sw_s : AnsS 34 i j R0 C0 l0 (ifI (swB R0 C0 l0.length i j) R0) (ifI (swB R0 C0 l0.length i j) C0) (swL R0 C0 l0 i j) (swE R0 C0 l0.length i j) :=
  fun _ _ _ _ h hl hA => Sw_l h hA hl
theorem rSw_s : AnsS 40 i j R0 C0 l0 (ifI (swB R0 C0 l0.length i j) R0) (ifI (swB R0 C0 l0.length i j) C0) (swL R0 C0 l0 i j) (swE R0 C0 l0.length i j) := by
  intro A za ca W h hl hA
  have e := mo_of (rSw_x R0 C0 A za ca i j W hA hl)
  rw [swL_congr h] at e
  rw [map_len h] at e ⊢
  exact e
theorem Same_s : Tst2 42 R0 C0 R1 C1 l0 l1 (likeB pSame R0 C0 R1 C1 l0 l1) := fun _ _ _ _ _ _ _ h h' hA hB => Same_l h h' hA hB
theorem Equal_s : Tst2 44 R0 C0 R1 C1 l0 l1 (likeB pEqual R0 C0 R1 C1 l0 l1) := fun _ _ _ _ _ _ _ h h' hA hB => Equal_l h h' hA hB
theorem rSame_s : Tst2 43 R0 C0 R1 C1 l0 l1 (likeB pSame R0 C0 R1 C1 l0 l1) := by
  intro A B za zb ca cb W h h' hA hB
  have e := rSame_x R0 C0 R1 C1 A B za zb ca cb W hA hB
  rw [likeB_congr h h'] at e
  exact e
theorem rEqual_s : Tst2 45 R0 C0 R1 C1 l0 l1 (likeB pEqual R0 C0 R1 C1 l0 l1) := by
  intro A B za zb ca cb W h h' hA hB
  have e := rEqual_x R0 C0 R1 C1 A B za zb ca cb W hA hB
  rw [likeB_congr h h'] at e
  exact e
theorem Sym_s : Tst1 48 R0 C0 l0 (symB R0 C0 l0) := fun _ _ _ _ h hl hA => Sym_l h hA hl
theorem rSym_s : Tst1 49 R0 C0 l0 (symB R0 C0 l0) := by
  intro A za ca W h hl hA
  have e := rSym_x R0 C0 A za ca W hA
  rw [symB_congr h] at e
  exact e
theorem Check_s {n : Nat} : TstC 46 R0 C0 n (if okM R0 C0 n then 0 else 4) := by
  rintro A m ca W rfl
  exact (Check_c R0 C0 A m ca W).mono fun _ _ h => h
theorem rCheck_s {n : Nat} : TstC 47 R0 C0 n (if okM R0 C0 n then 0 else 4) := by
  rintro A m ca W rfl
  exact (rCheck_c R0 C0 A m ca W).mono fun _ _ h => h
end
section
variable {lo q n : Nat} {W V : World} {A : Option Addr} {zs : List C} {xs : List Value} {r c : Int} {b cap : Nat}
/-- What lies below the block that changes stays readable. -/
theorem Reads.but (h : Reads W n A xs) (hn : n ≤ q) (hq : q < lo) (hb : But lo q W V) : Reads V n A xs :=
  h.keep fun p hp => World.cell?_of_block (hb.block p.block (by omega) (by omega))
/-- A matrix in a box, ahead of the block that changes. -/
theorem Has.but (h : Has W b r c A zs cap) (hr : Reads W n A (nums zs)) (hn : n ≤ q) (hq : q < lo) (hnW : n ≤ W.heap.size) (hb' : b < q) (hb : But lo q W V) : Has V b r c A zs cap :=
  ⟨hb.box h.1 (by omega) (by omega), Nat.lt_of_lt_of_le h.2.1 hb.size, (Reads.but hr hn hq hb).more (Nat.le_trans hnW hb.size), h.2.2.2⟩
end
end Go.Proofs.Ytdkcdcbbpebgmaa
