/- Lists of whole numbers held apart (turned from the texts of numbers by conv_int.py). -/
import Derived.Test.YtibjkmjccelcaaaApL
import Derived.Test.YtibjkmjccelcaaaLW3
namespace Go.Proofs.Ytibjkmjccelcaaa.AI
open Go.RowKit Fl Ieee
set_option maxRecDepth 20000
attribute [local go_sem] run_store_float run_store_complex
abbrev cnJ (z : Int) : Int := z
theorem intsV_set (zs : List Int) (k : Nat) (z : Int) : (intsV zs).set k (.int .i64 z) = intsV (zs.set k z) := by
  simp [intsV, List.map_set]
/-- A mark. -/
def mark (k i : Nat) : Int := -1000 * (k : Int) - (i : Int) - 7
def RetM (v : Int) (w : World) (e : Ending) (w' : World) : Prop := e = .returned (.int .i64 v) ∧ w = w'
def FromZ (v : Int) (B : Nat) (w : World) (e : Ending) (w' : World) : Prop := ∃ z : Int, e = .returned (.int .i64 z) ∧ cnJ z = v ∧ True ∧ Below B w w'
theorem from_c {P : Program} {f : FuncId} {args : Array Value} {B : Nat} {w V : World} {v : Int} (h : Calls P f args V (RetM v V)) (hb : Below B w V) : Calls P f args V (FromZ v B w) :=
  h.mono fun _ _ ⟨he, hw⟩ => ⟨v, he, rfl, trivial, hw ▸ hb⟩
theorem mark_c (k i : Nat) (hk : k ≤ 10000) (hi : i ≤ 1000000) (w : World) :
    Calls Try.prog 93 #[.int .i64 (k : Nat), .int .i64 (i : Nat)] w (RetM (mark k i) w) := by
  obtain ⟨a, ha⟩ : ∃ a : Int, a = -1000 * (k : Int) := ⟨_, rfl⟩
  obtain ⟨b, hb⟩ : ∃ b : Int, b = a - (i : Int) := ⟨_, rfl⟩
  have hm : mark k i = b - 7 := by unfold mark; omega
  rw [hm]
  have e1 : wrap64 (-1000 * (k : Int)) = a := by unfold wrap64; omega
  have e2 : wrap64 (a - (i : Int)) = b := by unfold wrap64; omega
  have e3 : wrap64 (b - 7) = b - 7 := by unfold wrap64; omega
  clear hk hi ha hb hm
  go_enter Try.func93, Try.ntmps93
  go_wp2
  go_ret
  refine ⟨?_, rfl⟩
  show Ending.returned (.int .i64 (wrap64 (b - 7))) = _
  rw [e3]
section
variable {W V : World} {B q : Nat}
/-- A slice's value, read as a list. -/
def RdS (W : World) (S : Value) (zs : List Int) : Prop := ∃ A c, S = .slice A zs.length c ∧ (∀ ad : Addr, A = some ad → ad = ⟨ad.block, 0, none⟩) ∧ Reads W W.heap.size A (intsV zs)
theorem RdS.of_own {S : Value} {zs : List Int} (h : W.ownsRow B 3 1 S zs.length (intsV zs)) : RdS W S zs := by
  obtain ⟨A, m, c, rfl, rfl⟩ := slice_of_own h
  refine ⟨A, c, rfl, fun ad e => ?_, Reads.of_own h⟩
  subst e
  rcases h.2 with ⟨h1, _⟩ | ⟨g, cap, cur, h1, _⟩
  · cases h1
  · injection h1 with h2
    injection h2 with h3
    subst h3; rfl
theorem RdS.step {S : Value} {zs : List Int} {row : Option Nat} (h : RdS W S zs) (hg : W.grownBy V row) (hne : S.ownBlock = none ∨ S.ownBlock ≠ row) : RdS V S zs := by
  obtain ⟨A, c, rfl, h0, hr⟩ := h
  refine ⟨A, c, rfl, h0, fun hn => ?_⟩
  obtain ⟨ad, rfl, hb, hc⟩ := hr hn
  refine ⟨ad, rfl, Nat.lt_of_lt_of_le hb hg.size, fun j u hu => hg.cell (hc j u hu) ?_⟩
  rw [block_of_add]
  rcases hne with h | h
  · cases h
  · exact h
/-- All are marks of list k. -/
def marked (k : Nat) (zs : List Int) : Prop := ∀ p z, zs[p]? = some z → cnJ z = mark (k + 10) p
theorem marked_snoc {k : Nat} {zs : List Int} {z : Int} (h : marked k zs) (hz : cnJ z = mark (k + 10) zs.length) : marked k (zs ++ [z]) := by
  intro p y hy
  rcases Nat.lt_or_ge p zs.length with h1 | h1
  · rw [List.getElem?_append_left h1] at hy; exact h p y hy
  · rw [List.getElem?_append_right h1] at hy
    rcases Nat.lt_or_ge (p - zs.length) 1 with h2 | h2
    · have e : p = zs.length := by omega
      subst e
      simp at hy
      subst hy; exact hz
    · rw [List.getElem?_eq_none (by simpa using h2)] at hy; cases hy
/-- Which lists lie apart; where their own list lies. -/
structure Apt (q : Nat) (Ss : List Value) : Prop where
  apart : ∀ (j k : Nat) (S S' : Value), Ss[j]? = some S → Ss[k]? = some S' → j ≠ k → S.ownBlock = none ∨ S.ownBlock ≠ S'.ownBlock
  notq : ∀ (k : Nat) (S : Value), Ss[k]? = some S → S.ownBlock ≠ some q
/-- Before: each list is a row of its own. -/
structure Fam (W : World) (B q : Nat) (Ss : List Value) (zss : List (List Int)) : Prop where
  len : zss.length = Ss.length
  own : ∀ (k : Nat) (S : Value) (zs : List Int), Ss[k]? = some S → zss[k]? = some zs → W.ownsRow B 3 1 S zs.length (intsV zs)
  list : ∀ (k : Nat) (S : Value), Ss[k]? = some S → W.cell? ⟨q, k, none⟩ = some S
theorem Fam.drewN {Ss : List Value} {zss : List (List Int)} (h : Fam W B q Ss zss) (n : Nat) : Fam (W.drewN n) B q Ss zss := ⟨h.len, h.own, h.list⟩
theorem Fam.below {Ss : List Value} {zss : List (List Int)} (h : Fam W B q Ss zss) (hb : Below W.heap.size W V) : Fam V B q Ss zss :=
  ⟨h.len, fun k S zs h1 h2 => own_below (h.own k S zs h1 h2) hb, fun k S hk => (hb.cell (p := ⟨q, k, none⟩) (block_lt_of_cell (h.list k S hk))).trans (h.list k S hk)⟩
/-- One place is written. -/
theorem Fam.set {Ss : List Value} {zss : List (List Int)} {k i g n c : Nat} {zs : List Int} {z : Int} (h : Fam W B q Ss zss) (ha : Apt q Ss) (hS : Ss[k]? = some (.slice (some ⟨g, 0, none⟩) n c)) (hz : zss[k]? = some zs) (hn : n = zs.length) :
    Fam (W.setCell ⟨g, i, none⟩ (.int .i64 z)) B q Ss (zss.set k (zs.set i z)) := by
  subst hn
  have hs := (h.own k _ zs hS hz).stored i (.int .i64 z)
  rw [intsV_set] at hs
  have hk : k < zss.length := lt_of_some hz
  refine ⟨by rw [List.length_set]; exact h.len, fun j S ys hj hy => ?_, fun j S hj => ?_⟩
  · by_cases e : j = k
    · subst e
      rw [hS] at hj
      injection hj with hj
      subst hj
      rw [List.getElem?_set_self hk] at hy
      injection hy with hy
      subst hy
      rw [List.length_set]
      exact hs.1
    · rw [List.getElem?_set_ne (fun h => e h.symm)] at hy
      refine (h.own j S ys hj hy).kept hs.2 ?_
      exact ha.apart j k S _ hj hS e
  · have hq : g ≠ q := fun e => ha.notq k _ hS (by rw [e]; rfl)
    exact (World.cell?_setCell_other _ _ _ _ (fun e => hq (by injection e))).trans (h.list j S hj)
end
section

theorem RdS.keep {W V : World} {S : Value} {zs : List Int} {row : Option Nat} (h : RdS W S zs) (hg : W.grownBy V row) (hne : ∀ b, row = some b → zs = [] ∨ S.ownBlock ≠ some b) : RdS V S zs := by
  by_cases h0 : zs = []
  · obtain ⟨A, c, rfl, h1, _⟩ := h
    exact ⟨A, c, rfl, h1, fun hn => by subst h0; simp at hn⟩
  · exact h.step hg (ne_row fun b hb => (hne b hb).resolve_left h0)
theorem RdS.below {W V : World} {S : Value} {zs : List Int} (h : RdS W S zs) (hb : Below W.heap.size W V) : RdS V S zs := by
  obtain ⟨A, c, rfl, h1, hr⟩ := h
  exact ⟨A, c, rfl, h1, (hr.below hb).more hb.size⟩

/-- In round k of the second loop: all but list k. -/
structure Rest (W : World) (B q k : Nat) (Ss : List Value) (zss : List (List Int)) (Gs : List Value) (yss : List (List Int)) (gv : Value) : Prop where
  reads : ∀ (j : Nat) (S : Value) (zs : List Int), j ≠ k → Ss[j]? = some S → zss[j]? = some zs → RdS W S zs
  own : ∀ (j : Nat) (S : Value) (zs : List Int), k < j → Ss[j]? = some S → zss[j]? = some zs → W.ownsRow B 3 1 S zs.length (intsV zs)
  ownG : ∀ (j : Nat) (G : Value) (ys : List Int), Gs[j]? = some G → yss[j]? = some ys → W.ownsRow B 3 1 G ys.length (intsV ys)
  ownL : W.ownsRow B 23 1 gv Gs.length Gs
  list : ∀ (j : Nat) (S : Value), Ss[j]? = some S → W.cell? ⟨q, j, none⟩ = some S
  lenz : zss.length = Ss.length
  leny : yss.length = Gs.length
/-- Block b is none of theirs. -/
structure Off (q k : Nat) (Ss : List Value) (Gs : List Value) (gv : Value) (b : Nat) : Prop where
  s : ∀ (j : Nat) (S : Value), j ≠ k → Ss[j]? = some S → S.ownBlock ≠ some b
  g : ∀ (j : Nat) (G : Value), Gs[j]? = some G → G.ownBlock ≠ some b
  l : gv.ownBlock ≠ some b
  q : q ≠ b
theorem some_len {α β : Type} {l : List α} {m : List β} {j : Nat} {x : α} (h : l[j]? = some x) (e : m.length = l.length) : ∃ y, m[j]? = some y :=
  some_of_lt (by have := lt_of_some h; omega)
variable {W V : World} {B q k : Nat} {Ss : List Value} {zss : List (List Int)} {Gs : List Value} {yss : List (List Int)} {gv : Value}
theorem Rest.keep {row : Option Nat} (h : Rest W B q k Ss zss Gs yss gv) (hg : W.grownBy V row) (ho : ∀ b, row = some b → Off q k Ss Gs gv b) : Rest V B q k Ss zss Gs yss gv where
  reads j S zs hj h1 h2 := (h.reads j S zs hj h1 h2).keep hg fun b hb => .inr ((ho b hb).s j S hj h1)
  own j S zs hj h1 h2 := (h.own j S zs hj h1 h2).kept hg (ne_row fun b hb => (ho b hb).s j S (by omega) h1)
  ownG j G ys h1 h2 := (h.ownG j G ys h1 h2).kept hg (ne_row fun b hb => (ho b hb).g j G h1)
  ownL := h.ownL.kept hg (ne_row fun b hb => (ho b hb).l)
  list j S h1 := hg.cell (h.list j S h1) (fun e => (ho q e.symm).q rfl)
  lenz := h.lenz
  leny := h.leny
theorem Rest.below (h : Rest W B q k Ss zss Gs yss gv) (hb : Below W.heap.size W V) : Rest V B q k Ss zss Gs yss gv where
  reads j S zs hj h1 h2 := (h.reads j S zs hj h1 h2).below hb
  own j S zs hj h1 h2 := own_below (h.own j S zs hj h1 h2) hb
  ownG j G ys h1 h2 := own_below (h.ownG j G ys h1 h2) hb
  ownL := own_below h.ownL hb
  list j S h1 := (hb.cell (p := ⟨q, j, none⟩) (block_lt_of_cell (h.list j S h1))).trans (h.list j S h1)
  lenz := h.lenz
  leny := h.leny
/-- What lies apart from what, at the head of round k. -/
structure Dis (q k : Nat) (Ss : List Value) (Gs : List Value) (gv : Value) : Prop where
  g : ∀ (j : Nat) (G : Value) (j' : Nat) (S' : Value), Gs[j]? = some G → k ≤ j' → Ss[j']? = some S' → S'.ownBlock = none ∨ G.ownBlock ≠ S'.ownBlock
  s : ∀ (j : Nat) (S : Value), Ss[j]? = some S → S.ownBlock = none ∨ S.ownBlock ≠ gv.ownBlock
  l : ∀ (j : Nat) (G : Value), Gs[j]? = some G → G.ownBlock = none ∨ G.ownBlock ≠ gv.ownBlock
  q : gv.ownBlock ≠ some q
theorem Off.of_own {S : Value} {b : Nat} (ha : Apt q Ss) (hd : Dis q k Ss Gs gv) (hS : Ss[k]? = some S) (hb : S.ownBlock = some b) : Off q k Ss Gs gv b where
  s j S' hj h1 e := by
    rcases ha.apart k j S S' hS h1 (fun e => hj e.symm) with h | h
    · rw [hb] at h; cases h
    · exact h (by rw [hb, e])
  g j G h1 e := by
    rcases hd.g j G k S h1 (Nat.le_refl _) hS with h | h
    · rw [hb] at h; cases h
    · exact h (by rw [hb, e])
  l e := by
    rcases hd.s k S hS with h | h
    · rw [hb] at h; cases h
    · exact h (by rw [hb, e])
  q e := ha.notq k S hS (by rw [hb, e])
theorem Off.of_new {b N : Nat} (h : Rest W B q k Ss zss Gs yss gv) (hS : ∀ (j : Nat) (S : Value) (b : Nat), Ss[j]? = some S → S.ownBlock = some b → b < W.heap.size) (hq : q < W.heap.size) (hN : W.heap.size ≤ N) (hb : N ≤ b) : Off q k Ss Gs gv b where
  s j S _ h1 e := by have := hS j S b h1 e; omega
  g j G h1 e := by
    obtain ⟨ys, hy⟩ := some_len h1 h.leny
    have := ((h.ownG j G ys h1 hy).lt b e).2; omega
  l e := by have := (h.ownL.lt b e).2; omega
  q e := by omega
/-- In the inner loop: list k, of which i marks have been appended. -/
structure Inn (W0 W : World) (B q k n i : Nat) (Ss : List Value) (zss : List (List Int)) (Gs : List Value) (yss : List (List Int)) (gv S G : Value) (zs ys : List Int) : Prop where
  rest : Rest W B q k Ss zss Gs yss gv
  own : W.ownsRow B 3 1 G (n + i) (intsV ys)
  mkd : marked k ys
  pre : ∃ ts, ys = zs ++ ts
  rd : RdS W S zs
  size : W0.heap.size ≤ W.heap.size
  blk : G.ownBlock = S.ownBlock ∨ ∃ b, G.ownBlock = some b ∧ W0.heap.size ≤ b
theorem Inn.below {W0 : World} {n i : Nat} {S G : Value} {zs ys : List Int} (h : Inn W0 W B q k n i Ss zss Gs yss gv S G zs ys) (hb : Below W.heap.size W V) : Inn W0 V B q k n i Ss zss Gs yss gv S G zs ys :=
  ⟨h.rest.below hb, own_below h.own hb, h.mkd, h.pre, h.rd.below hb, Nat.le_trans h.size hb.size, h.blk⟩
/-- One mark more. -/
theorem Inn.next {W0 : World} {n i : Nat} {S G G' : Value} {zs ys : List Int} {z : Int} (h : Inn W0 W B q k n i Ss zss Gs yss gv S G zs ys) (ha : Apt q Ss) (hd : Dis q k Ss Gs gv) (hS : Ss[k]? = some S) (h0 : Rest W0 B q k Ss zss Gs yss gv)
    (hSb : ∀ (j : Nat) (S : Value) (b : Nat), Ss[j]? = some S → S.ownBlock = some b → b < W0.heap.size) (hq : q < W0.heap.size)
    (hown : V.ownsRow B 3 1 G' (n + i + 1) (intsV ys ++ [.int .i64 z])) (hg : W.grownBy V G.ownBlock) (hat : G'.ownBlock = G.ownBlock ∨ (G'.ownBlock = some W.heap.size ∧ W.grownBy V none)) (hz : cnJ z = mark (k + 10) ys.length) :
    Inn W0 V B q k n (i + 1) Ss zss Gs yss gv S G' zs (ys ++ [z]) where
  rest := h.rest.keep hg fun b hb => by
    rcases h.blk with e | ⟨b', e, hb'⟩
    · exact Off.of_own ha hd hS (by rw [← e, hb])
    · rw [hb] at e; injection e with e; subst e
      exact Off.of_new h0 hSb hq (Nat.le_refl _) hb'
  own := by
    have e : intsV (ys ++ [z]) = intsV ys ++ [.int .i64 z] := by simp [intsV]
    rw [e]; exact hown
  mkd := marked_snoc h.mkd hz
  pre := by obtain ⟨ts, e⟩ := h.pre; exact ⟨ts ++ [z], by rw [e, List.append_assoc]⟩
  rd := by
    rcases hat with hat | ⟨-, hn⟩
    · rcases h.blk with e | ⟨b, e, hb⟩
      · obtain ⟨A, c, rfl, h1, hr⟩ := h.rd
        refine ⟨A, c, rfl, h1, fun hpos => ?_⟩
        obtain ⟨ad, rfl, hlt, hc⟩ := hr hpos
        obtain ⟨g, cap, rfl, hBg, hgl⟩ := hown.form (by omega)
        have e2 : g = ad.block := by
          have := hat.trans e
          simpa [Value.ownBlock] using this
        obtain ⟨ts, hys⟩ := h.pre
        have hS0 := h.rd
        refine ⟨ad, rfl, by rw [← e2]; exact hgl, fun j u hj => ?_⟩
        have hjl : j < zs.length := by have := lt_of_some hj; simpa [intsV] using this
        have hcell := hown.cellAt j (by have := hown.1; simp [intsV] at this; rw [hys] at this; simp at this; omega)
        have hsame : ad.add j = ⟨g, j, none⟩ := by
          have e5 := h1 ad rfl
          rw [← e2] at e5
          rw [e5]; exact addr0 g j
        rw [hsame, hcell, List.getElem?_append_left (by simp [intsV, hys]; omega), hys]
        have e3 : intsV (zs ++ ts) = intsV zs ++ intsV ts := by simp [intsV]
        rw [e3, List.getElem?_append_left (by simpa [intsV] using hjl)]
        exact hj
      · refine h.rd.keep hg fun b' hb' => .inr fun e3 => ?_
        rw [e] at hb'; injection hb' with hb'; subst hb'
        have := hSb k S b hS e3; omega
    · exact h.rd.keep hn fun b hb => by cases hb
  size := Nat.le_trans h.size hg.size
  blk := by
    rcases hat with hat | ⟨hat, -⟩
    · rcases h.blk with e | ⟨b, e, hb⟩
      · exact .inl (hat.trans e)
      · exact .inr ⟨b, hat.trans e, hb⟩
    · exact .inr ⟨_, hat, h.size⟩
end
section
variable {w1 W V : World} {B q k : Nat} {Ss : List Value} {zss : List (List Int)} {Gs : List Value} {yss : List (List Int)} {gv : Value}
/-- At the head of the second loop: k lists have been gone on with. -/
structure Out (w1 W : World) (B q k : Nat) (Ss : List Value) (zss : List (List Int)) (Gs : List Value) (yss : List (List Int)) (gv : Value) : Prop where
  reads : ∀ (j : Nat) (S : Value) (zs : List Int), Ss[j]? = some S → zss[j]? = some zs → RdS W S zs
  own : ∀ (j : Nat) (S : Value) (zs : List Int), k ≤ j → Ss[j]? = some S → zss[j]? = some zs → W.ownsRow B 3 1 S zs.length (intsV zs)
  ownG : ∀ (j : Nat) (G : Value) (ys : List Int), Gs[j]? = some G → yss[j]? = some ys → W.ownsRow B 3 1 G ys.length (intsV ys)
  ownL : W.ownsRow B 23 1 gv Gs.length Gs
  list : ∀ (j : Nat) (S : Value), Ss[j]? = some S → W.cell? ⟨q, j, none⟩ = some S
  lenz : zss.length = Ss.length
  leny : yss.length = Gs.length
  lenG : Gs.length = k
  mkd : ∀ (j : Nat) (ys : List Int), yss[j]? = some ys → marked j ys
  lens : ∀ (j : Nat) (ys zs : List Int), yss[j]? = some ys → zss[j]? = some zs → ys.length = zs.length + 6
  dis : Dis q k Ss Gs gv
  size : w1.heap.size ≤ W.heap.size
theorem Out.rest (h : Out w1 W B q k Ss zss Gs yss gv) : Rest W B q k Ss zss Gs yss gv :=
  ⟨fun j S zs _ => h.reads j S zs, fun j S zs hj => h.own j S zs (by omega), h.ownG, h.ownL, h.list, h.lenz, h.leny⟩
theorem Out.start (h : Fam w1 B q Ss zss) : Out w1 w1 B q 0 Ss zss [] [] (.slice none 0 0) where
  reads j S zs h1 h2 := RdS.of_own (h.own j S zs h1 h2)
  own j S zs _ h1 h2 := h.own j S zs h1 h2
  ownG j G ys h1 _ := by simp at h1
  ownL := World.ownsRow_nil _ _ _ _
  list := h.list
  lenz := h.len
  leny := rfl
  lenG := rfl
  mkd j ys h1 := by simp at h1
  lens j ys zs h1 _ := by simp at h1
  dis := ⟨fun j G j' S' h1 => by simp at h1, fun j S h1 => by cases hb : S.ownBlock with
    | none => exact .inl rfl
    | some b => exact .inr (by simp [Value.ownBlock]), fun j G h1 => by simp at h1, by simp [Value.ownBlock]⟩
  size := Nat.le_refl _
theorem Out.inn {S : Value} {zs : List Int} (h : Out w1 W B q k Ss zss Gs yss gv) (hS : Ss[k]? = some S) (hz : zss[k]? = some zs) (hm : marked k zs) : Inn W W B q k zs.length 0 Ss zss Gs yss gv S S zs zs :=
  ⟨h.rest, h.own k S zs (Nat.le_refl _) hS hz, hm, ⟨[], by simp⟩, h.reads k S zs hS hz, Nat.le_refl _, .inl rfl⟩
theorem Out.next {W0 : World} {n : Nat} {S G gv' : Value} {zs ys : List Int} (h : Out w1 W0 B q k Ss zss Gs yss gv) (hS : Ss[k]? = some S) (hz : zss[k]? = some zs) (hn : n = zs.length) (ha : Apt q Ss)
    (hSb : ∀ (j : Nat) (S : Value) (b : Nat), Ss[j]? = some S → S.ownBlock = some b → b < w1.heap.size) (hq : q < w1.heap.size)
    (hi : Inn W0 W B q k n 6 Ss zss Gs yss gv S G zs ys) (hown : V.ownsRow B 23 1 gv' (Gs.length + 1) (Gs ++ [G])) (hg : W.grownBy V gv.ownBlock) (hat : gv'.ownBlock = gv.ownBlock ∨ (gv'.ownBlock = some W.heap.size ∧ W.grownBy V none)) :
    Out w1 V B q (k + 1) Ss zss (Gs ++ [G]) (yss ++ [ys]) gv' := by
  subst hn
  have hyl : ys.length = zs.length + 6 := by have := hi.own.1; simpa [intsV] using this
  obtain ⟨gb, gc, hGv, hgB, hgl⟩ := hi.own.form (by omega)
  have hGb : G.ownBlock = some gb := by rw [hGv]; rfl
  have hGl : G.ownBlock ≠ gv.ownBlock := by
    rcases hi.blk with e | ⟨b, e, hb⟩
    · rcases h.dis.s k S hS with h1 | h1
      · rw [hGb, h1] at e; cases e
      · rw [e]; exact h1
    · intro e2
      have := (h.ownL.lt b (by rw [← e2, e])).2; omega
  have hGrow : W.ownsRow B 3 1 G ys.length (intsV ys) := by rw [hyl]; exact hi.own
  have hsW : w1.heap.size ≤ W.heap.size := Nat.le_trans h.size hi.size
  have gcase : ∀ (j : Nat) (G' : Value) (ys' : List Int), (Gs ++ [G])[j]? = some G' → (yss ++ [ys])[j]? = some ys' → (Gs[j]? = some G' ∧ yss[j]? = some ys') ∨ (j = k ∧ G' = G ∧ ys' = ys) := fun j G' ys' h1 h2 => by
    rcases Nat.lt_or_ge j Gs.length with h3 | h3
    · rw [List.getElem?_append_left h3] at h1
      rw [List.getElem?_append_left (by rw [h.leny]; exact h3)] at h2
      exact .inl ⟨h1, h2⟩
    · have hj : j = Gs.length := by have := lt_of_some h1; simp at this; omega
      rw [List.getElem?_append_right h3, hj] at h1
      rw [List.getElem?_append_right (by rw [h.leny]; exact h3), h.leny, hj] at h2
      simp at h1 h2
      exact .inr ⟨hj.trans h.lenG, h1.symm, h2.symm⟩
  have gcase1 : ∀ (j : Nat) (G' : Value), (Gs ++ [G])[j]? = some G' → Gs[j]? = some G' ∨ (j = k ∧ G' = G) := fun j G' h1 => by
    obtain ⟨ys', h2⟩ := some_len (m := yss ++ [ys]) h1 (by simp [h.leny])
    rcases gcase j G' ys' h1 h2 with ⟨h3, _⟩ | ⟨h3, h4, _⟩
    · exact .inl h3
    · exact .inr ⟨h3, h4⟩
  have rowne : ∀ {v : Value}, (v.ownBlock = none ∨ v.ownBlock ≠ gv.ownBlock) → v.ownBlock = none ∨ v.ownBlock ≠ gv.ownBlock := id
  refine ⟨?_, ?_, ?_, by rw [List.length_append]; exact hown, ?_, h.lenz, by simp [h.leny], by simp [h.lenG], ?_, ?_, ?_, Nat.le_trans hsW hg.size⟩
  · intro j S' zs' h1 h2
    by_cases e : j = k
    · subst e
      rw [hS] at h1; injection h1 with h1; subst h1
      rw [hz] at h2; injection h2 with h2; subst h2
      exact hi.rd.step hg (h.dis.s _ _ hS)
    · exact (hi.rest.reads j S' zs' e h1 h2).step hg (h.dis.s _ _ h1)
  · intro j S' zs' hj h1 h2
    exact (hi.rest.own j S' zs' (by omega) h1 h2).kept hg (h.dis.s _ _ h1)
  · intro j G' ys' h1 h2
    rcases gcase j G' ys' h1 h2 with ⟨h3, h4⟩ | ⟨h3, h4, h5⟩
    · exact (hi.rest.ownG j G' ys' h3 h4).kept hg (h.dis.l _ _ h3)
    · subst h4 h5
      exact hGrow.kept hg (.inr hGl)
  · intro j S' h1
    exact hg.cell (hi.rest.list j S' h1) (fun e => h.dis.q e.symm)
  · intro j ys' h2
    obtain ⟨G', h1⟩ := some_len (m := Gs ++ [G]) h2 (by simp [h.leny])
    rcases gcase j G' ys' h1 h2 with ⟨h3, h4⟩ | ⟨h3, h4, h5⟩
    · exact h.mkd j ys' h4
    · subst h5; rw [h3]; exact hi.mkd
  · intro j ys' zs' h2 h6
    obtain ⟨G', h1⟩ := some_len (m := Gs ++ [G]) h2 (by simp [h.leny])
    rcases gcase j G' ys' h1 h2 with ⟨h3, h4⟩ | ⟨h3, h4, h5⟩
    · exact h.lens j ys' zs' h4 h6
    · subst h5; subst h3
      rw [hz] at h6; injection h6 with h6; subst h6
      exact hyl
  · refine ⟨?_, ?_, ?_, ?_⟩
    · intro j G' j' S' h1 hj' h2
      rcases gcase1 j G' h1 with h3 | ⟨h3, h4⟩
      · exact h.dis.g j G' j' S' h3 (by omega) h2
      · subst h4
        rcases hi.blk with e | ⟨b, e, hb⟩
        · rcases ha.apart k j' S S' hS h2 (by omega) with h5 | h5
          · rw [hGb, h5] at e; cases e
          · exact .inr (by rw [e]; exact h5)
        · cases hb' : S'.ownBlock with
          | none => exact .inl rfl
          | some b' =>
            refine .inr fun e2 => ?_
            have h5 := hSb j' S' b' h2 hb'
            have h6 := h.size
            rw [e] at e2; injection e2 with e2
            omega
    · intro j S' h1
      rcases hat with hat | ⟨hat, -⟩
      · rw [hat]; exact h.dis.s j S' h1
      · cases hb' : S'.ownBlock with
        | none => exact .inl rfl
        | some b' =>
          refine .inr fun e2 => ?_
          have h5 := hSb j S' b' h1 hb'
          rw [hat] at e2; injection e2 with e2
          omega
    · intro j G' h1
      rcases hat with hat | ⟨hat, -⟩
      · rw [hat]
        rcases gcase1 j G' h1 with h3 | ⟨h3, h4⟩
        · exact h.dis.l j G' h3
        · subst h4; exact .inr hGl
      · refine .inr fun e2 => ?_
        rcases gcase1 j G' h1 with h3 | ⟨h3, h4⟩
        · obtain ⟨ys', h4⟩ := some_len h3 h.leny
          have := ((hi.rest.ownG j G' ys' h3 h4).lt _ (e2.trans hat)).2; omega
        · subst h4
          have := (hGrow.lt _ (e2.trans hat)).2; omega
    · intro e2
      rcases hat with hat | ⟨hat, -⟩
      · exact h.dis.q (hat.symm.trans e2)
      · rw [hat] at e2; injection e2 with e2; omega
end

/-- The first lists are marked whole. -/
def MarkedTo (k : Nat) (zss : List (List Int)) : Prop := ∀ (j : Nat) (zs : List Int), j < k → zss[j]? = some zs → marked j zs
/-- Some places of list k are marked. -/
def part (k i : Nat) (zs : List Int) : Prop := ∀ (p : Nat) (z : Int), p < i → zs[p]? = some z → cnJ z = mark (k + 10) p
theorem part_set {k i : Nat} {zs : List Int} {z : Int} (h : part k i zs) (hz : cnJ z = mark (k + 10) i) : part k (i + 1) (zs.set i z) := by
  intro p y hp hy
  by_cases e : i = p
  · subst e
    rw [List.getElem?_set_self'] at hy
    cases hzi : zs[i]? with
    | none => rw [hzi] at hy; cases hy
    | some u => rw [hzi] at hy; simp at hy; subst hy; exact hz
  · rw [List.getElem?_set_ne e] at hy
    exact h p y (by omega) hy

theorem infoSlI : (Try.prog.info? 23).map (fun i => (i.zero, i.size, i.bytes)) = some (some (.slice none 0 0), 1, 24) := by kernel_rfl
def LoopA (w : World) (B q m : Nat) (Ss : List Value) (lens : List Nat) (k : Nat) (wr : World) : Prop :=
  ∃ zss : List (List Int), k ≤ m ∧ Fam wr B q Ss zss ∧ zss.map List.length = lens ∧ MarkedTo k zss ∧ Below B w wr
def LoopB (w : World) (B q : Nat) (Ss : List Value) (lens : List Nat) (k n i : Nat) (wr : World) : Prop :=
  ∃ (zss : List (List Int)) (zs : List Int), i ≤ n ∧ Fam wr B q Ss zss ∧ zss.map List.length = lens ∧ MarkedTo k zss ∧ zss[k]? = some zs ∧ zs.length = n ∧ part k i zs ∧ Below B w wr
theorem LoopB.next {w wr V : World} {B q k n i g c : Nat} {Ss : List Value} {lens : List Nat} {z : Int} (h : LoopB w B q Ss lens k n i wr) (ha : Apt q Ss) (hS : Ss[k]? = some (.slice (some ⟨g, 0, none⟩) n c)) (hi : i < n) (hg : B ≤ g) (hB : B ≤ wr.heap.size)
    (hV : Below wr.heap.size wr V) (hz : cnJ z = mark (k + 10) i) : LoopB w B q Ss lens k n (i + 1) (V.setCell ⟨g, i, none⟩ (.int .i64 z)) := by
  obtain ⟨zss, zs, h1, h2, h3, h4, h5, h6, h7, h8⟩ := h
  have hk : k < zss.length := lt_of_some h5
  refine ⟨zss.set k (zs.set i z), zs.set i z, hi, (h2.below hV).set (z := z) ha hS h5 h6.symm, ?_, ?_, ?_, ?_, part_set h7 hz, (h8.trans (hV.mono hB)).setCell hg _⟩
  · rw [List.map_set, List.length_set, ← h3]
    apply List.ext_getElem?
    intro j
    by_cases e : k = j
    · subst e
      rw [List.getElem?_set_self (by simpa using hk), List.getElem?_map, h5]; rfl
    · rw [List.getElem?_set_ne e]
  · intro j ys hj hy
    rw [List.getElem?_set_ne (by omega)] at hy
    exact h4 j ys hj hy
  · rw [List.getElem?_set_self hk]
  · rw [List.length_set]; exact h6
/-- What is known behind the first loops: all lists are marked. -/
def AllMarked (w : World) (B q : Nat) (Ss : List Value) (lens : List Nat) (wr : World) : Prop :=
  ∃ zss : List (List Int), Fam wr B q Ss zss ∧ zss.map List.length = lens ∧ (∀ (j : Nat) (zs : List Int), zss[j]? = some zs → marked j zs) ∧ Below B w wr
set_option maxHeartbeats 4000000 in
theorem Apart_try (B q m mc : Nat) (Ss : List Value) (lens : List Nat) (zs0 : List (List Int)) (w : World) (hm : Ss.length = m) (hm100 : m ≤ 100) (ha : Apt q Ss) (hF : Fam w B q Ss zs0) (hl : zs0.map List.length = lens) (hB : B ≤ w.heap.size) (hln : ∀ n ∈ lens, n ≤ 5000) :
    Calls Try.prog 77 #[.slice (some ⟨q, 0, none⟩) m mc] w fun e w' => e = .returned (.bool true) ∧ Below B w w' := by
  have HF0 := Lib.hid hF
  have HL0 := Lib.hid hl
  have HA := Lib.hid ha
  have HM := Lib.hid hm
  have HM100 := Lib.hid hm100
  have HB := Lib.hid hB
  have HLN := Lib.hid hln
  clear hm hm100 ha hF hl hB hln
  obtain ⟨i0, hi0, hz0, hz1, hz2⟩ := info_parts infoInt9
  obtain ⟨iS, his, hs0, hs1, hs2⟩ := info_parts infoSlI
  go_enter Try.func77, Try.ntmps77
  go_wp2
  go_loopw [3] (fun kv wr => ∃ k : Nat, kv = .int .i64 (k : Nat) ∧ LoopA w B q m Ss lens k wr) (fun kv _ => m - (intOf kv).toNat)
  case atStart => exact ⟨0, rfl, zs0, Nat.zero_le _, HF0.out, HL0.out, fun j zs hj _ => absurd hj (Nat.not_lt_zero _), Below.refl _ _⟩
  case round =>
    obtain ⟨k, rfl, hrl⟩ := hrel
    have HR := Lib.hid hrl
    obtain ⟨-, hk, -⟩ := hrl
    have hkb : k < 4611686018427387904 := by have := HM100.out; omega
    by_cases hlt : k < m
    · have hlti : (k : Int) < (m : Int) := Int.ofNat_lt.2 hlt
      obtain ⟨zss, -, hf, hlen, hmk, hbw⟩ := HR.out
      obtain ⟨S, hS⟩ := some_of_lt (l := Ss) (k := k) (by rw [HM.out]; exact hlt)
      obtain ⟨zs, hzs⟩ := some_of_lt (l := zss) (k := k) (by rw [hf.len, HM.out]; exact hlt)
      obtain ⟨A, n, c, rfl, hn⟩ := slice_of_own (hf.own k S zs hS hzs)
      have hn5 : n ≤ 5000 := by
        refine HLN.out n ?_
        rw [hn, ← hlen]
        exact List.mem_map_of_mem (List.mem_of_getElem? hzs)
      have HN5 := Lib.hid hn5
      have HSk := Lib.hid hS
      have hq := hf.list k _ hS
      have HB0 := Lib.hid (show LoopB w B q Ss lens k n 0 wr from ⟨zss, zs, Nat.zero_le _, hf, hlen, hmk, hzs, hn.symm, fun p z hp => absurd hp (Nat.not_lt_zero _), hbw⟩)
      clear hf hlen hmk hbw hzs hn hS hn5 zs zss
      go_wp2
      go_loopw [4] (fun iv wr => ∃ i : Nat, iv = .int .i64 (i : Nat) ∧ LoopB w B q Ss lens k n i wr) (fun iv _ => n - (intOf iv).toNat)
      case atStart => exact ⟨0, rfl, HB0.out⟩
      case round =>
        clear HB0 hq HR
        obtain ⟨i, rfl, hrl⟩ := hrel
        have HR := Lib.hid hrl
        obtain ⟨zss, zs, hi, hf, -, -, hzs, hzl, -, hbw⟩ := hrl
        have hq := hf.list k _ HSk.out
        have hkb2 : i < 4611686018427387904 := by have := HN5.out; omega
        rename World => wi
        by_cases hlt2 : i < n
        · have hlti2 : (i : Int) < (n : Int) := Int.ofNat_lt.2 hlt2
          obtain ⟨g, cap, hA, hBg, hgw⟩ := (hf.own k _ zs HSk.out hzs).form (by omega)
          have hAe : A = some ⟨g, 0, none⟩ := by injection hA
          subst hAe
          have hBw : B ≤ wi.heap.size := Nat.le_trans HB.out hbw.size
          obtain ⟨K, hK⟩ : ∃ K, K = k + 10 := ⟨_, rfl⟩
          have hw : IntKind.i64.wrap ((k : Int) + 10) = (K : Int) := by rw [hK]; exact wrap_ten k (by have := HM100.out; omega)
          have hkeep : ∀ V, Below wi.heap.size wi V → V.cell? ⟨q, k, none⟩ = some (.slice (some ⟨g, 0, none⟩) n c) ∧ (∃ u, V.cell? ⟨g, i, none⟩ = some u) ∧ V.frozen? ⟨g, i, none⟩ = false := fun V hV => by
            have hf2 := hf.below hV
            have ho := hf2.own k _ zs HSk.out hzs
            rw [hzl] at ho
            refine ⟨hf2.list k _ HSk.out, ?_, ho.frozenAt i⟩
            obtain ⟨u, hu⟩ := some_of_lt (l := intsV zs) (k := i) (by simp [intsV]; omega)
            exact ⟨u, (ho.cellAt i (by omega)).trans hu⟩
          have hqg : q ≠ g := fun e => HA.out.notq k _ HSk.out (by rw [e]; rfl)
          have hkeep2 : ∀ V v, Below wi.heap.size wi V → (V.setCell ⟨g, i, none⟩ v).cell? ⟨q, k, none⟩ = some (.slice (some ⟨g, 0, none⟩) n c) ∧ (∃ u, (V.setCell ⟨g, i, none⟩ v).cell? ⟨g, i, none⟩ = some u) ∧ (V.setCell ⟨g, i, none⟩ v).frozen? ⟨g, i, none⟩ = false := fun V v hV => by
            obtain ⟨y1, ⟨u, y2⟩, y3⟩ := hkeep V hV
            exact ⟨(World.cell?_setCell_other _ _ _ _ (fun e => hqg (by injection e with e1; exact e1.symm))).trans y1, ⟨_, World.cell?_setCell_same _ _ _ y2⟩, by rw [World.frozen?_setCell]; exact y3⟩
          have HK := Lib.hid hkeep
          have HK2 := Lib.hid hkeep2
          have hMk : ∀ V, Calls Try.prog 93 #[.int .i64 (IntKind.i64.wrap ((k : Int) + 10)), .int .i64 (i : Nat)] V (RetM (mark K i) V) := fun V => by rw [hw]; exact mark_c K i (by have := HM100.out; omega) (by have := HN5.out; omega) V
          have HMk := Lib.hid hMk
          have HKe := Lib.hid hK
          have HBg := Lib.hid hBg
          have HBw := Lib.hid hBw
          obtain ⟨x1, ⟨u, x2⟩, x3⟩ := hkeep wi (Below.refl _ _)
          clear hf hzs hzl hbw hA hgw hkeep hkeep2 hqg hK hq hBg hBw hMk hw
          go_wp2_with fail
          go_region_held3 (fun V => V.cell? ⟨q, k, none⟩ = some (.slice (some ⟨g, 0, none⟩) n c) ∧ (∃ u, V.cell? ⟨g, i, none⟩ = some u) ∧ V.frozen? ⟨g, i, none⟩ = false)
            (first
            | (with_reducible refine HK2.out _ _ ?_; (repeat (first | with_reducible assumption | with_reducible refine Below.drew ?_ | with_reducible exact Below.refl _ _)); done)
            | (with_reducible refine HK.out _ ?_; (repeat (first | with_reducible assumption | with_reducible refine Below.new ?_ (Nat.le_refl _) _ | with_reducible refine Below.drew ?_ | with_reducible exact Below.refl _ _)); done))
            (first
            | (go_at_call 93; (with_reducible refine (from_c (B := wi.heap.size) (w := wi) (HMk.out _) ?_).mono ?_); (repeat (first | with_reducible assumption | with_reducible refine Below.drew ?_ | with_reducible exact Below.refl _ _)); (rintro e V ⟨x, rfl, hx, lx, hV⟩); (obtain ⟨y1, ⟨u', y2⟩, y3⟩ := HK.out V hV)))
          all_goals
            have HVV := Lib.hid hV
            have HXX := Lib.hid hx
            clear hV hx lx x1 x2 x3 y1 y2 y3 HK HK2
            go_wp2
            go_roundw
            case rel => exact ⟨i + 1, by go_num, HR.out.next HA.out HSk.out hlt2 HBg.out HBw.out HVV.out (by first | rw [HXX.out, HKe.out] | (show mark K i = _; rw [HKe.out]))⟩
            case measure => simp [intOf]; omega
        · have e : i = n := by omega
          subst e
          have hlti2 : ((i : Int) < (i : Int)) = False := by simp
          clear hf hzs hzl hbw
          go_wp2
          go_roundw
          case rel =>
            refine ⟨k + 1, by go_num, ?_⟩
            obtain ⟨zss, zs, -, hf, hlen, hmk, hzs, hzl, hpt, hbw⟩ := HR.out
            refine ⟨zss, hlt, hf, hlen, fun j ys hj hy => ?_, hbw⟩
            rcases Nat.lt_or_ge j k with h | h
            · exact hmk j ys h hy
            · have e : j = k := by omega
              subst e
              rw [hzs] at hy
              injection hy with hy
              subst hy
              intro p z hz
              exact hpt p z (by have := lt_of_some hz; omega) hz
          case measure => simp [intOf]; omega
    · have e : k = m := by omega
      subst e
      have hlti : ((k : Int) < (k : Int)) = False := by simp
      obtain ⟨zss, -, hf, hlen, hmk, hbw⟩ := HR.out
      have HF1 := Lib.hid hf
      have HLen := Lib.hid hlen
      have HMk := Lib.hid (fun (j : Nat) (zs : List Int) (hz : zss[j]? = some zs) => hmk j zs (by have := lt_of_some hz; rw [hf.len, HM.out] at this; exact this) hz)
      have HBw := Lib.hid hbw
      rename World => w1
      have HSb := Lib.hid (fun (j : Nat) (S : Value) (b : Nat) (hS : Ss[j]? = some S) (hb : S.ownBlock = some b) => by
        obtain ⟨zs, hz⟩ := some_len hS hf.len
        exact ((hf.own j S zs hS hz).lt b hb).2 : ∀ (j : Nat) (S : Value) (b : Nat), Ss[j]? = some S → S.ownBlock = some b → b < w1.heap.size)
      clear hf hlen hmk hbw HR HF0 HL0 hk hlt
      go_wp2
      go_loopw [5, 6] (fun gv kv wr => ∃ (j : Nat) (Gs : List Value) (yss : List (List Int)), j ≤ k ∧ kv = .int .i64 (j : Nat) ∧ Out w1 wr B q j Ss zss Gs yss gv ∧ Below B w wr) (fun _ kv _ => k - (intOf kv).toNat)
      case atStart => exact ⟨0, [], [], Nat.zero_le _, rfl, Out.start HF1.out, HBw.out⟩
      case round =>
        obtain ⟨j, Gs, yss, hj, rfl, hout, hbw⟩ := hrel
        have HO := Lib.hid hout
        have HBw2 := Lib.hid hbw
        rename World => w0
        have hjb : j < 4611686018427387904 := by have := HM100.out; omega
        clear hout hbw hkb
        by_cases hlt : j < k
        · have hltj : (j : Int) < (k : Int) := Int.ofNat_lt.2 hlt
          obtain ⟨S, hS⟩ := some_of_lt (l := Ss) (k := j) (by rw [HM.out]; exact hlt)
          obtain ⟨zs, hzs⟩ := some_len hS HO.out.lenz
          obtain ⟨A, n, c, rfl, hn⟩ := slice_of_own (HO.out.own j S zs (Nat.le_refl _) hS hzs)
          have hn5 : n ≤ 5000 := by
            refine HLN.out n ?_
            rw [hn, ← HLen.out]
            exact List.mem_map_of_mem (List.mem_of_getElem? hzs)
          have hinn := HO.out.inn hS hzs (HMk.out j zs hzs)
          rw [← hn] at hinn
          have HInn := Lib.hid hinn
          have HN5 := Lib.hid hn5
          have HSj := Lib.hid hS
          have HZj := Lib.hid hzs
          have HNz := Lib.hid hn
          have hq := HO.out.list j _ hS
          have hqlt : q < w1.heap.size := block_lt_of_cell (HF1.out.list j _ hS)
          have HQ := Lib.hid hqlt
          have HRest := Lib.hid HO.out.rest
          clear hinn hn5 hS hzs hn hqlt
          go_wp2
          go_loopw [7, 8] (fun G iv wr => ∃ (i : Nat) (ys : List Int), i ≤ 6 ∧ iv = .int .i64 (i : Nat) ∧ Inn w0 wr B q j n i Ss zss Gs yss u5 (.slice A n c) G zs ys ∧ Below B w wr) (fun _ iv _ => 6 - (intOf iv).toNat)
          case atStart => exact ⟨0, zs, Nat.zero_le _, rfl, HInn.out, HBw2.out⟩
          case round =>
            clear HInn hq
            obtain ⟨i, ys, hi, rfl, hinn, hbw⟩ := hrel
            have HIn := Lib.hid hinn
            have HBw3 := Lib.hid hbw
            rename World => wi
            have hq := hinn.rest.list j _ HSj.out
            have hib : i < 4611686018427387904 := by omega
            clear hinn hbw
            by_cases hlt2 : i < 6
            · have hlt6 : (i : Int) < 6 := by omega
              obtain ⟨K, hK⟩ : ∃ K, K = j + 10 := ⟨_, rfl⟩
              obtain ⟨M, hM⟩ : ∃ M, M = n + i := ⟨_, rfl⟩
              have hMk : ∀ V, Calls Try.prog 93 #[.int .i64 ((j : Int) + 10), .int .i64 (M : Nat)] V (RetM (mark K M) V) := fun V => by
                have e : (j : Int) + 10 = (K : Int) := by omega
                rw [e]; exact mark_c K M (by have := HM100.out; omega) (by have := HN5.out; omega) V
              have hw2 : wrap64 ((n : Int) + (i : Int)) = (M : Int) := by rw [hM]; exact wrap_two n i HN5.out hi
              have HMk2 := Lib.hid hMk
              have HKM := Lib.hid (And.intro hK hM)
              clear hMk hK hM
              go_wp2_with fail
              refine (from_c (B := wi.heap.size) (w := wi) (HMk2.out _) (Below.refl _ _)).mono ?_
              rintro e V ⟨z, rfl, hz, lz, hV⟩
              have HZ := Lib.hid hz
              have HV := Lib.hid hV
              have HI2 := Lib.hid ((HIn.out.below hV).below (below_new V (.cells #[.int .i64 z] 3)))
              have hBs : B ≤ (V.alloc (.cells #[.int .i64 z] 3)).heap.size := Nat.le_trans HB.out (Nat.le_trans HBw3.out.size (Nat.le_trans hV.size (below_new V _).size))
              have HBs := Lib.hid hBs
              have hmx : n + i + 1 ≤ 6000 := by have := HN5.out; omega
              have HMx := Lib.hid hmx
              clear hz lz hV hBs hmx hw2
              go_wp2_with (at_builtin; refine wpList_append_stays _ rfl (.tmp 50) (.tmp 61) 23 rfl B 3 i0 (.int .i64 0) 8 Try.underlying23 hi0 hz0 hz1 hz2 rfl _ _ _ rfl HI2.out.own ⟨V.heap.size, 0, none⟩ 1 1 [.int .i64 z] rfl rfl (cell_one_new _ _ _) (by intro u hu; simp at hu; subst hu; rfl) (by have := HMx.out; unfold maxLen; omega) (by have := HMx.out; omega) HBs.out ?_; intro v' w2 hown1 hgrow1 hat1)
              have hyl : ys.length = M := by have := HIn.out.own.1; rw [HKM.out.2]; simpa [intsV] using this
              have hnx := HI2.out.next HA.out HO.out.dis HSj.out HRest.out (fun j S b h1 h2 => Nat.lt_of_lt_of_le (HSb.out j S b h1 h2) HO.out.size) (Nat.lt_of_lt_of_le HQ.out HO.out.size) hown1 hgrow1 hat1 (by rw [hyl, HZ.out, HKM.out.1])
              have HNx := Lib.hid hnx
              have HBx := Lib.hid (((HBw3.out.trans (HV.out.mono (Nat.le_trans HB.out HBw3.out.size))).new HB.out _).grown hgrow1 HBs.out (fun j hj => (HI2.out.own.lt j hj).1))
              clear hnx hown1 hgrow1 hat1 hyl
              go_wp2
              go_roundw
              case rel => exact ⟨i + 1, _, hlt2, by go_num, HNx.out, HBx.out⟩
              case measure => simp [intOf]; omega
            · have e : i = 6 := by omega
              subst e
              obtain ⟨g, cp, rfl, -, -⟩ := HIn.out.own.form (by omega)
              have HI2 := Lib.hid (HIn.out.below (below_new wi (.cells #[.slice (some ⟨g, 0, none⟩) (n + 6) cp] 23)))
              have hBs : B ≤ (wi.alloc (.cells #[.slice (some ⟨g, 0, none⟩) (n + 6) cp] 23)).heap.size := Nat.le_trans HB.out (Nat.le_trans HBw3.out.size (below_new wi _).size)
              have HBs := Lib.hid hBs
              have hGl : Gs.length ≤ 100 := by rw [HO.out.lenG]; have := HM100.out; omega
              have HGl := Lib.hid hGl
              clear hBs hGl
              go_wp2_with (at_builtin; refine wpList_append_stays _ rfl (.tmp 63) (.tmp 65) 94 rfl B 23 iS (.slice none 0 0) 24 Try.underlying94 his hs0 hs1 hs2 rfl _ _ _ rfl HI2.out.rest.ownL ⟨wi.heap.size, 0, none⟩ 1 1 [.slice (some ⟨g, 0, none⟩) (n + 6) cp] rfl rfl (cell_one_new _ _ _) (by intro u hu; simp at hu; subst hu; rfl) (by have := HGl.out; unfold maxLen; omega) (by have := HGl.out; omega) HBs.out ?_; intro v' w2 hown1 hgrow1 hat1)
              have hnx := HO.out.next HSj.out HZj.out HNz.out HA.out HSb.out HQ.out HI2.out hown1 hgrow1 hat1
              have HNx := Lib.hid hnx
              have HBx := Lib.hid ((HBw3.out.new HB.out _).grown hgrow1 HBs.out (fun j hj => (HI2.out.rest.ownL.lt j hj).1))
              clear hnx hown1 hgrow1 hat1
              go_wp2
              go_roundw
              case rel => exact ⟨j + 1, _, _, hlt, by go_num, HNx.out, HBx.out⟩
              case measure => simp [intOf]; omega
        · have e : j = k := by omega
          subst e
          have hltj : ((j : Int) < (j : Int)) = False := by simp
          go_wp2
          go_loopw [9] (fun rv wr => ∃ r : Nat, r ≤ j ∧ rv = .int .i64 (r : Nat) ∧ Below w0.heap.size w0 wr) (fun rv _ => j - (intOf rv).toNat)
          case atStart => exact ⟨0, Nat.zero_le _, rfl, Below.refl _ _⟩
          case round =>
            obtain ⟨r, hr, rfl, hbr⟩ := hrel
            rename World => wr
            have hrb : r < 4611686018427387904 := by have := HM100.out; omega
            by_cases hlt3 : r < j
            · have hltr : (r : Int) < (j : Int) := Int.ofNat_lt.2 hlt3
              obtain ⟨S, hS⟩ := some_of_lt (l := Ss) (k := r) (by rw [HM.out]; exact hlt3)
              obtain ⟨zs, hzs⟩ := some_len hS HO.out.lenz
              obtain ⟨G, hG⟩ := some_of_lt (l := Gs) (k := r) (by rw [HO.out.lenG]; exact hlt3)
              obtain ⟨ys, hys⟩ := some_len hG HO.out.leny
              obtain ⟨A, c, rfl, hA0, hrd⟩ := HO.out.reads r S zs hS hzs
              have hyl := HO.out.lens r ys zs hys hzs
              have hownG := HO.out.ownG r G ys hG hys
              obtain ⟨g, cp, rfl, -, -⟩ := hownG.form (by omega)
              obtain ⟨n, hn⟩ : ∃ n, n = zs.length := ⟨_, rfl⟩
              rw [← hn] at hS
              have hn5 : n ≤ 5000 := by
                refine HLN.out n ?_
                rw [hn, ← HLen.out]
                exact List.mem_map_of_mem (List.mem_of_getElem? hzs)
              obtain ⟨gl, cl, hgv, -, -⟩ := HO.out.ownL.form (by rw [HO.out.lenG]; omega)
              subst hgv
              have hlG : (r : Int) < (Gs.length : Int) := by rw [HO.out.lenG]; exact hltr
              obtain ⟨N, hN⟩ : ∃ N, N = ys.length := ⟨_, rfl⟩
              rw [← hN] at hG hownG
              have hN6 : N = n + 6 := by rw [hN, hyl, hn]
              have hcS := HO.out.list r _ hS
              have hcL : w0.cell? ⟨gl, r, none⟩ = some (.slice (some ⟨g, 0, none⟩) N cp) := (HO.out.ownL.cellAt r (by have := lt_of_some hG; omega)).trans hG
              have hkeep : ∀ V, Below w0.heap.size w0 V → V.cell? ⟨q, r, none⟩ = some (.slice A n c) ∧ V.cell? ⟨gl, r, none⟩ = some (.slice (some ⟨g, 0, none⟩) N cp) := fun V hV =>
                ⟨(hV.cell (p := ⟨q, r, none⟩) (block_lt_of_cell hcS)).trans hcS, (hV.cell (p := ⟨gl, r, none⟩) (block_lt_of_cell hcL)).trans hcL⟩
              have HKp := Lib.hid hkeep
              obtain ⟨c1, c2⟩ := hkeep wr hbr
              have HBr := Lib.hid hbr
              have HZs := Lib.hid hzs
              have HYs := Lib.hid hys
              have HOG := Lib.hid hownG
              have HRd := Lib.hid hrd
              have HA0 := Lib.hid hA0
              have HN := Lib.hid hN
              have HNz := Lib.hid hn
              have HN5 := Lib.hid hn5
              have HN6 := Lib.hid hN6
              clear hS hzs hys hG hyl hownG hn hn5 hN hN6 hcS hcL hkeep hbr hrd hA0
              go_wp2
              go_loopw [10] (fun pv wr => ∃ p : Nat, p ≤ N ∧ pv = .int .i64 (p : Nat) ∧ Below w0.heap.size w0 wr) (fun pv _ => N - (intOf pv).toNat)
              case atStart => exact ⟨0, Nat.zero_le _, rfl, HBr.out⟩
              case round =>
                obtain ⟨p, hp, rfl, hbp⟩ := hrel
                clear c1 c2
                rename World => wp
                have hpb : p < 4611686018427387904 := by have := HN5.out; have := HN6.out; omega
                obtain ⟨c1, c2⟩ := HKp.out wp hbp
                have HBp := Lib.hid hbp
                clear hbp
                by_cases hlt4 : p < N
                · have hltp : (p : Int) < (N : Int) := Int.ofNat_lt.2 hlt4
                  obtain ⟨y, hy⟩ := some_of_lt (l := ys) (k := p) (by rw [← HN.out]; exact hlt4)
                  have hmy := HO.out.mkd r ys HYs.out p y hy
                  have hcy : w0.cell? ⟨g, p, none⟩ = some (.int .i64 y) := (HOG.out.cellAt p (by omega)).trans (by simp [intsV, hy])
                  obtain ⟨K, hK⟩ : ∃ K, K = r + 10 := ⟨_, rfl⟩
                  have hMk : ∀ V, Calls Try.prog 93 #[.int .i64 (IntKind.i64.wrap ((r : Int) + 10)), .int .i64 (p : Nat)] V (RetM (mark K p) V) := fun V => by
                    rw [wrap_ten r (by have := HM100.out; omega), ← hK]; exact mark_c K p (by have := HM100.out; omega) (by have := HN5.out; have := HN6.out; omega) V
                  clear hMk
                  rw [← hK] at hmy
                  obtain ⟨m, hm⟩ : ∃ m : Int, m = mark K p := ⟨_, rfl⟩
                  have hym : y = m := by rw [hm]; exact hmy
                  rw [hym] at hcy
                  have HMq := Lib.hid (show ∀ V, Calls Try.prog 93 #[.int .i64 (IntKind.i64.wrap ((r : Int) + 10)), .int .i64 (p : Nat)] V fun e w' => e = .returned (.int .i64 m) ∧ ∃ d, w' = V.drewN d from fun V => by
                    rw [wrap_ten r (by have := HM100.out; omega), ← hK, hm]; exact (mark_c K p (by have := HM100.out; omega) (by have := HN5.out; have := HN6.out; omega) V).mono fun e w' ⟨he, hw⟩ => ⟨he, 0, hw ▸ rfl⟩)
                  have HMq2 := Lib.hid (show ∀ V, Calls Try.prog 93 #[.int .i64 ((r : Int) + 10), .int .i64 (p : Nat)] V fun e w' => e = .returned (.int .i64 m) ∧ ∃ d, w' = V.drewN d from fun V => by
                    have e : (r : Int) + 10 = (K : Int) := by omega
                    rw [e, hm]; exact (mark_c K p (by have := HM100.out; omega) (by have := HN5.out; have := HN6.out; omega) V).mono fun e w' ⟨he, hw⟩ => ⟨he, 0, hw ▸ rfl⟩)
                  have hyV := (HBp.out.cell (p := ⟨g, p, none⟩) (block_lt_of_cell hcy)).trans hcy
                  have d1 : ∀ D, (wp.drewN D).cell? ⟨q, r, none⟩ = some (.slice A n c) := fun _ => c1
                  have d2 : ∀ D, (wp.drewN D).cell? ⟨gl, r, none⟩ = some (.slice (some ⟨g, 0, none⟩) N cp) := fun _ => c2
                  have d3 : ∀ D, (wp.drewN D).cell? ⟨g, p, none⟩ = some (.int .i64 m) := fun _ => hyV
                  by_cases hlt5 : p < n
                  · have hltn : (p : Int) < (n : Int) := Int.ofNat_lt.2 hlt5
                    obtain ⟨z, hz⟩ := some_of_lt (l := zs) (k := p) (by rw [← HNz.out]; exact hlt5)
                    have hmz := HMk.out r zs HZs.out p z hz
                    rw [← hK] at hmz
                    have hzm : z = m := by rw [hm]; exact hmz
                    have hpos : 0 < (intsV zs).length := by have := lt_of_some hz; simp; omega
                    obtain ⟨ad, rfl, hadl, hadc⟩ := HRd.out hpos
                    have e5 := HA0.out ad rfl
                    obtain ⟨b, hb⟩ : ∃ b, b = ad.block := ⟨_, rfl⟩
                    rw [← hb] at e5
                    subst e5
                    have hcz : w0.cell? ⟨b, p, none⟩ = some (.int .i64 m) := by
                      have h := hadc p (.int .i64 z) (by simp [hz])
                      rw [hzm] at h
                      rwa [addr0] at h
                    have hzV := (HBp.out.cell (p := ⟨b, p, none⟩) (block_lt_of_cell hcz)).trans hcz
                    have d4 : ∀ D, (wp.drewN D).cell? ⟨b, p, none⟩ = some (.int .i64 m) := fun _ => hzV
                    have hltd : decide (p < n) = true := decide_eq_true hlt5
                    clear hmy hmz hy hz hcy hcz hadl hadc hpos hK hb hm hym hzm hyV hzV
                    go_wp2_with fail
                    go_quiet (first | (go_at_call 93; first | with_reducible exact quiet_drew (HMq.out _) | with_reducible exact quiet_drew (HMq2.out _)))
                    go_wp2
                    go_roundw
                    case rel => exact ⟨p + 1, hlt4, by go_num, below_drewN HBp.out _⟩
                    case measure => simp [intOf]; omega
                  · have hltn : decide (p < n) = false := decide_eq_false hlt5
                    clear hmy hy hcy hK hm hym hyV hlt5
                    go_wp2_with fail
                    go_quiet (first | (go_at_call 93; first | with_reducible exact quiet_drew (HMq.out _) | with_reducible exact quiet_drew (HMq2.out _)))
                    go_wp2
                    go_roundw
                    case rel => exact ⟨p + 1, hlt4, by go_num, below_drewN HBp.out _⟩
                    case measure => simp [intOf]; omega
                · have e : p = N := by omega
                  subst e
                  have hltp : ((p : Int) < (p : Int)) = False := by simp
                  go_wp2
                  go_roundw
                  case rel => exact ⟨r + 1, hlt3, by go_num, HBp.out⟩
                  case measure => simp [intOf]; omega
            · have e : r = j := by omega
              subst e
              have hltr : ((r : Int) < (r : Int)) = False := by simp
              go_wp2
              go_ret
              exact ⟨rfl, HBw2.out.trans (hbr.mono (Nat.le_trans HB.out HBw2.out.size))⟩

end Go.Proofs.Ytibjkmjccelcaaa.AI
