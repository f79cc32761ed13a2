/- Layer 7, the document's answer: a row, a column, a matrix times a list. -/
import Derived.Test.YtandllekeimpgaaGreatMX1
import Derived.Test.YtandllekeimpgaaGreatRM1
import Derived.Test.YtandllekeimpgaaGreatRM3
import Derived.Test.YtandllekeimpgaaGreatMX21
import Derived.Test.YtandllekeimpgaaGreatArg
import Derived.WalkKit
import Derived.Deep.DeepCutAuto
import Derived.IntWalk
import Derived.BigQuiet
import Derived.Deep.RegionHeld3
import Derived.Great.BuildSlice
namespace Go.Proofs.YtandllekeimpgaaGreat
open Go.RowKit Fl Ieee
set_option maxRecDepth 20000
attribute [local go_sem] run_store_float run_store_complex
end Go.Proofs.YtandllekeimpgaaGreat
namespace Go.Proofs.YtandllekeimpgaaGreat
open Go.RowKit Fl Ieee
set_option maxRecDepth 20000
attribute [local go_sem] run_store_float run_store_complex Fl.order_self Fl.order_self' Fl.order_eq Fl.order_ne Fl.order_lt Fl.order_gt
def nrmE (r c : Int) (n : Nat) : Int := if okM r c n then 0 else 4
end Go.Proofs.YtandllekeimpgaaGreat
namespace Go.Proofs.YtandllekeimpgaaGreat
open Go.RowKit Fl Ieee
set_option maxRecDepth 20000
section
variable {W V : World} {B q : Nat}
/-- A slice's value, read as a list. -/
def RdS (W : World) (S : Value) (zs : List C) : Prop := ∃ A c, S = .slice A zs.length c ∧ (∀ ad : Addr, A = some ad → ad = ⟨ad.block, 0, none⟩) ∧ Reads W W.heap.size A (nums zs)
theorem RdS.of_own {S : Value} {zs : List C} (h : W.ownsRow B 60 1 S zs.length (nums zs)) : RdS W S zs := by
  obtain ⟨A, m, c, rfl, rfl⟩ := slice_of_own h
  refine ⟨A, c, rfl, fun ad e => ?_, Reads.of_own h⟩
  subst e
  rcases h.2 with ⟨h1, _⟩ | ⟨g, cap, cur, h1, _⟩
  · cases h1
  · injection h1 with h2
    injection h2 with h3
    subst h3; rfl
theorem RdS.step {S : Value} {zs : List C} {row : Option Nat} (h : RdS W S zs) (hg : W.grownBy V row) (hne : S.ownBlock = none ∨ S.ownBlock ≠ row) : RdS V S zs := by
  obtain ⟨A, c, rfl, h0, hr⟩ := h
  refine ⟨A, c, rfl, h0, fun hn => ?_⟩
  obtain ⟨ad, rfl, hb, hc⟩ := hr hn
  refine ⟨ad, rfl, Nat.lt_of_lt_of_le hb hg.size, fun j u hu => hg.cell (hc j u hu) ?_⟩
  rw [block_of_add]
  rcases hne with h | h
  · cases h
  · exact h
/-- All are marks of list k. -/
def marked (k : Nat) (zs : List C) : Prop := ∀ p z, zs[p]? = some z → cnC z = mark (k + 10) p
theorem marked_snoc {k : Nat} {zs : List C} {z : C} (h : marked k zs) (hz : cnC z = mark (k + 10) zs.length) : marked k (zs ++ [z]) := by
  intro p y hy
  rcases Nat.lt_or_ge p zs.length with h1 | h1
  · rw [List.getElem?_append_left h1] at hy; exact h p y hy
  · rw [List.getElem?_append_right h1] at hy
    rcases Nat.lt_or_ge (p - zs.length) 1 with h2 | h2
    · have e : p = zs.length := by omega
      subst e
      simp at hy
      subst hy; exact hz
    · rw [List.getElem?_eq_none (by simpa using h2)] at hy; cases hy
/-- Which lists lie apart; where their own list lies. -/
structure Apt (q : Nat) (Ss : List Value) : Prop where
  apart : ∀ (j k : Nat) (S S' : Value), Ss[j]? = some S → Ss[k]? = some S' → j ≠ k → S.ownBlock = none ∨ S.ownBlock ≠ S'.ownBlock
  notq : ∀ (k : Nat) (S : Value), Ss[k]? = some S → S.ownBlock ≠ some q
/-- Before: each list is a row of its own. -/
structure Fam (W : World) (B q : Nat) (Ss : List Value) (zss : List (List C)) : Prop where
  len : zss.length = Ss.length
  own : ∀ (k : Nat) (S : Value) (zs : List C), Ss[k]? = some S → zss[k]? = some zs → W.ownsRow B 60 1 S zs.length (nums zs)
  list : ∀ (k : Nat) (S : Value), Ss[k]? = some S → W.cell? ⟨q, k, none⟩ = some S
theorem Fam.drewN {Ss : List Value} {zss : List (List C)} (h : Fam W B q Ss zss) (n : Nat) : Fam (W.drewN n) B q Ss zss := ⟨h.len, h.own, h.list⟩
theorem Fam.below {Ss : List Value} {zss : List (List C)} (h : Fam W B q Ss zss) (hb : Below W.heap.size W V) : Fam V B q Ss zss :=
  ⟨h.len, fun k S zs h1 h2 => own_below (h.own k S zs h1 h2) hb, fun k S hk => (hb.cell (p := ⟨q, k, none⟩) (block_lt_of_cell (h.list k S hk))).trans (h.list k S hk)⟩
/-- One place is written. -/
theorem Fam.set {Ss : List Value} {zss : List (List C)} {k i g n c : Nat} {zs : List C} {z : C} (h : Fam W B q Ss zss) (ha : Apt q Ss) (hS : Ss[k]? = some (.slice (some ⟨g, 0, none⟩) n c)) (hz : zss[k]? = some zs) (hn : n = zs.length) :
    Fam (W.setCell ⟨g, i, none⟩ (.complex .f64 z.1 z.2)) B q Ss (zss.set k (zs.set i z)) := by
  subst hn
  have hs := (h.own k _ zs hS hz).stored i (.complex .f64 z.1 z.2)
  rw [nums_set] at hs
  have hk : k < zss.length := lt_of_some hz
  refine ⟨by rw [List.length_set]; exact h.len, fun j S ys hj hy => ?_, fun j S hj => ?_⟩
  · by_cases e : j = k
    · subst e
      rw [hS] at hj
      injection hj with hj
      subst hj
      rw [List.getElem?_set_self hk] at hy
      injection hy with hy
      subst hy
      rw [List.length_set]
      exact hs.1
    · rw [List.getElem?_set_ne (fun h => e h.symm)] at hy
      refine (h.own j S ys hj hy).kept hs.2 ?_
      exact ha.apart j k S _ hj hS e
  · have hq : g ≠ q := fun e => ha.notq k _ hS (by rw [e]; rfl)
    exact (World.cell?_setCell_other _ _ _ _ (fun e => hq (by injection e))).trans (h.list j S hj)
end
section
theorem addr0 (g j : Nat) : (Addr.add ⟨g, 0, none⟩ j) = ⟨g, j, none⟩ := by unfold Addr.add; split <;> simp_all
theorem ne_row {v : Value} {row : Option Nat} (h : ∀ b, row = some b → v.ownBlock ≠ some b) : v.ownBlock = none ∨ v.ownBlock ≠ row := by
  cases row with
  | none => cases hv : v.ownBlock with
    | none => exact .inl rfl
    | some b => exact .inr (by simp)
  | some b => exact .inr (h b rfl)
theorem RdS.keep {W V : World} {S : Value} {zs : List C} {row : Option Nat} (h : RdS W S zs) (hg : W.grownBy V row) (hne : ∀ b, row = some b → zs = [] ∨ S.ownBlock ≠ some b) : RdS V S zs := by
  by_cases h0 : zs = []
  · obtain ⟨A, c, rfl, h1, _⟩ := h
    exact ⟨A, c, rfl, h1, fun hn => by subst h0; simp at hn⟩
  · exact h.step hg (ne_row fun b hb => (hne b hb).resolve_left h0)
theorem RdS.below {W V : World} {S : Value} {zs : List C} (h : RdS W S zs) (hb : Below W.heap.size W V) : RdS V S zs := by
  obtain ⟨A, c, rfl, h1, hr⟩ := h
  exact ⟨A, c, rfl, h1, (hr.below hb).more hb.size⟩
/-- In round k of the second loop: all but list k. -/
structure Rest (W : World) (B q k : Nat) (Ss : List Value) (zss : List (List C)) (Gs : List Value) (yss : List (List C)) (gv : Value) : Prop where
  reads : ∀ (j : Nat) (S : Value) (zs : List C), j ≠ k → Ss[j]? = some S → zss[j]? = some zs → RdS W S zs
  own : ∀ (j : Nat) (S : Value) (zs : List C), k < j → Ss[j]? = some S → zss[j]? = some zs → W.ownsRow B 60 1 S zs.length (nums zs)
  ownG : ∀ (j : Nat) (G : Value) (ys : List C), Gs[j]? = some G → yss[j]? = some ys → W.ownsRow B 60 1 G ys.length (nums ys)
  ownL : W.ownsRow B 25 1 gv Gs.length Gs
  list : ∀ (j : Nat) (S : Value), Ss[j]? = some S → W.cell? ⟨q, j, none⟩ = some S
  lenz : zss.length = Ss.length
  leny : yss.length = Gs.length
/-- Block b is none of theirs. -/
structure Off (q k : Nat) (Ss : List Value) (Gs : List Value) (gv : Value) (b : Nat) : Prop where
  s : ∀ (j : Nat) (S : Value), j ≠ k → Ss[j]? = some S → S.ownBlock ≠ some b
  g : ∀ (j : Nat) (G : Value), Gs[j]? = some G → G.ownBlock ≠ some b
  l : gv.ownBlock ≠ some b
  q : q ≠ b
theorem some_len {α β : Type} {l : List α} {m : List β} {j : Nat} {x : α} (h : l[j]? = some x) (e : m.length = l.length) : ∃ y, m[j]? = some y :=
  some_of_lt (by have := lt_of_some h; omega)
variable {W V : World} {B q k : Nat} {Ss : List Value} {zss : List (List C)} {Gs : List Value} {yss : List (List C)} {gv : Value}
theorem Rest.keep {row : Option Nat} (h : Rest W B q k Ss zss Gs yss gv) (hg : W.grownBy V row) (ho : ∀ b, row = some b → Off q k Ss Gs gv b) : Rest V B q k Ss zss Gs yss gv where
  reads j S zs hj h1 h2 := (h.reads j S zs hj h1 h2).keep hg fun b hb => .inr ((ho b hb).s j S hj h1)
  own j S zs hj h1 h2 := (h.own j S zs hj h1 h2).kept hg (ne_row fun b hb => (ho b hb).s j S (by omega) h1)
  ownG j G ys h1 h2 := (h.ownG j G ys h1 h2).kept hg (ne_row fun b hb => (ho b hb).g j G h1)
  ownL := h.ownL.kept hg (ne_row fun b hb => (ho b hb).l)
  list j S h1 := hg.cell (h.list j S h1) (fun e => (ho q e.symm).q rfl)
  lenz := h.lenz
  leny := h.leny
theorem Rest.below (h : Rest W B q k Ss zss Gs yss gv) (hb : Below W.heap.size W V) : Rest V B q k Ss zss Gs yss gv where
  reads j S zs hj h1 h2 := (h.reads j S zs hj h1 h2).below hb
  own j S zs hj h1 h2 := own_below (h.own j S zs hj h1 h2) hb
  ownG j G ys h1 h2 := own_below (h.ownG j G ys h1 h2) hb
  ownL := own_below h.ownL hb
  list j S h1 := (hb.cell (p := ⟨q, j, none⟩) (block_lt_of_cell (h.list j S h1))).trans (h.list j S h1)
  lenz := h.lenz
  leny := h.leny
/-- What lies apart from what, at the head of round k. -/
structure Dis (q k : Nat) (Ss : List Value) (Gs : List Value) (gv : Value) : Prop where
  g : ∀ (j : Nat) (G : Value) (j' : Nat) (S' : Value), Gs[j]? = some G → k ≤ j' → Ss[j']? = some S' → S'.ownBlock = none ∨ G.ownBlock ≠ S'.ownBlock
  s : ∀ (j : Nat) (S : Value), Ss[j]? = some S → S.ownBlock = none ∨ S.ownBlock ≠ gv.ownBlock
  l : ∀ (j : Nat) (G : Value), Gs[j]? = some G → G.ownBlock = none ∨ G.ownBlock ≠ gv.ownBlock
  q : gv.ownBlock ≠ some q
theorem Off.of_own {S : Value} {b : Nat} (ha : Apt q Ss) (hd : Dis q k Ss Gs gv) (hS : Ss[k]? = some S) (hb : S.ownBlock = some b) : Off q k Ss Gs gv b where
  s j S' hj h1 e := by
    rcases ha.apart k j S S' hS h1 (fun e => hj e.symm) with h | h
    · rw [hb] at h; cases h
    · exact h (by rw [hb, e])
  g j G h1 e := by
    rcases hd.g j G k S h1 (Nat.le_refl _) hS with h | h
    · rw [hb] at h; cases h
    · exact h (by rw [hb, e])
  l e := by
    rcases hd.s k S hS with h | h
    · rw [hb] at h; cases h
    · exact h (by rw [hb, e])
  q e := ha.notq k S hS (by rw [hb, e])
theorem Off.of_new {b N : Nat} (h : Rest W B q k Ss zss Gs yss gv) (hS : ∀ (j : Nat) (S : Value) (b : Nat), Ss[j]? = some S → S.ownBlock = some b → b < W.heap.size) (hq : q < W.heap.size) (hN : W.heap.size ≤ N) (hb : N ≤ b) : Off q k Ss Gs gv b where
  s j S _ h1 e := by have := hS j S b h1 e; omega
  g j G h1 e := by
    obtain ⟨ys, hy⟩ := some_len h1 h.leny
    have := ((h.ownG j G ys h1 hy).lt b e).2; omega
  l e := by have := (h.ownL.lt b e).2; omega
  q e := by omega
/-- In the inner loop: list k, of which i marks have been appended. -/
structure Inn (W0 W : World) (B q k n i : Nat) (Ss : List Value) (zss : List (List C)) (Gs : List Value) (yss : List (List C)) (gv S G : Value) (zs ys : List C) : Prop where
  rest : Rest W B q k Ss zss Gs yss gv
  own : W.ownsRow B 60 1 G (n + i) (nums ys)
  mkd : marked k ys
  pre : ∃ ts, ys = zs ++ ts
  rd : RdS W S zs
  size : W0.heap.size ≤ W.heap.size
  blk : G.ownBlock = S.ownBlock ∨ ∃ b, G.ownBlock = some b ∧ W0.heap.size ≤ b
theorem Inn.below {W0 : World} {n i : Nat} {S G : Value} {zs ys : List C} (h : Inn W0 W B q k n i Ss zss Gs yss gv S G zs ys) (hb : Below W.heap.size W V) : Inn W0 V B q k n i Ss zss Gs yss gv S G zs ys :=
  ⟨h.rest.below hb, own_below h.own hb, h.mkd, h.pre, h.rd.below hb, Nat.le_trans h.size hb.size, h.blk⟩
/-- One mark more. -/
theorem Inn.next {W0 : World} {n i : Nat} {S G G' : Value} {zs ys : List C} {z : C} (h : Inn W0 W B q k n i Ss zss Gs yss gv S G zs ys) (ha : Apt q Ss) (hd : Dis q k Ss Gs gv) (hS : Ss[k]? = some S) (h0 : Rest W0 B q k Ss zss Gs yss gv)
    (hSb : ∀ (j : Nat) (S : Value) (b : Nat), Ss[j]? = some S → S.ownBlock = some b → b < W0.heap.size) (hq : q < W0.heap.size)
    (hown : V.ownsRow B 60 1 G' (n + i + 1) (nums ys ++ [.complex .f64 z.1 z.2])) (hg : W.grownBy V G.ownBlock) (hat : G'.ownBlock = G.ownBlock ∨ (G'.ownBlock = some W.heap.size ∧ W.grownBy V none)) (hz : cnC z = mark (k + 10) ys.length) :
    Inn W0 V B q k n (i + 1) Ss zss Gs yss gv S G' zs (ys ++ [z]) where
  rest := h.rest.keep hg fun b hb => by
    rcases h.blk with e | ⟨b', e, hb'⟩
    · exact Off.of_own ha hd hS (by rw [← e, hb])
    · rw [hb] at e; injection e with e; subst e
      exact Off.of_new h0 hSb hq (Nat.le_refl _) hb'
  own := by
    have e : nums (ys ++ [z]) = nums ys ++ [.complex .f64 z.1 z.2] := by simp [nums]
    rw [e]; exact hown
  mkd := marked_snoc h.mkd hz
  pre := by obtain ⟨ts, e⟩ := h.pre; exact ⟨ts ++ [z], by rw [e, List.append_assoc]⟩
  rd := by
    rcases hat with hat | ⟨-, hn⟩
    · rcases h.blk with e | ⟨b, e, hb⟩
      · obtain ⟨A, c, rfl, h1, hr⟩ := h.rd
        refine ⟨A, c, rfl, h1, fun hpos => ?_⟩
        obtain ⟨ad, rfl, hlt, hc⟩ := hr hpos
        obtain ⟨g, cap, rfl, hBg, hgl⟩ := hown.form (by omega)
        have e2 : g = ad.block := by
          have := hat.trans e
          simpa [Value.ownBlock] using this
        obtain ⟨ts, hys⟩ := h.pre
        have hS0 := h.rd
        refine ⟨ad, rfl, by rw [← e2]; exact hgl, fun j u hj => ?_⟩
        have hjl : j < zs.length := by have := lt_of_some hj; simpa [nums] using this
        have hcell := hown.cellAt j (by have := hown.1; simp [nums] at this; rw [hys] at this; simp at this; omega)
        have hsame : ad.add j = ⟨g, j, none⟩ := by
          have e5 := h1 ad rfl
          rw [← e2] at e5
          rw [e5]; exact addr0 g j
        rw [hsame, hcell, List.getElem?_append_left (by simp [nums, hys]; omega), hys]
        have e3 : nums (zs ++ ts) = nums zs ++ nums ts := by simp [nums]
        rw [e3, List.getElem?_append_left (by simpa [nums] using hjl)]
        exact hj
      · refine h.rd.keep hg fun b' hb' => .inr fun e3 => ?_
        rw [e] at hb'; injection hb' with hb'; subst hb'
        have := hSb k S b hS e3; omega
    · exact h.rd.keep hn fun b hb => by cases hb
  size := Nat.le_trans h.size hg.size
  blk := by
    rcases hat with hat | ⟨hat, -⟩
    · rcases h.blk with e | ⟨b, e, hb⟩
      · exact .inl (hat.trans e)
      · exact .inr ⟨b, hat.trans e, hb⟩
    · exact .inr ⟨_, hat, h.size⟩
end
section
variable {w1 W V : World} {B q k : Nat} {Ss : List Value} {zss : List (List C)} {Gs : List Value} {yss : List (List C)} {gv : Value}
/-- At the head of the second loop: k lists have been gone on with. -/
structure Out (w1 W : World) (B q k : Nat) (Ss : List Value) (zss : List (List C)) (Gs : List Value) (yss : List (List C)) (gv : Value) : Prop where
  reads : ∀ (j : Nat) (S : Value) (zs : List C), Ss[j]? = some S → zss[j]? = some zs → RdS W S zs
  own : ∀ (j : Nat) (S : Value) (zs : List C), k ≤ j → Ss[j]? = some S → zss[j]? = some zs → W.ownsRow B 60 1 S zs.length (nums zs)
  ownG : ∀ (j : Nat) (G : Value) (ys : List C), Gs[j]? = some G → yss[j]? = some ys → W.ownsRow B 60 1 G ys.length (nums ys)
  ownL : W.ownsRow B 25 1 gv Gs.length Gs
  list : ∀ (j : Nat) (S : Value), Ss[j]? = some S → W.cell? ⟨q, j, none⟩ = some S
  lenz : zss.length = Ss.length
  leny : yss.length = Gs.length
  lenG : Gs.length = k
  mkd : ∀ (j : Nat) (ys : List C), yss[j]? = some ys → marked j ys
  lens : ∀ (j : Nat) (ys zs : List C), yss[j]? = some ys → zss[j]? = some zs → ys.length = zs.length + 6
  dis : Dis q k Ss Gs gv
  size : w1.heap.size ≤ W.heap.size
theorem Out.rest (h : Out w1 W B q k Ss zss Gs yss gv) : Rest W B q k Ss zss Gs yss gv :=
  ⟨fun j S zs _ => h.reads j S zs, fun j S zs hj => h.own j S zs (by omega), h.ownG, h.ownL, h.list, h.lenz, h.leny⟩
theorem Out.start (h : Fam w1 B q Ss zss) : Out w1 w1 B q 0 Ss zss [] [] (.slice none 0 0) where
  reads j S zs h1 h2 := RdS.of_own (h.own j S zs h1 h2)
  own j S zs _ h1 h2 := h.own j S zs h1 h2
  ownG j G ys h1 _ := by simp at h1
  ownL := World.ownsRow_nil _ _ _ _
  list := h.list
  lenz := h.len
  leny := rfl
  lenG := rfl
  mkd j ys h1 := by simp at h1
  lens j ys zs h1 _ := by simp at h1
  dis := ⟨fun j G j' S' h1 => by simp at h1, fun j S h1 => by cases hb : S.ownBlock with
    | none => exact .inl rfl
    | some b => exact .inr (by simp [Value.ownBlock]), fun j G h1 => by simp at h1, by simp [Value.ownBlock]⟩
  size := Nat.le_refl _
theorem Out.inn {S : Value} {zs : List C} (h : Out w1 W B q k Ss zss Gs yss gv) (hS : Ss[k]? = some S) (hz : zss[k]? = some zs) (hm : marked k zs) : Inn W W B q k zs.length 0 Ss zss Gs yss gv S S zs zs :=
  ⟨h.rest, h.own k S zs (Nat.le_refl _) hS hz, hm, ⟨[], by simp⟩, h.reads k S zs hS hz, Nat.le_refl _, .inl rfl⟩
theorem Out.next {W0 : World} {n : Nat} {S G gv' : Value} {zs ys : List C} (h : Out w1 W0 B q k Ss zss Gs yss gv) (hS : Ss[k]? = some S) (hz : zss[k]? = some zs) (hn : n = zs.length) (ha : Apt q Ss)
    (hSb : ∀ (j : Nat) (S : Value) (b : Nat), Ss[j]? = some S → S.ownBlock = some b → b < w1.heap.size) (hq : q < w1.heap.size)
    (hi : Inn W0 W B q k n 6 Ss zss Gs yss gv S G zs ys) (hown : V.ownsRow B 25 1 gv' (Gs.length + 1) (Gs ++ [G])) (hg : W.grownBy V gv.ownBlock) (hat : gv'.ownBlock = gv.ownBlock ∨ (gv'.ownBlock = some W.heap.size ∧ W.grownBy V none)) :
    Out w1 V B q (k + 1) Ss zss (Gs ++ [G]) (yss ++ [ys]) gv' := by
  subst hn
  have hyl : ys.length = zs.length + 6 := by have := hi.own.1; simpa [nums] using this
  obtain ⟨gb, gc, hGv, hgB, hgl⟩ := hi.own.form (by omega)
  have hGb : G.ownBlock = some gb := by rw [hGv]; rfl
  have hGl : G.ownBlock ≠ gv.ownBlock := by
    rcases hi.blk with e | ⟨b, e, hb⟩
    · rcases h.dis.s k S hS with h1 | h1
      · rw [hGb, h1] at e; cases e
      · rw [e]; exact h1
    · intro e2
      have := (h.ownL.lt b (by rw [← e2, e])).2; omega
  have hGrow : W.ownsRow B 60 1 G ys.length (nums ys) := by rw [hyl]; exact hi.own
  have hsW : w1.heap.size ≤ W.heap.size := Nat.le_trans h.size hi.size
  have gcase : ∀ (j : Nat) (G' : Value) (ys' : List C), (Gs ++ [G])[j]? = some G' → (yss ++ [ys])[j]? = some ys' → (Gs[j]? = some G' ∧ yss[j]? = some ys') ∨ (j = k ∧ G' = G ∧ ys' = ys) := fun j G' ys' h1 h2 => by
    rcases Nat.lt_or_ge j Gs.length with h3 | h3
    · rw [List.getElem?_append_left h3] at h1
      rw [List.getElem?_append_left (by rw [h.leny]; exact h3)] at h2
      exact .inl ⟨h1, h2⟩
    · have hj : j = Gs.length := by have := lt_of_some h1; simp at this; omega
      rw [List.getElem?_append_right h3, hj] at h1
      rw [List.getElem?_append_right (by rw [h.leny]; exact h3), h.leny, hj] at h2
      simp at h1 h2
      exact .inr ⟨hj.trans h.lenG, h1.symm, h2.symm⟩
  have gcase1 : ∀ (j : Nat) (G' : Value), (Gs ++ [G])[j]? = some G' → Gs[j]? = some G' ∨ (j = k ∧ G' = G) := fun j G' h1 => by
    obtain ⟨ys', h2⟩ := some_len (m := yss ++ [ys]) h1 (by simp [h.leny])
    rcases gcase j G' ys' h1 h2 with ⟨h3, _⟩ | ⟨h3, h4, _⟩
    · exact .inl h3
    · exact .inr ⟨h3, h4⟩
  have rowne : ∀ {v : Value}, (v.ownBlock = none ∨ v.ownBlock ≠ gv.ownBlock) → v.ownBlock = none ∨ v.ownBlock ≠ gv.ownBlock := id
  refine ⟨?_, ?_, ?_, by rw [List.length_append]; exact hown, ?_, h.lenz, by simp [h.leny], by simp [h.lenG], ?_, ?_, ?_, Nat.le_trans hsW hg.size⟩
  · intro j S' zs' h1 h2
    by_cases e : j = k
    · subst e
      rw [hS] at h1; injection h1 with h1; subst h1
      rw [hz] at h2; injection h2 with h2; subst h2
      exact hi.rd.step hg (h.dis.s _ _ hS)
    · exact (hi.rest.reads j S' zs' e h1 h2).step hg (h.dis.s _ _ h1)
  · intro j S' zs' hj h1 h2
    exact (hi.rest.own j S' zs' (by omega) h1 h2).kept hg (h.dis.s _ _ h1)
  · intro j G' ys' h1 h2
    rcases gcase j G' ys' h1 h2 with ⟨h3, h4⟩ | ⟨h3, h4, h5⟩
    · exact (hi.rest.ownG j G' ys' h3 h4).kept hg (h.dis.l _ _ h3)
    · subst h4 h5
      exact hGrow.kept hg (.inr hGl)
  · intro j S' h1
    exact hg.cell (hi.rest.list j S' h1) (fun e => h.dis.q e.symm)
  · intro j ys' h2
    obtain ⟨G', h1⟩ := some_len (m := Gs ++ [G]) h2 (by simp [h.leny])
    rcases gcase j G' ys' h1 h2 with ⟨h3, h4⟩ | ⟨h3, h4, h5⟩
    · exact h.mkd j ys' h4
    · subst h5; rw [h3]; exact hi.mkd
  · intro j ys' zs' h2 h6
    obtain ⟨G', h1⟩ := some_len (m := Gs ++ [G]) h2 (by simp [h.leny])
    rcases gcase j G' ys' h1 h2 with ⟨h3, h4⟩ | ⟨h3, h4, h5⟩
    · exact h.lens j ys' zs' h4 h6
    · subst h5; subst h3
      rw [hz] at h6; injection h6 with h6; subst h6
      exact hyl
  · refine ⟨?_, ?_, ?_, ?_⟩
    · intro j G' j' S' h1 hj' h2
      rcases gcase1 j G' h1 with h3 | ⟨h3, h4⟩
      · exact h.dis.g j G' j' S' h3 (by omega) h2
      · subst h4
        rcases hi.blk with e | ⟨b, e, hb⟩
        · rcases ha.apart k j' S S' hS h2 (by omega) with h5 | h5
          · rw [hGb, h5] at e; cases e
          · exact .inr (by rw [e]; exact h5)
        · cases hb' : S'.ownBlock with
          | none => exact .inl rfl
          | some b' =>
            refine .inr fun e2 => ?_
            have h5 := hSb j' S' b' h2 hb'
            have h6 := h.size
            rw [e] at e2; injection e2 with e2
            omega
    · intro j S' h1
      rcases hat with hat | ⟨hat, -⟩
      · rw [hat]; exact h.dis.s j S' h1
      · cases hb' : S'.ownBlock with
        | none => exact .inl rfl
        | some b' =>
          refine .inr fun e2 => ?_
          have h5 := hSb j S' b' h1 hb'
          rw [hat] at e2; injection e2 with e2
          omega
    · intro j G' h1
      rcases hat with hat | ⟨hat, -⟩
      · rw [hat]
        rcases gcase1 j G' h1 with h3 | ⟨h3, h4⟩
        · exact h.dis.l j G' h3
        · subst h4; exact .inr hGl
      · refine .inr fun e2 => ?_
        rcases gcase1 j G' h1 with h3 | ⟨h3, h4⟩
        · obtain ⟨ys', h4⟩ := some_len h3 h.leny
          have := ((hi.rest.ownG j G' ys' h3 h4).lt _ (e2.trans hat)).2; omega
        · subst h4
          have := (hGrow.lt _ (e2.trans hat)).2; omega
    · intro e2
      rcases hat with hat | ⟨hat, -⟩
      · exact h.dis.q (hat.symm.trans e2)
      · rw [hat] at e2; injection e2 with e2; omega
end
end Go.Proofs.YtandllekeimpgaaGreat
namespace Go.Proofs.YtandllekeimpgaaGreat
open Go.RowKit Fl Ieee
set_option maxRecDepth 20000
attribute [local go_sem] run_store_float run_store_complex
theorem nan_add {x y : Nat} (hx : fin double x) (hy : fin double y) : isNaN double (fadd x y) = false := by
  obtain ⟨r, s, h1, -, -⟩ := add_sval hx hy
  rw [h1]
  unfold isNaN
  rw [rung_word s (by rw [show double.infRung = 9218868437227405312 by decide, sw64]; omega)]
  exact decide_eq_false (by omega)
theorem cn_only {x m : Nat} (h : Fl.cn .f64 x = m) (hm : isNaN double m = false) : x = m := by
  have hx : isNaN double x = false := by
    exact (isNaN_cn .f64 x).symm.trans (by rw [h]; exact hm)
  rw [← h, cn_of_not (k := .f64) hx]
theorem quiet_drew {P : Program} {f : FuncId} {args : Array Value} {w : World} {n : Nat} {v : Value}
    (h : Calls P f args (w.drewN n) fun e w' => e = .returned v ∧ ∃ d, w' = (w.drewN n).drewN d) :
    Calls P f args (w.drewN n) fun e w'' => e = .returned v ∧ ∃ m, w'' = w.drewN m :=
  h.mono fun _ _ ⟨he, d, hm⟩ => ⟨he, n + d, by rw [hm, World.drewN_drewN]⟩
theorem quiet_same {P : Program} {f : FuncId} {args : Array Value} {w : World} {n : Nat} {v : Value}
    (h : Calls P f args (w.drewN n) fun e w' => e = .returned v ∧ w.drewN n = w') :
    Calls P f args (w.drewN n) fun e w'' => e = .returned v ∧ ∃ m, w'' = w.drewN m :=
  h.mono fun _ _ ⟨he, hm⟩ => ⟨he, n, hm.symm⟩
/-- The first lists are marked whole. -/
def MarkedTo (k : Nat) (zss : List (List C)) : Prop := ∀ (j : Nat) (zs : List C), j < k → zss[j]? = some zs → marked j zs
/-- Some places of list k are marked. -/
def part (k i : Nat) (zs : List C) : Prop := ∀ (p : Nat) (z : C), p < i → zs[p]? = some z → cnC z = mark (k + 10) p
theorem part_set {k i : Nat} {zs : List C} {z : C} (h : part k i zs) (hz : cnC z = mark (k + 10) i) : part k (i + 1) (zs.set i z) := by
  intro p y hp hy
  by_cases e : i = p
  · subst e
    rw [List.getElem?_set_self'] at hy
    cases hzi : zs[i]? with
    | none => rw [hzi] at hy; cases hy
    | some u => rw [hzi] at hy; simp at hy; subst hy; exact hz
  · rw [List.getElem?_set_ne e] at hy
    exact h p y (by omega) hy
theorem wrap_ten' (k : Nat) (h : k ≤ 100) : wrap64 ((k : Int) + 10) = ((k + 10 : Nat) : Int) := by
  have h2 := wrap_small (k + 10) (by omega)
  rw [Int.natCast_add] at h2 ⊢
  exact h2
theorem wrap_ten (k : Nat) (h : k ≤ 100) : IntKind.i64.wrap ((k : Int) + 10) = ((k + 10 : Nat) : Int) := by
  rw [IntWalk.i64_left]; exact wrap_ten' k h
theorem infoSl : (Tryz.prog.info? 25).map (fun i => (i.zero, i.size, i.bytes)) = some (some (.slice none 0 0), 1, 24) := by kernel_rfl
def LoopA (w : World) (B q m : Nat) (Ss : List Value) (lens : List Nat) (k : Nat) (wr : World) : Prop :=
  ∃ zss : List (List C), k ≤ m ∧ Fam wr B q Ss zss ∧ zss.map List.length = lens ∧ MarkedTo k zss ∧ Below B w wr
def LoopB (w : World) (B q : Nat) (Ss : List Value) (lens : List Nat) (k n i : Nat) (wr : World) : Prop :=
  ∃ (zss : List (List C)) (zs : List C), i ≤ n ∧ Fam wr B q Ss zss ∧ zss.map List.length = lens ∧ MarkedTo k zss ∧ zss[k]? = some zs ∧ zs.length = n ∧ part k i zs ∧ Below B w wr
theorem LoopB.next {w wr V : World} {B q k n i g c : Nat} {Ss : List Value} {lens : List Nat} {z : C} (h : LoopB w B q Ss lens k n i wr) (ha : Apt q Ss) (hS : Ss[k]? = some (.slice (some ⟨g, 0, none⟩) n c)) (hi : i < n) (hg : B ≤ g) (hB : B ≤ wr.heap.size)
    (hV : Below wr.heap.size wr V) (hz : cnC z = mark (k + 10) i) : LoopB w B q Ss lens k n (i + 1) (V.setCell ⟨g, i, none⟩ (.complex .f64 z.1 z.2)) := by
  obtain ⟨zss, zs, h1, h2, h3, h4, h5, h6, h7, h8⟩ := h
  have hk : k < zss.length := lt_of_some h5
  refine ⟨zss.set k (zs.set i z), zs.set i z, hi, (h2.below hV).set (z := z) ha hS h5 h6.symm, ?_, ?_, ?_, ?_, part_set h7 hz, (h8.trans (hV.mono hB)).setCell hg _⟩
  · rw [List.map_set, List.length_set, ← h3]
    apply List.ext_getElem?
    intro j
    by_cases e : k = j
    · subst e
      rw [List.getElem?_set_self (by simpa using hk), List.getElem?_map, h5]; rfl
    · rw [List.getElem?_set_ne e]
  · intro j ys hj hy
    rw [List.getElem?_set_ne (by omega)] at hy
    exact h4 j ys hj hy
  · rw [List.getElem?_set_self hk]
  · rw [List.length_set]; exact h6
end Go.Proofs.YtandllekeimpgaaGreat
namespace Go.Proofs.YtandllekeimpgaaGreat
open Go.RowKit Fl Ieee
set_option maxRecDepth 20000
/-- A list of one's own. -/
def Lst (W : World) (lo hi : Nat) (A : Option Addr) (zs : List C) (c : Nat) : Prop := OwnIn W lo hi (.slice A zs.length c) zs.length (nums zs)
section
variable {W V : World} {lo hi lo' hi' c c' : Nat} {A A' : Option Addr} {zs zs' : List C}
theorem Lst.below (h : Lst W lo hi A zs c) (hb : Below W.heap.size W V) : Lst V lo hi A zs c := OwnIn.below h hb
theorem Lst.reads (h : Lst W lo hi A zs c) : Reads W W.heap.size A (nums zs) := (OwnIn.reads h).1
theorem Lst.none (h : Lst W lo hi A zs c) : A = none → c = 0 := (OwnIn.reads h).2.2.2
theorem Lst.fits (h : Lst W lo hi A zs c) : zs.length ≤ c := (OwnIn.reads h).2.2.1
theorem Lst.own (h : Lst W lo hi A zs c) {B : Nat} (hB : B ≤ lo) : W.ownsRow B 60 1 (.slice A zs.length c) zs.length (nums zs) := own_base h.1 hB
theorem Lst.blk (h : Lst W lo hi A zs c) : ∀ b, (Value.slice A zs.length c).ownBlock = some b → lo ≤ b ∧ b < hi := fun b hb => ⟨(h.1.lt b hb).1, h.2 b hb⟩
theorem Lst.over {g : Nat} (h : Lst W lo hi A zs c) (hg : W.grownBy V (some g)) (hd : hi ≤ g ∨ g < lo) : Lst V lo hi A zs c :=
  ⟨h.1.kept hg (ne_row fun b hb => fun e => by injection hb with hb; subst hb; have := h.blk g e; omega), h.2⟩
theorem Lst.lies (h : Lst W lo hi A zs c) (hl : ltCs zs) : Lies W A zs c := ⟨h.reads, h.none, h.fits, hl⟩
/-- A matrix lent. -/
def RetLq (r c : Int) (l : List C) (w : World) (e : Ending) (w' : World) : Prop :=
  ∃ (g : Nat) (zt zf : List C) (cap : Nat), e = .returned (.tuple #[mval r c (.slice (some ⟨g, 0, none⟩) zt.length cap), .slice (some ⟨g, 0, none⟩) zf.length cap]) ∧ zt.map cnC = l.map cnC ∧ ltCs zt ∧
    w'.ownsRow w.heap.size 60 1 (.slice (some ⟨g, 0, none⟩) zt.length cap) zt.length (nums zt) ∧ zf.map cnC = lent l 6 ∧ Lst w' w.heap.size w'.heap.size (some ⟨g, 0, none⟩) zf cap ∧ Below w.heap.size w w'
theorem own_take {w' : World} {B g cap n : Nat} {zs : List C} (hown : w'.ownsRow B 60 1 (.slice (some ⟨g, 0, none⟩) zs.length cap) zs.length (nums zs)) (hn : n ≤ zs.length) :
    w'.ownsRow B 60 1 (.slice (some ⟨g, 0, none⟩) (zs.take n).length cap) (zs.take n).length (nums (zs.take n)) := by
  have htl : (zs.take n).length = n := by rw [List.length_take]; omega
  rcases hown.2 with ⟨h, _⟩ | ⟨g', cap2, cur, h, hbg, hg, hnc, hcm, hcs, htk⟩
  · cases h
  · injection h with h1 h2 h3
    injection h1 with h4
    injection h4 with h5
    subst h5 h3
    refine ⟨by simp, .inr ⟨g, cap, cur, rfl, hbg, hg, by rw [htl]; omega, hcm, hcs, ?_⟩⟩
    rw [htl, Nat.mul_one]
    rw [Nat.mul_one] at htk
    have e : nums (zs.take n) = (nums zs).take n := by simp [nums, List.map_take]
    rw [e, ← htk, List.take_take, Nat.min_eq_left (by omega)]
theorem Lentq_c (r c : Int) (A : Option Addr) (l : List C) (cap : Nat) (w : World) (hl : l.length ≤ 1000000) (hX : Lies w A l cap) :
    Calls Tryz.prog 7 #[mval r c (.slice A l.length cap)] w (RetLq r c l w) := by
  refine (LentMatrix_c r c A l cap w hl hX.lt hX.none hX.reads).mono ?_
  rintro e w' ⟨g, zs, cap', rfl, hz, hlz, hown, hb⟩
  have hzl := lent_len hz
  have htl : (zs.take l.length).length = l.length := by rw [List.length_take]; omega
  refine ⟨g, zs.take l.length, zs, cap', by rw [htl], ?_, fun z hz => hlz z (List.mem_of_mem_take hz), own_take hown (by omega), hz, OwnIn.of hown, hb⟩
  rw [List.map_take, hz]
  unfold lent
  rw [List.take_left' (by simp)]
theorem Lst.weak (h : Lst W lo hi A zs c) (hl : lo' ≤ lo) : Lst W lo' hi A zs c := ⟨own_base h.1 hl, h.2⟩
/-- A list lent. -/
def RetLg (L : List C) (w : World) (e : Ending) (w' : World) : Prop :=
  ∃ (g : Nat) (zs : List C) (c : Nat), e = .returned (.slice (some ⟨g, 0, none⟩) zs.length c) ∧ zs.map cnC = L ∧ ltCs zs ∧ Lst w' w.heap.size w'.heap.size (some ⟨g, 0, none⟩) zs c ∧ Below w.heap.size w w'
theorem lg_of {P : Program} {f : FuncId} {args : Array Value} {w : World} {l : List C} (h : Calls P f args w (RetLl (lent l 6) w)) : Calls P f args w (RetLg (lent l 6) w) := by
  refine h.mono ?_
  rintro e w' ⟨s, zs, rfl, hz, hl, hown, hb⟩
  have hzl := lent_len hz
  obtain ⟨g, c, rfl, -, -⟩ := hown.form (by omega)
  exact ⟨g, zs, c, rfl, hz, hl, OwnIn.of hown, hb⟩
theorem lent_take {l zs : List C} (hz : zs.map cnC = lent l 6) : (zs.take l.length).map cnC = l.map cnC := by
  rw [List.map_take, hz]; unfold lent; rw [List.take_left' (by simp)]
section
variable {r cc : Int} {l l' x x' : List C} {cap capx : Nat} {X : Option Addr} {i : Int} {w : World}
end
/-- Five lists lie apart. -/
theorem fam5 {B q : Nat} {S0 S1 S2 S3 S4 : Value} {z0 z1 z2 z3 z4 : List C} (h0 : W.ownsRow B 60 1 S0 z0.length (nums z0)) (h1 : W.ownsRow B 60 1 S1 z1.length (nums z1)) (h2 : W.ownsRow B 60 1 S2 z2.length (nums z2))
    (h3 : W.ownsRow B 60 1 S3 z3.length (nums z3)) (h4 : W.ownsRow B 60 1 S4 z4.length (nums z4)) (hq : W.heap[q]? = some (.cells #[S0, S1, S2, S3, S4] 25)) : Fam W B q [S0, S1, S2, S3, S4] [z0, z1, z2, z3, z4] where
  len := rfl
  own k S zs a b := by
    match k, a, b with
    | 0, a, b => simp at a b; subst a b; exact h0
    | 1, a, b => simp at a b; subst a b; exact h1
    | 2, a, b => simp at a b; subst a b; exact h2
    | 3, a, b => simp at a b; subst a b; exact h3
    | 4, a, b => simp at a b; subst a b; exact h4
  list k S a := by
    rw [cell_of_row W q k _ _ _ hq]
    match k, a with
    | 0, a => simpa using a
    | 1, a => simpa using a
    | 2, a => simpa using a
    | 3, a => simpa using a
    | 4, a => simpa using a
end
end Go.Proofs.YtandllekeimpgaaGreat
