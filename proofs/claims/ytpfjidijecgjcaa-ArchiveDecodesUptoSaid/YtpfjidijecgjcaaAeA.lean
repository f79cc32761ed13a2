/- Layer 31: lists held apart, many of them (turned from the texts of numbers by conv_many.py). -/
import Derived.Test.YtpfjidijecgjcaaAeC
import Derived.Test.YtpfjidijecgjcaaAdJ
import Derived.Deep.RegionLaw
import Derived.Deep.AppendLies
import Derived.Deep.DeepCutAuto
import Derived.Deep.RegionHeld3
import Derived.Maps.AppendAt
import Derived.Deep.OwnRows
import Derived.WalkLawsBesides
import Derived.Tactics
import Derived.BigQuiet
import Derived.Deep.QuietTactic
namespace Go.Proofs.Ytpfjidijecgjcaa
open Go.RowKit Fl Ieee
set_option maxRecDepth 20000
attribute [local go_sem] run_store_float run_store_complex
def mark (k i : Nat) : C := (fsub (cn .f64 (floatOfInt .f64 (-1000 * (k : Int) - (i : Int)))) (cn .f64 4620130267728707584), cn .f64 (floatOfInt .f64 (k : Int)))
theorem mark_c (k i : Nat) (hk : k ≤ 100000) (hi : i ≤ 1000000) (w : World) :
    Calls Try.prog 67 #[.int .i64 (k : Nat), .int .i64 (i : Nat)] w (RetC (mark k i) w) := by
  have hlt : floatOfInt .f64 (k : Int) < 18446744073709551616 := (ex_nearest (z := (k : Int)) (by omega)).1
  have HLt := Lib.hid hlt
  clear hlt
  go_enter Try.func67, Try.ntmps67
  go_wp2_with fail
  refine upon_sub _ _ _ _ ?_
  intro r1 n1 h1
  go_wp2
  go_ret
  exact closeC h1.1 rfl h1.2 HLt.out
theorem nums_set (zs : List C) (k : Nat) (z : C) : (nums zs).set k (.complex .f64 z.1 z.2) = nums (zs.set k z) := by
  simp [nums, List.map_set]
def FromZ (v : C) (B : Nat) (w : World) (e : Ending) (w' : World) : Prop := ∃ z : C, e = .returned (.complex .f64 z.1 z.2) ∧ cnC z = v ∧ ltC z ∧ Below B w w'
theorem from_c {P : Program} {f : FuncId} {args : Array Value} {B : Nat} {w V : World} {v : C} (h : Calls P f args V (RetC v V)) (hb : Below B w V) : Calls P f args V (FromZ v B w) :=
  h.mono fun _ _ ⟨x, y, n, he, hv, hx, hy, hw⟩ => ⟨(x, y), he, hv, ⟨hx, hy⟩, by rw [hw]; exact below_drewN hb n⟩
theorem wrap_smallA (x : Nat) (h : x ≤ 4000000) : wrap64 (x : Int) = (x : Int) := by unfold wrap64; omega
theorem kSameNumber_t (p q : C) (h : cnC p = cnC q) (w : World) :
    Calls Try.prog 76 #[.complex .f64 p.1 p.2, .complex .f64 q.1 q.2] w fun e w' => e = .returned (.bool true) ∧ w = w' := by
  have e1 : decide (cn .f64 p.1 = cn .f64 q.1) = true := decide_eq_true (congrArg Prod.fst h)
  have e2 : decide (cn .f64 p.2 = cn .f64 q.2) = true := decide_eq_true (congrArg Prod.snd h)
  have H1 := Lib.hid (fun V => kSameReal_c p.1 q.1 V)
  have H2 := Lib.hid (fun V => kSameReal_c p.2 q.2 V)
  rw [e1] at H1
  rw [e2] at H2
  clear h e1 e2
  go_enter Try.func76, Try.ntmps76
  go_wp2_with fail
  refine (H1.out _).mono ?_
  rintro e w' ⟨rfl, rfl⟩
  go_wp2_with fail
  refine (H2.out _).mono ?_
  rintro e w' ⟨rfl, rfl⟩
  go_wp2
  go_ret
  exact ⟨rfl, rfl⟩
section
variable {W V : World} {B q : Nat}
/-- A slice's value, read as a list. -/
def RdS (W : World) (S : Value) (zs : List C) : Prop := ∃ A c, S = .slice A zs.length c ∧ (∀ ad : Addr, A = some ad → ad = ⟨ad.block, 0, none⟩) ∧ Reads W W.heap.size A (nums zs)
theorem RdS.of_own {S : Value} {zs : List C} (h : W.ownsRow B 60 1 S zs.length (nums zs)) : RdS W S zs := by
  obtain ⟨A, m, c, rfl, rfl⟩ := slice_of_own h
  refine ⟨A, c, rfl, fun ad e => ?_, Reads.of_own h⟩
  subst e
  rcases h.2 with ⟨h1, _⟩ | ⟨g, cap, cur, h1, _⟩
  · cases h1
  · injection h1 with h2
    injection h2 with h3
    subst h3; rfl
theorem RdS.step {S : Value} {zs : List C} {row : Option Nat} (h : RdS W S zs) (hg : W.grownBy V row) (hne : S.ownBlock = none ∨ S.ownBlock ≠ row) : RdS V S zs := by
  obtain ⟨A, c, rfl, h0, hr⟩ := h
  refine ⟨A, c, rfl, h0, fun hn => ?_⟩
  obtain ⟨ad, rfl, hb, hc⟩ := hr hn
  refine ⟨ad, rfl, Nat.lt_of_lt_of_le hb hg.size, fun j u hu => hg.cell (hc j u hu) ?_⟩
  rw [block_of_add]
  rcases hne with h | h
  · cases h
  · exact h
/-- All are marks of list k. -/
def marked (k : Nat) (zs : List C) : Prop := ∀ p z, zs[p]? = some z → cnC z = mark (k + 10) p
theorem marked_snoc {k : Nat} {zs : List C} {z : C} (h : marked k zs) (hz : cnC z = mark (k + 10) zs.length) : marked k (zs ++ [z]) := by
  intro p y hy
  rcases Nat.lt_or_ge p zs.length with h1 | h1
  · rw [List.getElem?_append_left h1] at hy; exact h p y hy
  · rw [List.getElem?_append_right h1] at hy
    rcases Nat.lt_or_ge (p - zs.length) 1 with h2 | h2
    · have e : p = zs.length := by omega
      subst e
      simp at hy
      subst hy; exact hz
    · rw [List.getElem?_eq_none (by simpa using h2)] at hy; cases hy
/-- Which lists lie apart; where their own list lies. -/
structure Apt (q : Nat) (Ss : List Value) : Prop where
  apart : ∀ (j k : Nat) (S S' : Value), Ss[j]? = some S → Ss[k]? = some S' → j ≠ k → S.ownBlock = none ∨ S.ownBlock ≠ S'.ownBlock
  notq : ∀ (k : Nat) (S : Value), Ss[k]? = some S → S.ownBlock ≠ some q
/-- Before: each list is a row of its own. -/
structure Fam (W : World) (B q : Nat) (Ss : List Value) (zss : List (List C)) : Prop where
  len : zss.length = Ss.length
  own : ∀ (k : Nat) (S : Value) (zs : List C), Ss[k]? = some S → zss[k]? = some zs → W.ownsRow B 60 1 S zs.length (nums zs)
  list : ∀ (k : Nat) (S : Value), Ss[k]? = some S → W.cell? ⟨q, k, none⟩ = some S
theorem Fam.drewN {Ss : List Value} {zss : List (List C)} (h : Fam W B q Ss zss) (n : Nat) : Fam (W.drewN n) B q Ss zss := ⟨h.len, h.own, h.list⟩
theorem Fam.below {Ss : List Value} {zss : List (List C)} (h : Fam W B q Ss zss) (hb : Below W.heap.size W V) : Fam V B q Ss zss :=
  ⟨h.len, fun k S zs h1 h2 => own_below (h.own k S zs h1 h2) hb, fun k S hk => (hb.cell (p := ⟨q, k, none⟩) (block_lt_of_cell (h.list k S hk))).trans (h.list k S hk)⟩
/-- One place is written. -/
theorem Fam.set {Ss : List Value} {zss : List (List C)} {k i g n c : Nat} {zs : List C} {z : C} (h : Fam W B q Ss zss) (ha : Apt q Ss) (hS : Ss[k]? = some (.slice (some ⟨g, 0, none⟩) n c)) (hz : zss[k]? = some zs) (hn : n = zs.length) :
    Fam (W.setCell ⟨g, i, none⟩ (.complex .f64 z.1 z.2)) B q Ss (zss.set k (zs.set i z)) := by
  subst hn
  have hs := (h.own k _ zs hS hz).stored i (.complex .f64 z.1 z.2)
  rw [nums_set] at hs
  have hk : k < zss.length := lt_of_some hz
  refine ⟨by rw [List.length_set]; exact h.len, fun j S ys hj hy => ?_, fun j S hj => ?_⟩
  · by_cases e : j = k
    · subst e
      rw [hS] at hj
      injection hj with hj
      subst hj
      rw [List.getElem?_set_self hk] at hy
      injection hy with hy
      subst hy
      rw [List.length_set]
      exact hs.1
    · rw [List.getElem?_set_ne (fun h => e h.symm)] at hy
      refine (h.own j S ys hj hy).kept hs.2 ?_
      exact ha.apart j k S _ hj hS e
  · have hq : g ≠ q := fun e => ha.notq k _ hS (by rw [e]; rfl)
    exact (World.cell?_setCell_other _ _ _ _ (fun e => hq (by injection e))).trans (h.list j S hj)
end
section
theorem addr0 (g j : Nat) : (Addr.add ⟨g, 0, none⟩ j) = ⟨g, j, none⟩ := by unfold Addr.add; split <;> simp_all
theorem ne_row {v : Value} {row : Option Nat} (h : ∀ b, row = some b → v.ownBlock ≠ some b) : v.ownBlock = none ∨ v.ownBlock ≠ row := by
  cases row with
  | none => cases hv : v.ownBlock with
    | none => exact .inl rfl
    | some b => exact .inr (by simp)
  | some b => exact .inr (h b rfl)
theorem RdS.keep {W V : World} {S : Value} {zs : List C} {row : Option Nat} (h : RdS W S zs) (hg : W.grownBy V row) (hne : ∀ b, row = some b → zs = [] ∨ S.ownBlock ≠ some b) : RdS V S zs := by
  by_cases h0 : zs = []
  · obtain ⟨A, c, rfl, h1, _⟩ := h
    exact ⟨A, c, rfl, h1, fun hn => by subst h0; simp at hn⟩
  · exact h.step hg (ne_row fun b hb => (hne b hb).resolve_left h0)
theorem RdS.below {W V : World} {S : Value} {zs : List C} (h : RdS W S zs) (hb : Below W.heap.size W V) : RdS V S zs := by
  obtain ⟨A, c, rfl, h1, hr⟩ := h
  exact ⟨A, c, rfl, h1, (hr.below hb).more hb.size⟩
theorem own_below' {W V : World} {B e n : Nat} {v : Value} {xs : List Value} (h : W.ownsRow B e 1 v n xs) (hb : Below W.heap.size W V) : V.ownsRow B e 1 v n xs := own_below h hb
/-- In round k of the second loop: all but list k. -/
structure Rest (W : World) (B q k : Nat) (Ss : List Value) (zss : List (List C)) (Gs : List Value) (yss : List (List C)) (gv : Value) : Prop where
  reads : ∀ (j : Nat) (S : Value) (zs : List C), j ≠ k → Ss[j]? = some S → zss[j]? = some zs → RdS W S zs
  own : ∀ (j : Nat) (S : Value) (zs : List C), k < j → Ss[j]? = some S → zss[j]? = some zs → W.ownsRow B 60 1 S zs.length (nums zs)
  ownG : ∀ (j : Nat) (G : Value) (ys : List C), Gs[j]? = some G → yss[j]? = some ys → W.ownsRow B 60 1 G ys.length (nums ys)
  ownL : W.ownsRow B 37 1 gv Gs.length Gs
  list : ∀ (j : Nat) (S : Value), Ss[j]? = some S → W.cell? ⟨q, j, none⟩ = some S
  lenz : zss.length = Ss.length
  leny : yss.length = Gs.length
/-- Block b is none of theirs. -/
structure Off (q k : Nat) (Ss : List Value) (Gs : List Value) (gv : Value) (b : Nat) : Prop where
  s : ∀ (j : Nat) (S : Value), j ≠ k → Ss[j]? = some S → S.ownBlock ≠ some b
  g : ∀ (j : Nat) (G : Value), Gs[j]? = some G → G.ownBlock ≠ some b
  l : gv.ownBlock ≠ some b
  q : q ≠ b
theorem some_len {α β : Type} {l : List α} {m : List β} {j : Nat} {x : α} (h : l[j]? = some x) (e : m.length = l.length) : ∃ y, m[j]? = some y :=
  some_of_lt (by have := lt_of_some h; omega)
variable {W V : World} {B q k : Nat} {Ss : List Value} {zss : List (List C)} {Gs : List Value} {yss : List (List C)} {gv : Value}
theorem Rest.keep {row : Option Nat} (h : Rest W B q k Ss zss Gs yss gv) (hg : W.grownBy V row) (ho : ∀ b, row = some b → Off q k Ss Gs gv b) : Rest V B q k Ss zss Gs yss gv where
  reads j S zs hj h1 h2 := (h.reads j S zs hj h1 h2).keep hg fun b hb => .inr ((ho b hb).s j S hj h1)
  own j S zs hj h1 h2 := (h.own j S zs hj h1 h2).kept hg (ne_row fun b hb => (ho b hb).s j S (by omega) h1)
  ownG j G ys h1 h2 := (h.ownG j G ys h1 h2).kept hg (ne_row fun b hb => (ho b hb).g j G h1)
  ownL := h.ownL.kept hg (ne_row fun b hb => (ho b hb).l)
  list j S h1 := hg.cell (h.list j S h1) (fun e => (ho q e.symm).q rfl)
  lenz := h.lenz
  leny := h.leny
theorem Rest.below (h : Rest W B q k Ss zss Gs yss gv) (hb : Below W.heap.size W V) : Rest V B q k Ss zss Gs yss gv where
  reads j S zs hj h1 h2 := (h.reads j S zs hj h1 h2).below hb
  own j S zs hj h1 h2 := own_below (h.own j S zs hj h1 h2) hb
  ownG j G ys h1 h2 := own_below (h.ownG j G ys h1 h2) hb
  ownL := own_below h.ownL hb
  list j S h1 := (hb.cell (p := ⟨q, j, none⟩) (block_lt_of_cell (h.list j S h1))).trans (h.list j S h1)
  lenz := h.lenz
  leny := h.leny
/-- What lies apart from what, at the head of round k. -/
structure Dis (q k : Nat) (Ss : List Value) (Gs : List Value) (gv : Value) : Prop where
  g : ∀ (j : Nat) (G : Value) (j' : Nat) (S' : Value), Gs[j]? = some G → k ≤ j' → Ss[j']? = some S' → S'.ownBlock = none ∨ G.ownBlock ≠ S'.ownBlock
  s : ∀ (j : Nat) (S : Value), Ss[j]? = some S → S.ownBlock = none ∨ S.ownBlock ≠ gv.ownBlock
  l : ∀ (j : Nat) (G : Value), Gs[j]? = some G → G.ownBlock = none ∨ G.ownBlock ≠ gv.ownBlock
  q : gv.ownBlock ≠ some q
theorem Off.of_own {S : Value} {b : Nat} (ha : Apt q Ss) (hd : Dis q k Ss Gs gv) (hS : Ss[k]? = some S) (hb : S.ownBlock = some b) : Off q k Ss Gs gv b where
  s j S' hj h1 e := by
    rcases ha.apart k j S S' hS h1 (fun e => hj e.symm) with h | h
    · rw [hb] at h; cases h
    · exact h (by rw [hb, e])
  g j G h1 e := by
    rcases hd.g j G k S h1 (Nat.le_refl _) hS with h | h
    · rw [hb] at h; cases h
    · exact h (by rw [hb, e])
  l e := by
    rcases hd.s k S hS with h | h
    · rw [hb] at h; cases h
    · exact h (by rw [hb, e])
  q e := ha.notq k S hS (by rw [hb, e])
theorem Off.of_new {b N : Nat} (h : Rest W B q k Ss zss Gs yss gv) (hS : ∀ (j : Nat) (S : Value) (b : Nat), Ss[j]? = some S → S.ownBlock = some b → b < W.heap.size) (hq : q < W.heap.size) (hN : W.heap.size ≤ N) (hb : N ≤ b) : Off q k Ss Gs gv b where
  s j S _ h1 e := by have := hS j S b h1 e; omega
  g j G h1 e := by
    obtain ⟨ys, hy⟩ := some_len h1 h.leny
    have := ((h.ownG j G ys h1 hy).lt b e).2; omega
  l e := by have := (h.ownL.lt b e).2; omega
  q e := by omega
/-- In the inner loop: list k, of which i marks have been appended. -/
structure Inn (W0 W : World) (B q k n i : Nat) (Ss : List Value) (zss : List (List C)) (Gs : List Value) (yss : List (List C)) (gv S G : Value) (zs ys : List C) : Prop where
  rest : Rest W B q k Ss zss Gs yss gv
  own : W.ownsRow B 60 1 G (n + i) (nums ys)
  mkd : marked k ys
  pre : ∃ ts, ys = zs ++ ts
  rd : RdS W S zs
  size : W0.heap.size ≤ W.heap.size
  blk : G.ownBlock = S.ownBlock ∨ ∃ b, G.ownBlock = some b ∧ W0.heap.size ≤ b
theorem Inn.below {W0 : World} {n i : Nat} {S G : Value} {zs ys : List C} (h : Inn W0 W B q k n i Ss zss Gs yss gv S G zs ys) (hb : Below W.heap.size W V) : Inn W0 V B q k n i Ss zss Gs yss gv S G zs ys :=
  ⟨h.rest.below hb, own_below h.own hb, h.mkd, h.pre, h.rd.below hb, Nat.le_trans h.size hb.size, h.blk⟩
/-- One mark more. -/
theorem Inn.next {W0 : World} {n i : Nat} {S G G' : Value} {zs ys : List C} {z : C} (h : Inn W0 W B q k n i Ss zss Gs yss gv S G zs ys) (ha : Apt q Ss) (hd : Dis q k Ss Gs gv) (hS : Ss[k]? = some S) (h0 : Rest W0 B q k Ss zss Gs yss gv)
    (hSb : ∀ (j : Nat) (S : Value) (b : Nat), Ss[j]? = some S → S.ownBlock = some b → b < W0.heap.size) (hq : q < W0.heap.size)
    (hown : V.ownsRow B 60 1 G' (n + i + 1) (nums ys ++ [.complex .f64 z.1 z.2])) (hg : W.grownBy V G.ownBlock) (hat : G'.ownBlock = G.ownBlock ∨ (G'.ownBlock = some W.heap.size ∧ W.grownBy V none)) (hz : cnC z = mark (k + 10) ys.length) :
    Inn W0 V B q k n (i + 1) Ss zss Gs yss gv S G' zs (ys ++ [z]) where
  rest := h.rest.keep hg fun b hb => by
    rcases h.blk with e | ⟨b', e, hb'⟩
    · exact Off.of_own ha hd hS (by rw [← e, hb])
    · rw [hb] at e; injection e with e; subst e
      exact Off.of_new h0 hSb hq (Nat.le_refl _) hb'
  own := by
    have e : nums (ys ++ [z]) = nums ys ++ [.complex .f64 z.1 z.2] := by simp [nums]
    rw [e]; exact hown
  mkd := marked_snoc h.mkd hz
  pre := by obtain ⟨ts, e⟩ := h.pre; exact ⟨ts ++ [z], by rw [e, List.append_assoc]⟩
  rd := by
    rcases hat with hat | ⟨-, hn⟩
    · rcases h.blk with e | ⟨b, e, hb⟩
      · obtain ⟨A, c, rfl, h1, hr⟩ := h.rd
        refine ⟨A, c, rfl, h1, fun hpos => ?_⟩
        obtain ⟨ad, rfl, hlt, hc⟩ := hr hpos
        obtain ⟨g, cap, rfl, hBg, hgl⟩ := hown.form (by omega)
        have e2 : g = ad.block := by
          have := hat.trans e
          simpa [Value.ownBlock] using this
        obtain ⟨ts, hys⟩ := h.pre
        have hS0 := h.rd
        refine ⟨ad, rfl, by rw [← e2]; exact hgl, fun j u hj => ?_⟩
        have hjl : j < zs.length := by have := lt_of_some hj; simpa [nums] using this
        have hcell := hown.cellAt j (by have := hown.1; simp [nums] at this; rw [hys] at this; simp at this; omega)
        have hsame : ad.add j = ⟨g, j, none⟩ := by
          have e5 := h1 ad rfl
          rw [← e2] at e5
          rw [e5]; exact addr0 g j
        rw [hsame, hcell, List.getElem?_append_left (by simp [nums, hys]; omega), hys]
        have e3 : nums (zs ++ ts) = nums zs ++ nums ts := by simp [nums]
        rw [e3, List.getElem?_append_left (by simpa [nums] using hjl)]
        exact hj
      · refine h.rd.keep hg fun b' hb' => .inr fun e3 => ?_
        rw [e] at hb'; injection hb' with hb'; subst hb'
        have := hSb k S b hS e3; omega
    · exact h.rd.keep hn fun b hb => by cases hb
  size := Nat.le_trans h.size hg.size
  blk := by
    rcases hat with hat | ⟨hat, -⟩
    · rcases h.blk with e | ⟨b, e, hb⟩
      · exact .inl (hat.trans e)
      · exact .inr ⟨b, hat.trans e, hb⟩
    · exact .inr ⟨_, hat, h.size⟩
end
section
variable {w1 W V : World} {B q k : Nat} {Ss : List Value} {zss : List (List C)} {Gs : List Value} {yss : List (List C)} {gv : Value}
/-- At the head of the second loop: k lists have been gone on with. -/
structure Out (w1 W : World) (B q k : Nat) (Ss : List Value) (zss : List (List C)) (Gs : List Value) (yss : List (List C)) (gv : Value) : Prop where
  reads : ∀ (j : Nat) (S : Value) (zs : List C), Ss[j]? = some S → zss[j]? = some zs → RdS W S zs
  own : ∀ (j : Nat) (S : Value) (zs : List C), k ≤ j → Ss[j]? = some S → zss[j]? = some zs → W.ownsRow B 60 1 S zs.length (nums zs)
  ownG : ∀ (j : Nat) (G : Value) (ys : List C), Gs[j]? = some G → yss[j]? = some ys → W.ownsRow B 60 1 G ys.length (nums ys)
  ownL : W.ownsRow B 37 1 gv Gs.length Gs
  list : ∀ (j : Nat) (S : Value), Ss[j]? = some S → W.cell? ⟨q, j, none⟩ = some S
  lenz : zss.length = Ss.length
  leny : yss.length = Gs.length
  lenG : Gs.length = k
  mkd : ∀ (j : Nat) (ys : List C), yss[j]? = some ys → marked j ys
  lens : ∀ (j : Nat) (ys zs : List C), yss[j]? = some ys → zss[j]? = some zs → ys.length = zs.length + 6
  dis : Dis q k Ss Gs gv
  size : w1.heap.size ≤ W.heap.size
theorem Out.rest (h : Out w1 W B q k Ss zss Gs yss gv) : Rest W B q k Ss zss Gs yss gv :=
  ⟨fun j S zs _ => h.reads j S zs, fun j S zs hj => h.own j S zs (by omega), h.ownG, h.ownL, h.list, h.lenz, h.leny⟩
theorem Out.start (h : Fam w1 B q Ss zss) : Out w1 w1 B q 0 Ss zss [] [] (.slice none 0 0) where
  reads j S zs h1 h2 := RdS.of_own (h.own j S zs h1 h2)
  own j S zs _ h1 h2 := h.own j S zs h1 h2
  ownG j G ys h1 _ := by simp at h1
  ownL := World.ownsRow_nil _ _ _ _
  list := h.list
  lenz := h.len
  leny := rfl
  lenG := rfl
  mkd j ys h1 := by simp at h1
  lens j ys zs h1 _ := by simp at h1
  dis := ⟨fun j G j' S' h1 => by simp at h1, fun j S h1 => by cases hb : S.ownBlock with
    | none => exact .inl rfl
    | some b => exact .inr (by simp [Value.ownBlock]), fun j G h1 => by simp at h1, by simp [Value.ownBlock]⟩
  size := Nat.le_refl _
theorem Out.inn {S : Value} {zs : List C} (h : Out w1 W B q k Ss zss Gs yss gv) (hS : Ss[k]? = some S) (hz : zss[k]? = some zs) (hm : marked k zs) : Inn W W B q k zs.length 0 Ss zss Gs yss gv S S zs zs :=
  ⟨h.rest, h.own k S zs (Nat.le_refl _) hS hz, hm, ⟨[], by simp⟩, h.reads k S zs hS hz, Nat.le_refl _, .inl rfl⟩
theorem Out.next {W0 : World} {n : Nat} {S G gv' : Value} {zs ys : List C} (h : Out w1 W0 B q k Ss zss Gs yss gv) (hS : Ss[k]? = some S) (hz : zss[k]? = some zs) (hn : n = zs.length) (ha : Apt q Ss)
    (hSb : ∀ (j : Nat) (S : Value) (b : Nat), Ss[j]? = some S → S.ownBlock = some b → b < w1.heap.size) (hq : q < w1.heap.size)
    (hi : Inn W0 W B q k n 6 Ss zss Gs yss gv S G zs ys) (hown : V.ownsRow B 37 1 gv' (Gs.length + 1) (Gs ++ [G])) (hg : W.grownBy V gv.ownBlock) (hat : gv'.ownBlock = gv.ownBlock ∨ (gv'.ownBlock = some W.heap.size ∧ W.grownBy V none)) :
    Out w1 V B q (k + 1) Ss zss (Gs ++ [G]) (yss ++ [ys]) gv' := by
  subst hn
  have hyl : ys.length = zs.length + 6 := by have := hi.own.1; simpa [nums] using this
  obtain ⟨gb, gc, hGv, hgB, hgl⟩ := hi.own.form (by omega)
  have hGb : G.ownBlock = some gb := by rw [hGv]; rfl
  have hGl : G.ownBlock ≠ gv.ownBlock := by
    rcases hi.blk with e | ⟨b, e, hb⟩
    · rcases h.dis.s k S hS with h1 | h1
      · rw [hGb, h1] at e; cases e
      · rw [e]; exact h1
    · intro e2
      have := (h.ownL.lt b (by rw [← e2, e])).2; omega
  have hGrow : W.ownsRow B 60 1 G ys.length (nums ys) := by rw [hyl]; exact hi.own
  have hsW : w1.heap.size ≤ W.heap.size := Nat.le_trans h.size hi.size
  have gcase : ∀ (j : Nat) (G' : Value) (ys' : List C), (Gs ++ [G])[j]? = some G' → (yss ++ [ys])[j]? = some ys' → (Gs[j]? = some G' ∧ yss[j]? = some ys') ∨ (j = k ∧ G' = G ∧ ys' = ys) := fun j G' ys' h1 h2 => by
    rcases Nat.lt_or_ge j Gs.length with h3 | h3
    · rw [List.getElem?_append_left h3] at h1
      rw [List.getElem?_append_left (by rw [h.leny]; exact h3)] at h2
      exact .inl ⟨h1, h2⟩
    · have hj : j = Gs.length := by have := lt_of_some h1; simp at this; omega
      rw [List.getElem?_append_right h3, hj] at h1
      rw [List.getElem?_append_right (by rw [h.leny]; exact h3), h.leny, hj] at h2
      simp at h1 h2
      exact .inr ⟨hj.trans h.lenG, h1.symm, h2.symm⟩
  have gcase1 : ∀ (j : Nat) (G' : Value), (Gs ++ [G])[j]? = some G' → Gs[j]? = some G' ∨ (j = k ∧ G' = G) := fun j G' h1 => by
    obtain ⟨ys', h2⟩ := some_len (m := yss ++ [ys]) h1 (by simp [h.leny])
    rcases gcase j G' ys' h1 h2 with ⟨h3, _⟩ | ⟨h3, h4, _⟩
    · exact .inl h3
    · exact .inr ⟨h3, h4⟩
  have rowne : ∀ {v : Value}, (v.ownBlock = none ∨ v.ownBlock ≠ gv.ownBlock) → v.ownBlock = none ∨ v.ownBlock ≠ gv.ownBlock := id
  refine ⟨?_, ?_, ?_, by rw [List.length_append]; exact hown, ?_, h.lenz, by simp [h.leny], by simp [h.lenG], ?_, ?_, ?_, Nat.le_trans hsW hg.size⟩
  · intro j S' zs' h1 h2
    by_cases e : j = k
    · subst e
      rw [hS] at h1; injection h1 with h1; subst h1
      rw [hz] at h2; injection h2 with h2; subst h2
      exact hi.rd.step hg (h.dis.s _ _ hS)
    · exact (hi.rest.reads j S' zs' e h1 h2).step hg (h.dis.s _ _ h1)
  · intro j S' zs' hj h1 h2
    exact (hi.rest.own j S' zs' (by omega) h1 h2).kept hg (h.dis.s _ _ h1)
  · intro j G' ys' h1 h2
    rcases gcase j G' ys' h1 h2 with ⟨h3, h4⟩ | ⟨h3, h4, h5⟩
    · exact (hi.rest.ownG j G' ys' h3 h4).kept hg (h.dis.l _ _ h3)
    · subst h4 h5
      exact hGrow.kept hg (.inr hGl)
  · intro j S' h1
    exact hg.cell (hi.rest.list j S' h1) (fun e => h.dis.q e.symm)
  · intro j ys' h2
    obtain ⟨G', h1⟩ := some_len (m := Gs ++ [G]) h2 (by simp [h.leny])
    rcases gcase j G' ys' h1 h2 with ⟨h3, h4⟩ | ⟨h3, h4, h5⟩
    · exact h.mkd j ys' h4
    · subst h5; rw [h3]; exact hi.mkd
  · intro j ys' zs' h2 h6
    obtain ⟨G', h1⟩ := some_len (m := Gs ++ [G]) h2 (by simp [h.leny])
    rcases gcase j G' ys' h1 h2 with ⟨h3, h4⟩ | ⟨h3, h4, h5⟩
    · exact h.lens j ys' zs' h4 h6
    · subst h5; subst h3
      rw [hz] at h6; injection h6 with h6; subst h6
      exact hyl
  · refine ⟨?_, ?_, ?_, ?_⟩
    · intro j G' j' S' h1 hj' h2
      rcases gcase1 j G' h1 with h3 | ⟨h3, h4⟩
      · exact h.dis.g j G' j' S' h3 (by omega) h2
      · subst h4
        rcases hi.blk with e | ⟨b, e, hb⟩
        · rcases ha.apart k j' S S' hS h2 (by omega) with h5 | h5
          · rw [hGb, h5] at e; cases e
          · exact .inr (by rw [e]; exact h5)
        · cases hb' : S'.ownBlock with
          | none => exact .inl rfl
          | some b' =>
            refine .inr fun e2 => ?_
            have h5 := hSb j' S' b' h2 hb'
            have h6 := h.size
            rw [e] at e2; injection e2 with e2
            omega
    · intro j S' h1
      rcases hat with hat | ⟨hat, -⟩
      · rw [hat]; exact h.dis.s j S' h1
      · cases hb' : S'.ownBlock with
        | none => exact .inl rfl
        | some b' =>
          refine .inr fun e2 => ?_
          have h5 := hSb j S' b' h1 hb'
          rw [hat] at e2; injection e2 with e2
          omega
    · intro j G' h1
      rcases hat with hat | ⟨hat, -⟩
      · rw [hat]
        rcases gcase1 j G' h1 with h3 | ⟨h3, h4⟩
        · exact h.dis.l j G' h3
        · subst h4; exact .inr hGl
      · refine .inr fun e2 => ?_
        rcases gcase1 j G' h1 with h3 | ⟨h3, h4⟩
        · obtain ⟨ys', h4⟩ := some_len h3 h.leny
          have := ((hi.rest.ownG j G' ys' h3 h4).lt _ (e2.trans hat)).2; omega
        · subst h4
          have := (hGrow.lt _ (e2.trans hat)).2; omega
    · intro e2
      rcases hat with hat | ⟨hat, -⟩
      · exact h.dis.q (hat.symm.trans e2)
      · rw [hat] at e2; injection e2 with e2; omega
end
end Go.Proofs.Ytpfjidijecgjcaa
namespace Go.Proofs.Ytpfjidijecgjcaa
open Go.RowKit Fl Ieee
set_option maxRecDepth 20000
attribute [local go_sem] run_store_float run_store_complex
theorem nan_add {x y : Nat} (hx : fin double x) (hy : fin double y) : isNaN double (fadd x y) = false := by
  obtain ⟨r, s, h1, -, -⟩ := add_sval hx hy
  rw [h1]
  unfold isNaN
  rw [rung_word s (by rw [show double.infRung = 9218868437227405312 by decide, sw64]; omega)]
  exact decide_eq_false (by omega)
/-- A mark is no NaN. -/
theorem mark_fin (k i : Nat) (hk : k ≤ 100000) (hi : i ≤ 1000000) : isNaN double (mark k i).1 = false ∧ isNaN double (mark k i).2 = false := by
  have h1 : Ex (floatOfInt .f64 (-1000 * (k : Int) - (i : Int))) (-1000 * (k : Int) - (i : Int)) 1074 := ex_nearest (by omega)
  have h2 : Ex (floatOfInt .f64 (k : Int)) (k : Int) 1074 := ex_nearest (by omega)
  have h3 : fin double (fneg 4620130267728707584) := by unfold fin; decide +kernel
  unfold mark
  refine ⟨?_, ?_⟩
  · show isNaN double (fsub (Fl.cn .f64 (floatOfInt .f64 (-1000 * (k : Int) - (i : Int)))) (Fl.cn .f64 4620130267728707584)) = false
    rw [h1.cn, show Fl.cn .f64 4620130267728707584 = 4620130267728707584 by decide, fsub_eq _ (by omega)]
    exact nan_add h1.2.1 h3
  · show isNaN double (Fl.cn .f64 (floatOfInt .f64 (k : Int))) = false
    rw [h2.cn]; exact h2.nan
theorem cn_only {x m : Nat} (h : Fl.cn .f64 x = m) (hm : isNaN double m = false) : x = m := by
  have hx : isNaN double x = false := by
    exact (isNaN_cn .f64 x).symm.trans (by rw [h]; exact hm)
  rw [← h, cn_of_not (k := .f64) hx]
/-- A mark, outright. -/
theorem mark_x (k i : Nat) (hk : k ≤ 100000) (hi : i ≤ 1000000) (w : World) :
    Calls Try.prog 67 #[.int .i64 (k : Nat), .int .i64 (i : Nat)] w fun e w' => e = .returned (.complex .f64 (mark k i).1 (mark k i).2) ∧ ∃ d, w' = w.drewN d := by
  refine (mark_c k i hk hi w).mono ?_
  rintro e w' ⟨x, y, n, rfl, hv, hx, hy, rfl⟩
  obtain ⟨f1, f2⟩ := mark_fin k i hk hi
  have e1 : x = (mark k i).1 := cn_only (congrArg Prod.fst hv) f1
  have e2 : y = (mark k i).2 := cn_only (congrArg Prod.snd hv) f2
  exact ⟨by rw [e1, e2], n, rfl⟩
theorem quiet_drew {P : Program} {f : FuncId} {args : Array Value} {w : World} {n : Nat} {v : Value}
    (h : Calls P f args (w.drewN n) fun e w' => e = .returned v ∧ ∃ d, w' = (w.drewN n).drewN d) :
    Calls P f args (w.drewN n) fun e w'' => e = .returned v ∧ ∃ m, w'' = w.drewN m :=
  h.mono fun _ _ ⟨he, d, hm⟩ => ⟨he, n + d, by rw [hm, World.drewN_drewN]⟩
theorem quiet_same {P : Program} {f : FuncId} {args : Array Value} {w : World} {n : Nat} {v : Value}
    (h : Calls P f args (w.drewN n) fun e w' => e = .returned v ∧ w.drewN n = w') :
    Calls P f args (w.drewN n) fun e w'' => e = .returned v ∧ ∃ m, w'' = w.drewN m :=
  h.mono fun _ _ ⟨he, hm⟩ => ⟨he, n, hm.symm⟩
/-- The first lists are marked whole. -/
def MarkedTo (k : Nat) (zss : List (List C)) : Prop := ∀ (j : Nat) (zs : List C), j < k → zss[j]? = some zs → marked j zs
/-- Some places of list k are marked. -/
def part (k i : Nat) (zs : List C) : Prop := ∀ (p : Nat) (z : C), p < i → zs[p]? = some z → cnC z = mark (k + 10) p
theorem part_set {k i : Nat} {zs : List C} {z : C} (h : part k i zs) (hz : cnC z = mark (k + 10) i) : part k (i + 1) (zs.set i z) := by
  intro p y hp hy
  by_cases e : i = p
  · subst e
    rw [List.getElem?_set_self'] at hy
    cases hzi : zs[i]? with
    | none => rw [hzi] at hy; cases hy
    | some u => rw [hzi] at hy; simp at hy; subst hy; exact hz
  · rw [List.getElem?_set_ne e] at hy
    exact h p y (by omega) hy
theorem wrap_ten' (k : Nat) (h : k ≤ 20000) : wrap64 ((k : Int) + 10) = ((k + 10 : Nat) : Int) := by
  have h2 := wrap_smallA (k + 10) (by omega)
  rw [Int.natCast_add] at h2 ⊢
  exact h2
theorem wrap_ten (k : Nat) (h : k ≤ 20000) : IntKind.i64.wrap ((k : Int) + 10) = ((k + 10 : Nat) : Int) := by
  rw [IntWalk.i64_left]; exact wrap_ten' k h
theorem wrap_two (n i : Nat) (h : n ≤ 5000) (h' : i ≤ 6) : wrap64 ((n : Int) + (i : Int)) = ((n + i : Nat) : Int) := by rw [← Int.natCast_add]; unfold wrap64; omega
theorem infoSl : (Try.prog.info? 37).map (fun i => (i.zero, i.size, i.bytes)) = some (some (.slice none 0 0), 1, 24) := by kernel_rfl
def LoopA (w : World) (B q m : Nat) (Ss : List Value) (lens : List Nat) (k : Nat) (wr : World) : Prop :=
  ∃ zss : List (List C), k ≤ m ∧ Fam wr B q Ss zss ∧ zss.map List.length = lens ∧ MarkedTo k zss ∧ Below B w wr
def LoopB (w : World) (B q : Nat) (Ss : List Value) (lens : List Nat) (k n i : Nat) (wr : World) : Prop :=
  ∃ (zss : List (List C)) (zs : List C), i ≤ n ∧ Fam wr B q Ss zss ∧ zss.map List.length = lens ∧ MarkedTo k zss ∧ zss[k]? = some zs ∧ zs.length = n ∧ part k i zs ∧ Below B w wr
theorem LoopB.next {w wr V : World} {B q k n i g c : Nat} {Ss : List Value} {lens : List Nat} {z : C} (h : LoopB w B q Ss lens k n i wr) (ha : Apt q Ss) (hS : Ss[k]? = some (.slice (some ⟨g, 0, none⟩) n c)) (hi : i < n) (hg : B ≤ g) (hB : B ≤ wr.heap.size)
    (hV : Below wr.heap.size wr V) (hz : cnC z = mark (k + 10) i) : LoopB w B q Ss lens k n (i + 1) (V.setCell ⟨g, i, none⟩ (.complex .f64 z.1 z.2)) := by
  obtain ⟨zss, zs, h1, h2, h3, h4, h5, h6, h7, h8⟩ := h
  have hk : k < zss.length := lt_of_some h5
  refine ⟨zss.set k (zs.set i z), zs.set i z, hi, (h2.below hV).set (z := z) ha hS h5 h6.symm, ?_, ?_, ?_, ?_, part_set h7 hz, (h8.trans (hV.mono hB)).setCell hg _⟩
  · rw [List.map_set, List.length_set, ← h3]
    apply List.ext_getElem?
    intro j
    by_cases e : k = j
    · subst e
      rw [List.getElem?_set_self (by simpa using hk), List.getElem?_map, h5]; rfl
    · rw [List.getElem?_set_ne e]
  · intro j ys hj hy
    rw [List.getElem?_set_ne (by omega)] at hy
    exact h4 j ys hj hy
  · rw [List.getElem?_set_self hk]
  · rw [List.length_set]; exact h6
/-- What is known behind the first loops: all lists are marked. -/
def AllMarked (w : World) (B q : Nat) (Ss : List Value) (lens : List Nat) (wr : World) : Prop :=
  ∃ zss : List (List C), Fam wr B q Ss zss ∧ zss.map List.length = lens ∧ (∀ (j : Nat) (zs : List C), zss[j]? = some zs → marked j zs) ∧ Below B w wr
set_option maxHeartbeats 4000000 in
theorem Apart_try (B q m mc : Nat) (Ss : List Value) (lens : List Nat) (zs0 : List (List C)) (w : World) (hm : Ss.length = m) (hm100 : m ≤ 20000) (ha : Apt q Ss) (hF : Fam w B q Ss zs0) (hl : zs0.map List.length = lens) (hB : B ≤ w.heap.size) (hln : ∀ n ∈ lens, n ≤ 5000) :
    Calls Try.prog 43 #[.slice (some ⟨q, 0, none⟩) m mc] w fun e w' => e = .returned (.bool true) ∧ Below B w w' := by
  have HF0 := Lib.hid hF
  have HL0 := Lib.hid hl
  have HA := Lib.hid ha
  have HM := Lib.hid hm
  have HM100 := Lib.hid hm100
  have HB := Lib.hid hB
  have HLN := Lib.hid hln
  clear hm hm100 ha hF hl hB hln
  obtain ⟨i0, hi0, hz0, hz1, hz2⟩ := info_parts infoNum
  obtain ⟨iS, his, hs0, hs1, hs2⟩ := info_parts infoSl
  go_enter Try.func43, Try.ntmps43
  go_wp2
  go_loopw [3] (fun kv wr => ∃ k : Nat, kv = .int .i64 (k : Nat) ∧ LoopA w B q m Ss lens k wr) (fun kv _ => m - (intOf kv).toNat)
  case atStart => exact ⟨0, rfl, zs0, Nat.zero_le _, HF0.out, HL0.out, fun j zs hj _ => absurd hj (Nat.not_lt_zero _), Below.refl _ _⟩
  case round =>
    obtain ⟨k, rfl, hrl⟩ := hrel
    have HR := Lib.hid hrl
    obtain ⟨-, hk, -⟩ := hrl
    have hkb : k < 4611686018427387904 := by have := HM100.out; omega
    by_cases hlt : k < m
    · have hlti : (k : Int) < (m : Int) := Int.ofNat_lt.2 hlt
      obtain ⟨zss, -, hf, hlen, hmk, hbw⟩ := HR.out
      obtain ⟨S, hS⟩ := some_of_lt (l := Ss) (k := k) (by rw [HM.out]; exact hlt)
      obtain ⟨zs, hzs⟩ := some_of_lt (l := zss) (k := k) (by rw [hf.len, HM.out]; exact hlt)
      obtain ⟨A, n, c, rfl, hn⟩ := slice_of_own (hf.own k S zs hS hzs)
      have hn5 : n ≤ 5000 := by
        refine HLN.out n ?_
        rw [hn, ← hlen]
        exact List.mem_map_of_mem (List.mem_of_getElem? hzs)
      have HN5 := Lib.hid hn5
      have HSk := Lib.hid hS
      have hq := hf.list k _ hS
      have HB0 := Lib.hid (show LoopB w B q Ss lens k n 0 wr from ⟨zss, zs, Nat.zero_le _, hf, hlen, hmk, hzs, hn.symm, fun p z hp => absurd hp (Nat.not_lt_zero _), hbw⟩)
      clear hf hlen hmk hbw hzs hn hS hn5 zs zss
      go_wp2
      go_loopw [4] (fun iv wr => ∃ i : Nat, iv = .int .i64 (i : Nat) ∧ LoopB w B q Ss lens k n i wr) (fun iv _ => n - (intOf iv).toNat)
      case atStart => exact ⟨0, rfl, HB0.out⟩
      case round =>
        clear HB0 hq HR
        obtain ⟨i, rfl, hrl⟩ := hrel
        have HR := Lib.hid hrl
        obtain ⟨zss, zs, hi, hf, -, -, hzs, hzl, -, hbw⟩ := hrl
        have hq := hf.list k _ HSk.out
        have hkb2 : i < 4611686018427387904 := by have := HN5.out; omega
        rename World => wi
        by_cases hlt2 : i < n
        · have hlti2 : (i : Int) < (n : Int) := Int.ofNat_lt.2 hlt2
          obtain ⟨g, cap, hA, hBg, hgw⟩ := (hf.own k _ zs HSk.out hzs).form (by omega)
          have hAe : A = some ⟨g, 0, none⟩ := by injection hA
          subst hAe
          have hBw : B ≤ wi.heap.size := Nat.le_trans HB.out hbw.size
          obtain ⟨K, hK⟩ : ∃ K, K = k + 10 := ⟨_, rfl⟩
          have hw : IntKind.i64.wrap ((k : Int) + 10) = (K : Int) := by rw [hK]; exact wrap_ten k (by have := HM100.out; omega)
          have hkeep : ∀ V, Below wi.heap.size wi V → V.cell? ⟨q, k, none⟩ = some (.slice (some ⟨g, 0, none⟩) n c) ∧ (∃ u, V.cell? ⟨g, i, none⟩ = some u) ∧ V.frozen? ⟨g, i, none⟩ = false := fun V hV => by
            have hf2 := hf.below hV
            have ho := hf2.own k _ zs HSk.out hzs
            rw [hzl] at ho
            refine ⟨hf2.list k _ HSk.out, ?_, ho.frozenAt i⟩
            obtain ⟨u, hu⟩ := some_of_lt (l := nums zs) (k := i) (by simp [nums]; omega)
            exact ⟨u, (ho.cellAt i (by omega)).trans hu⟩
          have hqg : q ≠ g := fun e => HA.out.notq k _ HSk.out (by rw [e]; rfl)
          have hkeep2 : ∀ V v, Below wi.heap.size wi V → (V.setCell ⟨g, i, none⟩ v).cell? ⟨q, k, none⟩ = some (.slice (some ⟨g, 0, none⟩) n c) ∧ (∃ u, (V.setCell ⟨g, i, none⟩ v).cell? ⟨g, i, none⟩ = some u) ∧ (V.setCell ⟨g, i, none⟩ v).frozen? ⟨g, i, none⟩ = false := fun V v hV => by
            obtain ⟨y1, ⟨u, y2⟩, y3⟩ := hkeep V hV
            exact ⟨(World.cell?_setCell_other _ _ _ _ (fun e => hqg (by injection e with e1; exact e1.symm))).trans y1, ⟨_, World.cell?_setCell_same _ _ _ y2⟩, by rw [World.frozen?_setCell]; exact y3⟩
          have HK := Lib.hid hkeep
          have HK2 := Lib.hid hkeep2
          have hMk : ∀ V, Calls Try.prog 67 #[.int .i64 (IntKind.i64.wrap ((k : Int) + 10)), .int .i64 (i : Nat)] V (RetC (mark K i) V) := fun V => by rw [hw]; exact mark_c K i (by have := HM100.out; omega) (by have := HN5.out; omega) V
          have HMk := Lib.hid hMk
          have HKe := Lib.hid hK
          have HBg := Lib.hid hBg
          have HBw := Lib.hid hBw
          obtain ⟨x1, ⟨u, x2⟩, x3⟩ := hkeep wi (Below.refl _ _)
          clear hf hzs hzl hbw hA hgw hkeep hkeep2 hqg hK hq hBg hBw hMk hw
          go_wp2_with fail
          go_region_held3 (fun V => V.cell? ⟨q, k, none⟩ = some (.slice (some ⟨g, 0, none⟩) n c) ∧ (∃ u, V.cell? ⟨g, i, none⟩ = some u) ∧ V.frozen? ⟨g, i, none⟩ = false)
            (first
            | (with_reducible refine HK2.out _ _ ?_; (repeat (first | with_reducible assumption | with_reducible refine Below.drew ?_ | with_reducible exact Below.refl _ _)); done)
            | (with_reducible refine HK.out _ ?_; (repeat (first | with_reducible assumption | with_reducible refine Below.new ?_ (Nat.le_refl _) _ | with_reducible refine Below.drew ?_ | with_reducible exact Below.refl _ _)); done))
            (first
            | (go_at_call 67; (with_reducible refine (from_c (B := wi.heap.size) (w := wi) (HMk.out _) ?_).mono ?_); (repeat (first | with_reducible assumption | with_reducible refine Below.drew ?_ | with_reducible exact Below.refl _ _)); (rintro e V ⟨x, rfl, hx, lx, hV⟩); (obtain ⟨y1, ⟨u', y2⟩, y3⟩ := HK.out V hV)))
          all_goals
            have HVV := Lib.hid hV
            have HXX := Lib.hid hx
            clear hV hx lx x1 x2 x3 y1 y2 y3 HK HK2
            go_wp2
            go_roundw
            case rel => exact ⟨i + 1, by go_num, HR.out.next HA.out HSk.out hlt2 HBg.out HBw.out HVV.out (by rw [HXX.out, HKe.out])⟩
            case measure => simp [intOf]; omega
        · have e : i = n := by omega
          subst e
          have hlti2 : ((i : Int) < (i : Int)) = False := by simp
          clear hf hzs hzl hbw
          go_wp2
          go_roundw
          case rel =>
            refine ⟨k + 1, by go_num, ?_⟩
            obtain ⟨zss, zs, -, hf, hlen, hmk, hzs, hzl, hpt, hbw⟩ := HR.out
            refine ⟨zss, hlt, hf, hlen, fun j ys hj hy => ?_, hbw⟩
            rcases Nat.lt_or_ge j k with h | h
            · exact hmk j ys h hy
            · have e : j = k := by omega
              subst e
              rw [hzs] at hy
              injection hy with hy
              subst hy
              intro p z hz
              exact hpt p z (by have := lt_of_some hz; omega) hz
          case measure => simp [intOf]; omega
    · have e : k = m := by omega
      subst e
      have hlti : ((k : Int) < (k : Int)) = False := by simp
      obtain ⟨zss, -, hf, hlen, hmk, hbw⟩ := HR.out
      have HF1 := Lib.hid hf
      have HLen := Lib.hid hlen
      have HMk := Lib.hid (fun (j : Nat) (zs : List C) (hz : zss[j]? = some zs) => hmk j zs (by have := lt_of_some hz; rw [hf.len, HM.out] at this; exact this) hz)
      have HBw := Lib.hid hbw
      rename World => w1
      have HSb := Lib.hid (fun (j : Nat) (S : Value) (b : Nat) (hS : Ss[j]? = some S) (hb : S.ownBlock = some b) => by
        obtain ⟨zs, hz⟩ := some_len hS hf.len
        exact ((hf.own j S zs hS hz).lt b hb).2 : ∀ (j : Nat) (S : Value) (b : Nat), Ss[j]? = some S → S.ownBlock = some b → b < w1.heap.size)
      clear hf hlen hmk hbw HR HF0 HL0 hk hlt
      go_wp2
      go_loopw [5, 6] (fun gv kv wr => ∃ (j : Nat) (Gs : List Value) (yss : List (List C)), j ≤ k ∧ kv = .int .i64 (j : Nat) ∧ Out w1 wr B q j Ss zss Gs yss gv ∧ Below B w wr) (fun _ kv _ => k - (intOf kv).toNat)
      case atStart => exact ⟨0, [], [], Nat.zero_le _, rfl, Out.start HF1.out, HBw.out⟩
      case round =>
        obtain ⟨j, Gs, yss, hj, rfl, hout, hbw⟩ := hrel
        have HO := Lib.hid hout
        have HBw2 := Lib.hid hbw
        rename World => w0
        have hjb : j < 4611686018427387904 := by have := HM100.out; omega
        clear hout hbw hkb
        by_cases hlt : j < k
        · have hltj : (j : Int) < (k : Int) := Int.ofNat_lt.2 hlt
          obtain ⟨S, hS⟩ := some_of_lt (l := Ss) (k := j) (by rw [HM.out]; exact hlt)
          obtain ⟨zs, hzs⟩ := some_len hS HO.out.lenz
          obtain ⟨A, n, c, rfl, hn⟩ := slice_of_own (HO.out.own j S zs (Nat.le_refl _) hS hzs)
          have hn5 : n ≤ 5000 := by
            refine HLN.out n ?_
            rw [hn, ← HLen.out]
            exact List.mem_map_of_mem (List.mem_of_getElem? hzs)
          have hinn := HO.out.inn hS hzs (HMk.out j zs hzs)
          rw [← hn] at hinn
          have HInn := Lib.hid hinn
          have HN5 := Lib.hid hn5
          have HSj := Lib.hid hS
          have HZj := Lib.hid hzs
          have HNz := Lib.hid hn
          have hq := HO.out.list j _ hS
          have hqlt : q < w1.heap.size := block_lt_of_cell (HF1.out.list j _ hS)
          have HQ := Lib.hid hqlt
          have HRest := Lib.hid HO.out.rest
          clear hinn hn5 hS hzs hn hqlt
          go_wp2
          go_loopw [7, 8] (fun G iv wr => ∃ (i : Nat) (ys : List C), i ≤ 6 ∧ iv = .int .i64 (i : Nat) ∧ Inn w0 wr B q j n i Ss zss Gs yss u5 (.slice A n c) G zs ys ∧ Below B w wr) (fun _ iv _ => 6 - (intOf iv).toNat)
          case atStart => exact ⟨0, zs, Nat.zero_le _, rfl, HInn.out, HBw2.out⟩
          case round =>
            clear HInn hq
            obtain ⟨i, ys, hi, rfl, hinn, hbw⟩ := hrel
            have HIn := Lib.hid hinn
            have HBw3 := Lib.hid hbw
            rename World => wi
            have hq := hinn.rest.list j _ HSj.out
            have hib : i < 4611686018427387904 := by omega
            clear hinn hbw
            by_cases hlt2 : i < 6
            · have hlt6 : (i : Int) < 6 := by omega
              obtain ⟨K, hK⟩ : ∃ K, K = j + 10 := ⟨_, rfl⟩
              obtain ⟨M, hM⟩ : ∃ M, M = n + i := ⟨_, rfl⟩
              have hMk : ∀ V, Calls Try.prog 67 #[.int .i64 ((j : Int) + 10), .int .i64 (M : Nat)] V (RetC (mark K M) V) := fun V => by
                have e : (j : Int) + 10 = (K : Int) := by omega
                rw [e]; exact mark_c K M (by have := HM100.out; omega) (by have := HN5.out; omega) V
              have hw2 : wrap64 ((n : Int) + (i : Int)) = (M : Int) := by rw [hM]; exact wrap_two n i HN5.out hi
              have HMk2 := Lib.hid hMk
              have HKM := Lib.hid (And.intro hK hM)
              clear hMk hK hM
              go_wp2_with fail
              refine (from_c (B := wi.heap.size) (w := wi) (HMk2.out _) (Below.refl _ _)).mono ?_
              rintro e V ⟨z, rfl, hz, lz, hV⟩
              have HZ := Lib.hid hz
              have HV := Lib.hid hV
              have HI2 := Lib.hid ((HIn.out.below hV).below (below_new V (.cells #[.complex .f64 z.1 z.2] 60)))
              have hBs : B ≤ (V.alloc (.cells #[.complex .f64 z.1 z.2] 60)).heap.size := Nat.le_trans HB.out (Nat.le_trans HBw3.out.size (Nat.le_trans hV.size (below_new V _).size))
              have HBs := Lib.hid hBs
              have hmx : n + i + 1 ≤ 6000 := by have := HN5.out; omega
              have HMx := Lib.hid hmx
              clear hz lz hV hBs hmx hw2
              go_wp2_with (at_builtin; refine wpList_append_stays _ rfl (.tmp 50) (.tmp 61) 37 rfl B 60 i0 (.complex .f64 0 0) 16 Try.underlying37 hi0 hz0 hz1 hz2 rfl _ _ _ rfl HI2.out.own ⟨V.heap.size, 0, none⟩ 1 1 [.complex .f64 z.1 z.2] rfl rfl (cell_one_new _ _ _) (by intro u hu; simp at hu; subst hu; rfl) (by have := HMx.out; unfold maxLen; omega) (by have := HMx.out; omega) HBs.out ?_; intro v' w2 hown1 hgrow1 hat1)
              have hyl : ys.length = M := by have := HIn.out.own.1; rw [HKM.out.2]; simpa [nums] using this
              have hnx := HI2.out.next HA.out HO.out.dis HSj.out HRest.out (fun j S b h1 h2 => Nat.lt_of_lt_of_le (HSb.out j S b h1 h2) HO.out.size) (Nat.lt_of_lt_of_le HQ.out HO.out.size) hown1 hgrow1 hat1 (by rw [hyl, HZ.out, HKM.out.1])
              have HNx := Lib.hid hnx
              have HBx := Lib.hid (((HBw3.out.trans (HV.out.mono (Nat.le_trans HB.out HBw3.out.size))).new HB.out _).grown hgrow1 HBs.out (fun j hj => (HI2.out.own.lt j hj).1))
              clear hnx hown1 hgrow1 hat1 hyl
              go_wp2
              go_roundw
              case rel => exact ⟨i + 1, _, hlt2, by go_num, HNx.out, HBx.out⟩
              case measure => simp [intOf]; omega
            · have e : i = 6 := by omega
              subst e
              obtain ⟨g, cp, rfl, -, -⟩ := HIn.out.own.form (by omega)
              have HI2 := Lib.hid (HIn.out.below (below_new wi (.cells #[.slice (some ⟨g, 0, none⟩) (n + 6) cp] 37)))
              have hBs : B ≤ (wi.alloc (.cells #[.slice (some ⟨g, 0, none⟩) (n + 6) cp] 37)).heap.size := Nat.le_trans HB.out (Nat.le_trans HBw3.out.size (below_new wi _).size)
              have HBs := Lib.hid hBs
              have hGl : Gs.length ≤ 20000 := by rw [HO.out.lenG]; have := HM100.out; omega
              have HGl := Lib.hid hGl
              clear hBs hGl
              go_wp2_with (at_builtin; refine wpList_append_stays _ rfl (.tmp 63) (.tmp 65) 76 rfl B 37 iS (.slice none 0 0) 24 Try.underlying76 his hs0 hs1 hs2 rfl _ _ _ rfl HI2.out.rest.ownL ⟨wi.heap.size, 0, none⟩ 1 1 [.slice (some ⟨g, 0, none⟩) (n + 6) cp] rfl rfl (cell_one_new _ _ _) (by intro u hu; simp at hu; subst hu; rfl) (by have := HGl.out; unfold maxLen; omega) (by have := HGl.out; omega) HBs.out ?_; intro v' w2 hown1 hgrow1 hat1)
              have hnx := HO.out.next HSj.out HZj.out HNz.out HA.out HSb.out HQ.out HI2.out hown1 hgrow1 hat1
              have HNx := Lib.hid hnx
              have HBx := Lib.hid ((HBw3.out.new HB.out _).grown hgrow1 HBs.out (fun j hj => (HI2.out.rest.ownL.lt j hj).1))
              clear hnx hown1 hgrow1 hat1
              go_wp2
              go_roundw
              case rel => exact ⟨j + 1, _, _, hlt, by go_num, HNx.out, HBx.out⟩
              case measure => simp [intOf]; omega
        · have e : j = k := by omega
          subst e
          have hltj : ((j : Int) < (j : Int)) = False := by simp
          go_wp2
          go_loopw [9] (fun rv wr => ∃ r : Nat, r ≤ j ∧ rv = .int .i64 (r : Nat) ∧ Below w0.heap.size w0 wr) (fun rv _ => j - (intOf rv).toNat)
          case atStart => exact ⟨0, Nat.zero_le _, rfl, Below.refl _ _⟩
          case round =>
            obtain ⟨r, hr, rfl, hbr⟩ := hrel
            rename World => wr
            have hrb : r < 4611686018427387904 := by have := HM100.out; omega
            by_cases hlt3 : r < j
            · have hltr : (r : Int) < (j : Int) := Int.ofNat_lt.2 hlt3
              obtain ⟨S, hS⟩ := some_of_lt (l := Ss) (k := r) (by rw [HM.out]; exact hlt3)
              obtain ⟨zs, hzs⟩ := some_len hS HO.out.lenz
              obtain ⟨G, hG⟩ := some_of_lt (l := Gs) (k := r) (by rw [HO.out.lenG]; exact hlt3)
              obtain ⟨ys, hys⟩ := some_len hG HO.out.leny
              obtain ⟨A, c, rfl, hA0, hrd⟩ := HO.out.reads r S zs hS hzs
              have hyl := HO.out.lens r ys zs hys hzs
              have hownG := HO.out.ownG r G ys hG hys
              obtain ⟨g, cp, rfl, -, -⟩ := hownG.form (by omega)
              obtain ⟨n, hn⟩ : ∃ n, n = zs.length := ⟨_, rfl⟩
              rw [← hn] at hS
              have hn5 : n ≤ 5000 := by
                refine HLN.out n ?_
                rw [hn, ← HLen.out]
                exact List.mem_map_of_mem (List.mem_of_getElem? hzs)
              obtain ⟨gl, cl, hgv, -, -⟩ := HO.out.ownL.form (by rw [HO.out.lenG]; omega)
              subst hgv
              have hlG : (r : Int) < (Gs.length : Int) := by rw [HO.out.lenG]; exact hltr
              obtain ⟨N, hN⟩ : ∃ N, N = ys.length := ⟨_, rfl⟩
              rw [← hN] at hG hownG
              have hN6 : N = n + 6 := by rw [hN, hyl, hn]
              have hcS := HO.out.list r _ hS
              have hcL : w0.cell? ⟨gl, r, none⟩ = some (.slice (some ⟨g, 0, none⟩) N cp) := (HO.out.ownL.cellAt r (by have := lt_of_some hG; omega)).trans hG
              have hkeep : ∀ V, Below w0.heap.size w0 V → V.cell? ⟨q, r, none⟩ = some (.slice A n c) ∧ V.cell? ⟨gl, r, none⟩ = some (.slice (some ⟨g, 0, none⟩) N cp) := fun V hV =>
                ⟨(hV.cell (p := ⟨q, r, none⟩) (block_lt_of_cell hcS)).trans hcS, (hV.cell (p := ⟨gl, r, none⟩) (block_lt_of_cell hcL)).trans hcL⟩
              have HKp := Lib.hid hkeep
              obtain ⟨c1, c2⟩ := hkeep wr hbr
              have HBr := Lib.hid hbr
              have HZs := Lib.hid hzs
              have HYs := Lib.hid hys
              have HOG := Lib.hid hownG
              have HRd := Lib.hid hrd
              have HA0 := Lib.hid hA0
              have HN := Lib.hid hN
              have HNz := Lib.hid hn
              have HN5 := Lib.hid hn5
              have HN6 := Lib.hid hN6
              clear hS hzs hys hG hyl hownG hn hn5 hN hN6 hcS hcL hkeep hbr hrd hA0
              go_wp2
              go_loopw [10] (fun pv wr => ∃ p : Nat, p ≤ N ∧ pv = .int .i64 (p : Nat) ∧ Below w0.heap.size w0 wr) (fun pv _ => N - (intOf pv).toNat)
              case atStart => exact ⟨0, Nat.zero_le _, rfl, HBr.out⟩
              case round =>
                obtain ⟨p, hp, rfl, hbp⟩ := hrel
                clear c1 c2
                rename World => wp
                have hpb : p < 4611686018427387904 := by have := HN5.out; have := HN6.out; omega
                obtain ⟨c1, c2⟩ := HKp.out wp hbp
                have HBp := Lib.hid hbp
                clear hbp
                by_cases hlt4 : p < N
                · have hltp : (p : Int) < (N : Int) := Int.ofNat_lt.2 hlt4
                  obtain ⟨y, hy⟩ := some_of_lt (l := ys) (k := p) (by rw [← HN.out]; exact hlt4)
                  have hmy := HO.out.mkd r ys HYs.out p y hy
                  have hcy : w0.cell? ⟨g, p, none⟩ = some (.complex .f64 y.1 y.2) := (HOG.out.cellAt p (by omega)).trans (by simp [nums, hy])
                  obtain ⟨K, hK⟩ : ∃ K, K = r + 10 := ⟨_, rfl⟩
                  have hMk : ∀ V, Calls Try.prog 67 #[.int .i64 (IntKind.i64.wrap ((r : Int) + 10)), .int .i64 (p : Nat)] V (RetC (mark K p) V) := fun V => by
                    rw [wrap_ten r (by have := HM100.out; omega), ← hK]; exact mark_c K p (by have := HM100.out; omega) (by have := HN5.out; have := HN6.out; omega) V
                  have HMk2 := Lib.hid hMk
                  rw [← hK] at hmy
                  have HMy := Lib.hid hmy
                  by_cases hlt5 : p < n
                  · have hltn : (p : Int) < (n : Int) := Int.ofNat_lt.2 hlt5
                    obtain ⟨z, hz⟩ := some_of_lt (l := zs) (k := p) (by rw [← HNz.out]; exact hlt5)
                    have hmz := HMk.out r zs HZs.out p z hz
                    rw [← hK] at hmz
                    have hpos : 0 < (nums zs).length := by have := lt_of_some hz; simp [nums]; omega
                    obtain ⟨ad, rfl, hadl, hadc⟩ := HRd.out hpos
                    have e5 := HA0.out ad rfl
                    obtain ⟨b, hb⟩ : ∃ b, b = ad.block := ⟨_, rfl⟩
                    rw [← hb] at e5
                    subst e5
                    have hcz : w0.cell? ⟨b, p, none⟩ = some (.complex .f64 z.1 z.2) := by
                      have h := hadc p (.complex .f64 z.1 z.2) (by simp [nums, hz])
                      rwa [addr0] at h
                    have hkeep : ∀ V, Below w0.heap.size w0 V → (V.cell? ⟨q, r, none⟩ = some (.slice (some ⟨b, 0, none⟩) n c) ∧ V.cell? ⟨gl, r, none⟩ = some (.slice (some ⟨g, 0, none⟩) N cp)) ∧ V.cell? ⟨g, p, none⟩ = some (.complex .f64 y.1 y.2) ∧ V.cell? ⟨b, p, none⟩ = some (.complex .f64 z.1 z.2) := fun V hV =>
                      ⟨HKp.out V hV, (hV.cell (p := ⟨g, p, none⟩) (block_lt_of_cell hcy)).trans hcy, (hV.cell (p := ⟨b, p, none⟩) (block_lt_of_cell hcz)).trans hcz⟩
                    have HK := Lib.hid hkeep
                    obtain ⟨-, x3, x4⟩ := hkeep wp HBp.out
                    have HBd := HBp.out
                    have HSm := Lib.hid (fun V => kSameNumber_t z y (hmz.trans HMy.out.symm) V)
                    clear hmy hmz hy hz hcy hcz hkeep hadl hadc hpos hK hb hMk
                    go_wp2_with fail
                    go_region_held3 (fun V => (V.cell? ⟨q, r, none⟩ = some (.slice (some ⟨b, 0, none⟩) n c) ∧ V.cell? ⟨gl, r, none⟩ = some (.slice (some ⟨g, 0, none⟩) N cp)) ∧ V.cell? ⟨g, p, none⟩ = some (.complex .f64 y.1 y.2) ∧ V.cell? ⟨b, p, none⟩ = some (.complex .f64 z.1 z.2))
                      (with_reducible refine HK.out _ ?_; (repeat (first | with_reducible assumption | with_reducible refine Below.drew ?_ | with_reducible exact Below.refl _ _)))
                      (first
                      | (go_at_call 67; (with_reducible refine (from_c (B := w0.heap.size) (w := w0) (HMk2.out _) ?_).mono ?_); (repeat (first | with_reducible assumption | with_reducible refine Below.drew ?_ | with_reducible exact Below.refl _ _)); (rintro e V ⟨x, rfl, hx, lx, hV⟩); (have hxy := kSameNumber_t y x (HMy.out.trans hx.symm)))
                      | (go_at_call 76; (with_reducible refine (HSm.out _).mono ?_); (rintro e V ⟨rfl, rfl⟩))
                      | (go_at_call 76; (with_reducible refine (hxy _).mono ?_); (rintro e V ⟨rfl, rfl⟩)))
                    all_goals
                      have HVV := Lib.hid hV
                      clear hV hx lx hxy
                      go_wp2
                      go_roundw
                      case rel => exact ⟨p + 1, hlt4, by go_num, HVV.out⟩
                      case measure => simp [intOf]; omega
                  · have hltn : decide (p < n) = false := decide_eq_false hlt5
                    obtain ⟨x3, c3⟩ : wp.cell? ⟨g, p, none⟩ = some (.complex .f64 y.1 y.2) ∧ True := ⟨(HBp.out.cell (p := ⟨g, p, none⟩) (block_lt_of_cell hcy)).trans hcy, trivial⟩
                    have hMq : ∀ V, Calls Try.prog 67 #[.int .i64 (IntKind.i64.wrap ((r : Int) + 10)), .int .i64 (p : Nat)] V fun e w' => e = .returned (.complex .f64 (mark K p).1 (mark K p).2) ∧ ∃ d, w' = V.drewN d := fun V => by
                      rw [wrap_ten r (by have := HM100.out; omega), ← hK]; exact mark_x K p (by have := HM100.out; omega) (by have := HN5.out; have := HN6.out; omega) V
                    have hfin := mark_fin K p (by have := HM100.out; omega) (by have := HN5.out; have := HN6.out; omega)
                    have hmm : cnC y = cnC (mark K p) := by
                      rw [hmy]; exact (Prod.ext (cn_of_not (k := .f64) hfin.1) (cn_of_not (k := .f64) hfin.2)).symm
                    have hMq2 : ∀ V, Calls Try.prog 67 #[.int .i64 ((r : Int) + 10), .int .i64 (p : Nat)] V fun e w' => e = .returned (.complex .f64 (mark K p).1 (mark K p).2) ∧ ∃ d, w' = V.drewN d := fun V => by
                      have e : (r : Int) + 10 = (K : Int) := by omega
                      rw [e]; exact mark_x K p (by have := HM100.out; omega) (by have := HN5.out; have := HN6.out; omega) V
                    have HMq := Lib.hid hMq
                    have HMq2 := Lib.hid hMq2
                    have HSn := Lib.hid (fun V => kSameNumber_t y (mark K p) hmm V)
                    have hKp : 0 ≤ (p : Int) := by omega
                    clear hmy hy hcy hK hMk c3 hfin hmm hMq hMq2 hlt5
                    go_wp2_with fail
                    go_quiet (first
                      | (go_at_call 67; first | with_reducible exact quiet_drew (HMq.out _) | with_reducible exact quiet_drew (HMq2.out _))
                      | (go_at_call 76; with_reducible exact quiet_same (HSn.out _)))
                    go_wp2
                    go_roundw
                    case rel => exact ⟨p + 1, hlt4, by go_num, below_drewN HBp.out _⟩
                    case measure => simp [intOf]; omega
                · have e : p = N := by omega
                  subst e
                  have hltp : ((p : Int) < (p : Int)) = False := by simp
                  go_wp2
                  go_roundw
                  case rel => exact ⟨r + 1, hlt3, by go_num, HBp.out⟩
                  case measure => simp [intOf]; omega
            · have e : r = j := by omega
              subst e
              have hltr : ((r : Int) < (r : Int)) = False := by simp
              go_wp2
              go_ret
              exact ⟨rfl, HBw2.out.trans (hbr.mono (Nat.le_trans HB.out HBw2.out.size))⟩
end Go.Proofs.Ytpfjidijecgjcaa
