/- Layer 11: the document's answer: Finite, term, part. -/
import Derived.Test.YtandllekeimpgaaGreatRf2
import Derived.Test.YtandllekeimpgaaGreatEx6
import Derived.Test.YtandllekeimpgaaGreatExt
import Derived.Deep.DeepCutAuto
import Derived.StillTailTactics
namespace Go.Proofs.YtandllekeimpgaaGreat
open Go.RowKit Fl Ieee
set_option maxRecDepth 20000
attribute [local go_sem] run_store_float run_store_complex Fl.order_self Fl.order_self' Fl.order_eq Fl.order_ne Fl.order_lt Fl.order_gt
theorem rfinite11_c (A : Option Addr) (l : List C) (c : Nat) (w : World) (hlt : ltCs l) (hmax : l.length ≤ 4611686018427387904) (hA : Reads w w.heap.size A (nums l)) :
    Calls Tryz.prog 37 #[.slice A l.length c] w (RetB (l.all pFinite) w) := by
  have HA := Lib.hid hA
  have HLt := Lib.hid hlt
  clear hA hlt
  go_enter Tryz.func37, Tryz.ntmps37
  go_wp2
  go_loopw [3] (fun i wr => ∃ k d : Nat, k ≤ l.length ∧ i = .int .i64 (k : Nat) ∧ (∀ j z, j < k → l[j]? = some z → pFinite z = true) ∧ wr = w.drewN d) (fun i _ => l.length - (intOf i).toNat)
  case atStart => exact ⟨0, 0, Nat.zero_le _, rfl, fun j z hj => absurd hj (Nat.not_lt_zero _), rfl⟩
  case round =>
    obtain ⟨k, d, hk, rfl, hall, rfl⟩ := hrel
    have HAll := Lib.hid hall
    clear hall
    by_cases hlt : k < l.length
    · obtain ⟨x, hx⟩ := some_of_lt (l := l) (k := k) hlt
      have hxv : (nums l)[k]? = some (.complex .f64 x.1 x.2) := by simp [nums, hx]
      obtain ⟨ad, rfl, _, hc1⟩ := HA.out.at_ hxv
      have hz := HLt.out x (List.mem_of_getElem? hx)
      have HX := Lib.hid hx
      have HFc := Lib.hid (rFinite_c x.1 x.2 hz.1 hz.2)
      rw [pFinR_cn] at HFc
      obtain ⟨fx, hfx⟩ : ∃ fx, fx = pFinite x := ⟨_, rfl⟩
      rw [← hfx] at HFc
      have HFx := Lib.hid hfx
      have hc2 : (w.drewN d).cell? (ad.add k) = some (.complex .f64 x.1 x.2) := hc1
      clear hx hxv hz hfx hc1
      go_wp2_with fail
      refine (HFc.out _).mono ?_
      rintro e w' ⟨n1, rfl, rfl⟩
      cases fx
      · go_wp2
        go_ret
        refine ⟨d + n1, ?_, by simp⟩
        have : l.all pFinite = false := by
          rw [Bool.eq_false_iff]; intro h1
          have h2 := List.all_eq_true.1 h1 x (List.mem_of_getElem? HX.out)
          rw [← HFx.out] at h2; cases h2
        rw [this]; rfl
      · go_wp2
        go_roundw
        case rel => exact ⟨k + 1, d + n1, hlt, by go_num, fun j z hj hz => by
          rcases Nat.lt_or_ge j k with h | h
          · exact HAll.out j z h hz
          · have e : j = k := by omega
            subst e
            have h3 := HX.out.symm.trans hz
            injection h3 with h3
            rw [← h3, ← HFx.out], by simp⟩
        case measure => simp [intOf]; omega
    · have e : k = l.length := by omega
      go_wp2
      go_ret
      refine ⟨d, ?_, rfl⟩
      have : l.all pFinite = true := List.all_eq_true.2 fun z hz => by
        obtain ⟨j, hj⟩ := List.getElem?_of_mem hz
        exact HAll.out j z (by rw [e]; exact lt_of_some hj) hj
      rw [this]; rfl
def tmP (neg : Bool) (a b : Nat) : Nat := if neg then fneg (pr a b) else pr a b
def tmE (neg : Bool) (a b : Nat) : Nat := if neg then fneg (er a b) else er a b
def RetTm (neg : Bool) (a b : Nat) (w : World) (e : Ending) (w' : World) : Prop :=
  ∃ x y, e = .returned (.tuple #[.float .f64 x, .float .f64 y]) ∧ cn .f64 x = tmP neg a b ∧ cn .f64 y = tmE neg a b ∧ x < 18446744073709551616 ∧ y < 18446744073709551616 ∧ Below w.heap.size w w'
theorem term_c (neg : Bool) (a b : Nat) (ha : a < 18446744073709551616) (hb : b < 18446744073709551616) (na : cn .f64 a = a) (nb : cn .f64 b = b) (w : World) :
    Calls Tryz.prog 102 #[.bool neg, .float .f64 a, .float .f64 b] w (RetTm neg a b w) := by
  have HT := Lib.hid (RTwoProd_c a b ha hb w)
  rw [na, nb] at HT
  clear ha hb na nb
  go_enter Tryz.func102, Tryz.ntmps102
  go_wp2_with fail
  refine HT.out.mono ?_
  rintro e W1 ⟨x, y, rfl, hv, hx, hy, hb⟩
  have HV := Lib.hid hv
  have HB := Lib.hid hb
  have HL := Lib.hid (And.intro hx hy)
  have HNg := Lib.hid (rNeg_c x y hx hy)
  clear hv hb hx hy HT
  cases neg
  · go_wp2
    go_ret2
    exact ⟨_, _, rfl, congrArg Prod.fst HV.out, congrArg Prod.snd HV.out, HL.out.1, HL.out.2, HB.out⟩
  · go_wp2_with fail
    refine (HNg.out _).mono ?_
    rintro e w' ⟨rfl, rfl⟩
    go_wp2
    go_ret2
    refine ⟨_, _, rfl, ?_, ?_, flip_lt64 HL.out.1, flip_lt64 HL.out.2, HB.out⟩
    · rw [cn_flip HL.out.1, show cn .f64 x = pr a b from congrArg Prod.fst HV.out]; rfl
    · rw [cn_flip HL.out.2, show cn .f64 y = er a b from congrArg Prod.snd HV.out]; rfl
def tms (b : Nat) (second : Bool) (ps : List (Nat × Nat)) : Nat → List Nat
  | 0 => [cn .f64 b]
  | i + 1 => tms b second ps i ++ [tmP (!second || i % 2 == 0) (ps.getD i (0, 0)).1 (ps.getD i (0, 0)).2]
def ers (second : Bool) (ps : List (Nat × Nat)) : Nat → List Nat
  | 0 => []
  | i + 1 => ers second ps i ++ [tmE (!second || i % 2 == 0) (ps.getD i (0, 0)).1 (ps.getD i (0, 0)).2]
/-- A list of pairs of reals. -/
structure PairsAt (W : World) (v : Value) (ps : List (Nat × Nat)) : Prop where
  form : ∃ A cap, v = .slice A ps.length cap
  at_ : ∀ i p, ps[i]? = some p → ∃ g cap, v = .slice (some ⟨g, 0, none⟩) ps.length cap ∧ g < W.heap.size ∧ W.cell? ⟨g, i * 2, none⟩ = some (.float .f64 p.1) ∧ W.cell? ⟨g, i * 2 + 1, none⟩ = some (.float .f64 p.2)
theorem PairsAt.below {W V : World} {v : Value} {ps : List (Nat × Nat)} (h : PairsAt W v ps) (hb : Below W.heap.size W V) : PairsAt V v ps :=
  ⟨h.form, fun i p hi => by
    obtain ⟨g, cap, e, hg, c0, c1⟩ := h.at_ i p hi
    exact ⟨g, cap, e, Nat.lt_of_lt_of_le hg hb.size, (hb.cell (p := ⟨g, i * 2, none⟩) hg).trans c0, (hb.cell (p := ⟨g, i * 2 + 1, none⟩) hg).trans c1⟩⟩
/-- Two lists that grow. -/
structure Two (w W : World) (v0 v1 : Value) (T E : List Nat) : Prop where
  t : W.ownsRow w.heap.size 61 1 v0 T.length (reals T)
  e : W.ownsRow w.heap.size 61 1 v1 E.length (reals E)
  apart : ∀ g, v0.ownBlock = some g → v1.ownBlock ≠ some g
  wt : words T
  we : words E
  bel : Below w.heap.size w W
theorem tms_len (b : Nat) (sc : Bool) (ps : List (Nat × Nat)) (i : Nat) : (tms b sc ps i).length = i + 1 := by
  induction i with
  | zero => rfl
  | succ i ih => unfold tms; rw [List.length_append, ih]; rfl
theorem ers_len (sc : Bool) (ps : List (Nat × Nat)) (i : Nat) : (ers sc ps i).length = i := by
  induction i with
  | zero => rfl
  | succ i ih => unfold ers; rw [List.length_append, ih]; rfl
def partV (b : Nat) (sc : Bool) (ps : List (Nat × Nat)) : Nat := tsum (tms b sc ps ps.length) (ers sc ps ps.length)
/-- A number is put behind the first list. -/
theorem Two.t1 {w W W1 w' : World} {v0 v1 v' : Value} {T E : List Nat} {x : Nat} (h : Two w W v0 v1 T E) (hx : x < 18446744073709551616) (h1 : Below W.heap.size W W1)
    (hown : w'.ownsRow w.heap.size 61 1 v' (T.length + 1) (reals T ++ [.float .f64 x])) (hg : W1.grownBy w' v0.ownBlock) (hv : v'.ownBlock = v0.ownBlock ∨ (v'.ownBlock = some W1.heap.size ∧ W1.grownBy w' none)) :
    Two w w' v' v1 (T ++ [x]) E where
  t := by rw [List.length_append]; simpa [reals] using hown
  e := (own_below h.e h1).kept hg (by
    cases hV : v1.ownBlock with
    | none => exact .inl rfl
    | some g => exact .inr fun e => h.apart g e.symm hV)
  apart := fun g hg1 hg2 => by
    rcases hv with e | ⟨e, -⟩
    · exact h.apart g (e ▸ hg1) hg2
    · rw [e] at hg1
      have := (h.e.lt g hg2).2
      have := h1.size
      injection hg1 with hg1
      omega
  wt := fun y hy => by
    rcases List.mem_append.1 hy with h2 | h2
    · exact h.wt y h2
    · rw [List.mem_singleton.1 h2]; exact hx
  we := h.we
  bel := (h.bel.trans (h1.mono h.bel.size)).grown hg (Nat.le_trans h.bel.size h1.size) (fun g hg2 => (h.t.lt g hg2).1)
theorem Two.e1 {w W W1 w' : World} {v0 v1 v' : Value} {T E : List Nat} {x : Nat} (h : Two w W v0 v1 T E) (hx : x < 18446744073709551616) (h1 : Below W.heap.size W W1)
    (hown : w'.ownsRow w.heap.size 61 1 v' (E.length + 1) (reals E ++ [.float .f64 x])) (hg : W1.grownBy w' v1.ownBlock) (hv : v'.ownBlock = v1.ownBlock ∨ (v'.ownBlock = some W1.heap.size ∧ W1.grownBy w' none)) :
    Two w w' v0 v' T (E ++ [x]) where
  e := by rw [List.length_append]; simpa [reals] using hown
  t := (own_below h.t h1).kept hg (by
    cases hV : v0.ownBlock with
    | none => exact .inl rfl
    | some g => exact .inr fun e => h.apart g hV e.symm)
  apart := fun g hg1 hg2 => by
    rcases hv with e | ⟨e, -⟩
    · exact h.apart g hg1 (e ▸ hg2)
    · rw [e] at hg2
      have := (h.t.lt g hg1).2
      have := h1.size
      injection hg2 with hg2
      omega
  we := fun y hy => by
    rcases List.mem_append.1 hy with h2 | h2
    · exact h.we y h2
    · rw [List.mem_singleton.1 h2]; exact hx
  wt := h.wt
  bel := (h.bel.trans (h1.mono h.bel.size)).grown hg (Nat.le_trans h.bel.size h1.size) (fun g hg2 => (h.e.lt g hg2).1)
theorem Two.below {w W W' : World} {v0 v1 : Value} {T E : List Nat} (h : Two w W v0 v1 T E) (hb : Below W.heap.size W W') : Two w W' v0 v1 T E :=
  ⟨own_below h.t hb, own_below h.e hb, h.apart, h.wt, h.we, h.bel.trans (hb.mono h.bel.size)⟩
end Go.Proofs.YtandllekeimpgaaGreat
