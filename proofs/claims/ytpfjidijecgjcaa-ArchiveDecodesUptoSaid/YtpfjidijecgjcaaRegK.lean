/- A region that draws its order: the first part of Reg (its laws alone), for seats without the matrix texts. -/
import Derived.Test.YtpfjidijecgjcaaFlA
import Derived.Test.YtpfjidijecgjcaaExt
import Derived.WalkKit
import Derived.Laws.Tables
import Derived.Deep.RegionHeld3
import Derived.StillTail
import Derived.Deep.OwnRows
import Derived.Deep.QuietTactic
import Derived.BigQuiet
namespace Go
section
variable {P : Program} {ops : Array Oper} {Q : Exit → Act → World → Prop} {md : Region.Mode}
/-- Whatever order is picked: until operation 'st' has come up the world meets S. -/
def wpAnyK (P : Program) (md : Region.Mode) (ops : Array Oper) (Q : Exit → Act → World → Prop) (st : Nat) (S : World → Prop) : Nat → Array Bool → Act → World → Prop
  | 0, listed, a, w => Region.ready md ops listed = [] ∧ Q .normal a w
  | f + 1, listed, a, w =>
    (Region.ready md ops listed = [] → Q .normal a w) ∧
    ∀ i ∈ Region.ready md ops listed, wpOp P ops Q i (fun a' w' => if i = st then wpAny P md ops Q f (listed.setIfInBounds i true) a' w' else S w' ∧ wpAnyK P md ops Q st S f (listed.setIfInBounds i true) a' w') a w
theorem wpAny_of_K {st : Nat} {S : World → Prop} : ∀ (f : Nat) (listed : Array Bool) (a : Act) (w : World), wpAnyK P md ops Q st S f listed a w → wpAny P md ops Q f listed a w
  | 0, _, _, _, h => h
  | f + 1, listed, a, w, h => ⟨h.1, fun i hi => wpOp_mono (fun a' w' h' => by
      split at h'
      · exact h'
      · exact wpAny_of_K f _ a' w' h'.2) (h.2 i hi)⟩
theorem wpAnyK_first {st i : Nat} {S : World → Prop} {oi : Oper} {v : Value} (hi : ops[i]? = some oi) (hsel : ∀ (j : Nat) (o : Oper) cs b, ops[j]? = some o → o.op ≠ .select cs b)
    (hQ : ∀ c a w, Q (.panic c) (a.put oi.dst v) w → Q (.panic c) a w) (his : i ≠ st) (hw : Region.waitsFor md ops st i = true) :
    ∀ (f : Nat) (listed : Array Bool) (a : Act) (w : World),
      (∀ j oj, ops[j]? = some oj → j ≠ i → listed.getD j true = false → (∀ e ∈ oj.after, Region.binds md e = true → e.on ≠ i) → oi.apart ops oj = true) →
      i ∈ Region.ready md ops listed → YieldsIf P ops S oi v a → S w →
      wpAnyK P md ops Q st S f (listed.setIfInBounds i true) (a.put oi.dst v) w → wpAnyK P md ops Q st S (f + 1) listed a w := by
  intro f
  induction f with
  | zero =>
    intro listed a w _ hr hy hS H
    refine ⟨fun h => (by rw [h] at hr; cases hr), fun j hj => ?_⟩
    by_cases hji : j = i
    · subst hji
      exact hy.wpOp hi hS (by rw [if_neg his]; exact ⟨hS, H⟩)
    · have := ready_mono hj hji
      rw [H.1] at this
      cases this
  | succ f ih =>
    intro listed a w hfree hr hy hS H
    refine ⟨fun h => (by rw [h] at hr; cases hr), fun j hj => ?_⟩
    by_cases hji : j = i
    · subst hji
      exact hy.wpOp hi hS (by rw [if_neg his]; exact ⟨hS, H⟩)
    · have h1 := H.2 j (ready_mono hj hji)
      obtain ⟨hjun, oj, hoj, hall⟩ := mem_ready.1 hj
      have hnot : ∀ e ∈ oj.after, Region.binds md e = true → e.on ≠ i := fun e he hb heq => by
        have h1 := hall e he hb
        have h0 := (mem_ready.1 hr).1
        rw [heq] at h1
        rcases Nat.lt_or_ge i listed.size with h' | h'
        · simp [h'] at h0 h1; rw [h0] at h1; cases h1
        · simp [Array.getElem?_eq_none h'] at h1
      have hjs : j ≠ st := fun e => by
        subst e
        obtain ⟨o', ho', e, he, hb, hon⟩ := Region.waitsFor_spec hw
        rw [hoj] at ho'
        injection ho' with ho'
        subst ho'
        exact hnot e he hb hon
      have h2 := wpOp_putIf hoj (hfree j oj hoj hji hjun hnot) (fun cs b => hsel i oi cs b hi) (fun cs b => hsel j oj cs b hoj) hQ hy h1
      have hfree' : ∀ k ok, ops[k]? = some ok → k ≠ i → (listed.setIfInBounds j true).getD k true = false →
          (∀ e ∈ ok.after, Region.binds md e = true → e.on ≠ i) → oi.apart ops ok = true := fun k ok hk hki hun hno => by
        refine hfree k ok hk hki ?_ hno
        by_cases hjk : j = k
        · subst hjk; exact hjun
        · rw [getD_set_ne true hjk] at hun; exact hun
      refine wpOp_mono (fun a' w' h3 => ?_) h2
      obtain ⟨hy', h4⟩ := h3
      rw [if_neg hjs] at h4 ⊢
      refine ⟨h4.1, ih (listed.setIfInBounds j true) a' w' hfree' (ready_mono hr (Ne.symm hji)) hy' h4.1 ?_⟩
      rw [Array.setIfInBounds_comm _ _ hji]
      exact h4.2
/-- Take number i first: st waits for it, and it yields in every world that meets S. -/
theorem wpAnyK_take {st i : Nat} {S : World → Prop} {oi : Oper} {v : Value} {f : Nat} {listed : Array Bool} {a : Act} {w : World} (hi : ops[i]? = some oi)
    (hs : Region.noSelect ops = true) (hf : Region.free md ops listed i = true) (hr : (Region.ready md ops listed).contains i = true) (his : (i == st) = false) (hw : Region.waitsFor md ops st i = true)
    (hQ : ∀ c a w, Q (.panic c) (a.put oi.dst v) w → Q (.panic c) a w) (hg : oi.guard = none) (hS : S w) (hy : ∀ w, S w → (execOp a.eval oi).run P w = .ok (.value v) w)
    (h : wpAnyK P md ops Q st S f (listed.setIfInBounds i true) (a.put oi.dst v) w) : wpAnyK P md ops Q st S (f + 1) listed a w :=
  wpAnyK_first hi (Region.noSelect_spec hs) hQ (by simpa using his) hw f listed a w (Region.free_spec hi hf) (by simpa using hr) (Or.inl ⟨by unfold Region.wanted; rw [hg], hy⟩) hS h
/-- What came up had all that it waits for. -/
def Closed (md : Region.Mode) (ops : Array Oper) (listed : Array Bool) : Prop := ∀ j oj, ops[j]? = some oj → listed.getD j false = true → ∀ e ∈ oj.after, Region.binds md e = true → listed.getD e.on false = true
def closedB (md : Region.Mode) (ops : Array Oper) (listed : Array Bool) : Bool :=
  (List.range ops.size).all fun j => !listed.getD j false || (match ops[j]? with | some o => o.after.all fun e => !Region.binds md e || listed.getD e.on false | none => true)
theorem Closed.of {listed : Array Bool} (h : closedB md ops listed = true) : Closed md ops listed := by
  intro j oj hj hl e he hb
  have hlt : j < ops.size := (Array.getElem?_eq_some_iff.1 hj).1
  have h1 := List.all_eq_true.1 h j (List.mem_range.2 hlt)
  rw [hl, hj] at h1
  simp only [Bool.not_true, Bool.false_or] at h1
  have h2 := Array.all_eq_true_iff_forall_mem.1 h1 e he
  rw [hb] at h2
  simpa using h2
theorem Closed.set {listed : Array Bool} {i : Nat} (h : Closed md ops listed) (hi : i ∈ Region.ready md ops listed) : Closed md ops (listed.setIfInBounds i true) := by
  obtain ⟨_, oi, hoi, hall⟩ := mem_ready.1 hi
  intro j oj hj hl e he hb
  by_cases hij : i = j
  · subst hij
    have : oj = oi := Option.some.inj (hj.symm.trans hoi)
    subst this
    exact getD_set_true (hall e he hb)
  · rw [getD_set_ne false hij] at hl
    exact getD_set_true (h j oj hj hl e he hb)
/-- The region's start. -/
theorem wp_region_K {id : Nat} {a : Act} {w : World} (st : Nat) (hm : P.follows .mixedOrders = true)
    (S : World → Prop) (hs : Region.noSelect ops = true) (h : Region.noSelect ops = true → Closed .any ops (Array.replicate ops.size false) → wpAnyK P .any ops Q st S ops.size (Array.replicate ops.size false) a w.drew) : (Code.region id ops true).wp P Q a w :=
  wp_region_any hm (wpAny_of_K _ _ _ _ (h hs (fun j _ _ hl => by rw [getD_replicate_false] at hl; cases hl)))
/-- Does s wait for i, directly or by others? -/
def needs (md : Region.Mode) (ops : Array Oper) : Nat → Nat → Nat → Bool
  | 0, _, _ => false
  | f + 1, s, i => Region.waitsFor md ops s i || (List.range ops.size).any fun m => Region.waitsFor md ops s m && needs md ops f m i
theorem needs_listed {listed : Array Bool} (hc : Closed md ops listed) {i : Nat} : ∀ (f s : Nat), needs md ops f s i = true → (∀ os, ops[s]? = some os → ∀ e ∈ os.after, Region.binds md e = true → listed.getD e.on false = true) → listed.getD i false = true
  | 0, _, h, _ => by cases h
  | f + 1, s, h, hs => by
    unfold needs at h
    rw [Bool.or_eq_true] at h
    rcases h with h | h
    · obtain ⟨o', ho', e, he, hb, hon⟩ := Region.waitsFor_spec h
      have := hs o' ho' e he hb
      rwa [hon] at this
    · obtain ⟨m, _, hm⟩ := List.any_eq_true.1 h
      rw [Bool.and_eq_true] at hm
      obtain ⟨o', ho', e, he, hb, hon⟩ := Region.waitsFor_spec hm.1
      have h1 := hs o' ho' e he hb
      rw [hon] at h1
      exact needs_listed hc f m hm.2 fun os hos e' he' hb' => hc m os hos h1 e' he' hb'
/-- s waits for i by way of these. -/
def pathB (md : Region.Mode) (ops : Array Oper) (i : Nat) : Nat → List Nat → Bool
  | s, [] => Region.waitsFor md ops s i
  | s, m :: r => Region.waitsFor md ops s m && pathB md ops i m r
theorem path_needs {i : Nat} : ∀ (r : List Nat) (s : Nat), pathB md ops i s r = true → needs md ops (r.length + 1) s i = true
  | [], s, h => by unfold needs; rw [show Region.waitsFor md ops s i = true from h]; rfl
  | m :: r, s, h => by
    unfold pathB at h
    rw [Bool.and_eq_true] at h
    have ih := path_needs r m h.2
    have hlt : m < ops.size ∨ ops.size ≤ m := by omega
    rcases hlt with hlt | hge
    · rw [List.length_cons, needs, Bool.or_eq_true]
      exact .inr (List.any_eq_true.2 ⟨m, List.mem_range.2 hlt, by rw [Bool.and_eq_true]; exact ⟨h.1, ih⟩⟩)
    · exfalso
      have hn : ops[m]? = none := Array.getElem?_eq_none hge
      have : ∀ s' f, needs md ops f m s' = false := by
        intro s' f
        induction f with
        | zero => rfl
        | succ f ihf =>
          unfold needs
          have hw : ∀ x, Region.waitsFor md ops m x = false := fun x => by unfold Region.waitsFor; rw [hn]
          rw [hw]
          simp [hw]
      rw [this] at ih; cases ih
theorem wpAnyK_first3 {st i fu : Nat} {S : World → Prop} {oi : Oper} {v : Value} (hi : ops[i]? = some oi) (hsel : ∀ (j : Nat) (o : Oper) cs b, ops[j]? = some o → o.op ≠ .select cs b)
    (hQ : ∀ c a w, Q (.panic c) (a.put oi.dst v) w → Q (.panic c) a w) (his : i ≠ st) (hw : needs md ops fu st i = true) :
    ∀ (f : Nat) (listed : Array Bool) (a : Act) (w : World),
      (∀ j oj, ops[j]? = some oj → j ≠ i → listed.getD j true = false → (∀ e ∈ oj.after, Region.binds md e = true → e.on ≠ i) → oi.apart ops oj = true) →
      Closed md ops listed → i ∈ Region.ready md ops listed → YieldsIf P ops S oi v a → S w →
      wpAnyK P md ops Q st S f (listed.setIfInBounds i true) (a.put oi.dst v) w → wpAnyK P md ops Q st S (f + 1) listed a w := by
  intro f
  induction f with
  | zero =>
    intro listed a w _ _ hr hy hS H
    refine ⟨fun h => (by rw [h] at hr; cases hr), fun j hj => ?_⟩
    by_cases hji : j = i
    · subst hji
      exact hy.wpOp hi hS (by rw [if_neg his]; exact ⟨hS, H⟩)
    · have := ready_mono hj hji
      rw [H.1] at this
      cases this
  | succ f ih =>
    intro listed a w hfree hm hr hy hS H
    refine ⟨fun h => (by rw [h] at hr; cases hr), fun j hj => ?_⟩
    by_cases hji : j = i
    · subst hji
      exact hy.wpOp hi hS (by rw [if_neg his]; exact ⟨hS, H⟩)
    · have h1 := H.2 j (ready_mono hj hji)
      obtain ⟨hjun, oj, hoj, hall⟩ := mem_ready.1 hj
      have hnot : ∀ e ∈ oj.after, Region.binds md e = true → e.on ≠ i := fun e he hb heq => by
        have h1 := hall e he hb
        have h0 := (mem_ready.1 hr).1
        rw [heq] at h1
        rcases Nat.lt_or_ge i listed.size with h' | h'
        · simp [h'] at h0 h1; rw [h0] at h1; cases h1
        · simp [Array.getElem?_eq_none h'] at h1
      have hjs : j ≠ st := fun e => by
        subst e
        have h5 := needs_listed hm fu j hw fun os hos e he hb => by
          have : os = oj := Option.some.inj (hos.symm.trans hoj)
          subst this
          exact hall e he hb
        have h0 := getD_both (mem_ready.1 hr).1
        rw [h5] at h0
        cases h0
      have h2 := wpOp_putIf hoj (hfree j oj hoj hji hjun hnot) (fun cs b => hsel i oi cs b hi) (fun cs b => hsel j oj cs b hoj) hQ hy h1
      have hfree' : ∀ k ok, ops[k]? = some ok → k ≠ i → (listed.setIfInBounds j true).getD k true = false →
          (∀ e ∈ ok.after, Region.binds md e = true → e.on ≠ i) → oi.apart ops ok = true := fun k ok hk hki hun hno => by
        refine hfree k ok hk hki ?_ hno
        by_cases hjk : j = k
        · subst hjk; exact hjun
        · rw [getD_set_ne true hjk] at hun; exact hun
      refine wpOp_mono (fun a' w' h3 => ?_) h2
      obtain ⟨hy', h4⟩ := h3
      rw [if_neg hjs] at h4 ⊢
      refine ⟨h4.1, ih (listed.setIfInBounds j true) a' w' hfree' (hm.set hj) (ready_mono hr (Ne.symm hji)) hy' h4.1 ?_⟩
      rw [Array.setIfInBounds_comm _ _ hji]
      exact h4.2
/-- Take number i first: st waits for it, directly or by others. -/
theorem wpAnyK_takeNeed {st i : Nat} (path : List Nat) {S : World → Prop} {oi : Oper} {v : Value} {f : Nat} {listed : Array Bool} {a : Act} {w : World} (hi : ops[i]? = some oi)
    (hs : Region.noSelect ops = true) (hc : Closed md ops listed) (hf : Region.free md ops listed i = true) (hr : (Region.ready md ops listed).contains i = true) (his : (i == st) = false) (hw : pathB md ops i st path = true)
    (hQ : ∀ c a w, Q (.panic c) (a.put oi.dst v) w → Q (.panic c) a w) (hg : oi.guard = none) (hS : S w) (hy : ∀ w, S w → (execOp a.eval oi).run P w = .ok (.value v) w)
    (h : Closed md ops (listed.setIfInBounds i true) → wpAnyK P md ops Q st S f (listed.setIfInBounds i true) (a.put oi.dst v) w) : wpAnyK P md ops Q st S (f + 1) listed a w :=
  wpAnyK_first3 hi (Region.noSelect_spec hs) hQ (by simpa using his) (path_needs path st hw) f listed a w (Region.free_spec hi hf) hc (by simpa using hr) (Or.inl ⟨by unfold Region.wanted; rw [hg], hy⟩) hS (h (hc.set (by simpa using hr)))
theorem wpAnyK_free {st i : Nat} {S : World → Prop} {oi : Oper} {v : Value} (hi : ops[i]? = some oi) (hsel : ∀ (j : Nat) (o : Oper) cs b, ops[j]? = some o → o.op ≠ .select cs b)
    (hQ : ∀ c a w, Q (.panic c) (a.put oi.dst v) w → Q (.panic c) a w) (his : i ≠ st) :
    ∀ (f : Nat) (listed : Array Bool) (a : Act) (w : World),
      (∀ j oj, ops[j]? = some oj → j ≠ i → listed.getD j true = false → (∀ e ∈ oj.after, Region.binds md e = true → e.on ≠ i) → oi.apart ops oj = true) →
      i ∈ Region.ready md ops listed → Yields P ops oi v a → S w →
      wpAnyK P md ops Q st S f (listed.setIfInBounds i true) (a.put oi.dst v) w → wpAnyK P md ops Q st S (f + 1) listed a w := by
  intro f
  induction f with
  | zero =>
    intro listed a w _ hr hy hS H
    refine ⟨fun h => (by rw [h] at hr; cases hr), fun j hj => ?_⟩
    by_cases hji : j = i
    · subst hji
      exact hy.wpOp hi (by rw [if_neg his]; exact ⟨hS, H⟩)
    · have := ready_mono hj hji
      rw [H.1] at this
      cases this
  | succ f ih =>
    intro listed a w hfree hr hy hS H
    refine ⟨fun h => (by rw [h] at hr; cases hr), fun j hj => ?_⟩
    by_cases hji : j = i
    · subst hji
      exact hy.wpOp hi (by rw [if_neg his]; exact ⟨hS, H⟩)
    · have h1 := H.2 j (ready_mono hj hji)
      obtain ⟨hjun, oj, hoj, hall⟩ := mem_ready.1 hj
      have hnot : ∀ e ∈ oj.after, Region.binds md e = true → e.on ≠ i := fun e he hb heq => by
        have h1 := hall e he hb
        have h0 := (mem_ready.1 hr).1
        rw [heq] at h1
        rcases Nat.lt_or_ge i listed.size with h' | h'
        · simp [h'] at h0 h1; rw [h0] at h1; cases h1
        · simp [Array.getElem?_eq_none h'] at h1
      have h2 := wpOp_put hoj (hfree j oj hoj hji hjun hnot) (fun cs b => hsel i oi cs b hi) (fun cs b => hsel j oj cs b hoj) hQ hy h1
      have hfree' : ∀ k ok, ops[k]? = some ok → k ≠ i → (listed.setIfInBounds j true).getD k true = false →
          (∀ e ∈ ok.after, Region.binds md e = true → e.on ≠ i) → oi.apart ops ok = true := fun k ok hk hki hun hno => by
        refine hfree k ok hk hki ?_ hno
        by_cases hjk : j = k
        · subst hjk; exact hjun
        · rw [getD_set_ne true hjk] at hun; exact hun
      refine wpOp_mono (fun a' w' h3 => ?_) h2
      obtain ⟨hy', h4⟩ := h3
      rw [Array.setIfInBounds_comm _ _ (Ne.symm hji)] at h4
      by_cases hjs : j = st
      · rw [if_pos hjs] at h4 ⊢
        exact wpAny_first hi hsel hQ f (listed.setIfInBounds j true) a' w' hfree' (ready_mono hr (Ne.symm hji)) hy' h4
      · rw [if_neg hjs] at h4 ⊢
        exact ⟨h4.1, ih (listed.setIfInBounds j true) a' w' hfree' (ready_mono hr (Ne.symm hji)) hy' h4.1 h4.2⟩
/-- Take number i first: it yields in whatever world. -/
theorem wpAnyK_takeFree {st i : Nat} {S : World → Prop} {oi : Oper} {v : Value} {f : Nat} {listed : Array Bool} {a : Act} {w : World} (hi : ops[i]? = some oi)
    (hs : Region.noSelect ops = true) (hc : Closed md ops listed) (hf : Region.free md ops listed i = true) (hr : (Region.ready md ops listed).contains i = true) (his : (i == st) = false)
    (hQ : ∀ c a w, Q (.panic c) (a.put oi.dst v) w → Q (.panic c) a w) (hg : oi.guard = none) (hS : S w) (hy : ∀ w, (execOp a.eval oi).run P w = .ok (.value v) w)
    (h : Closed md ops (listed.setIfInBounds i true) → wpAnyK P md ops Q st S f (listed.setIfInBounds i true) (a.put oi.dst v) w) : wpAnyK P md ops Q st S (f + 1) listed a w :=
  wpAnyK_free hi (Region.noSelect_spec hs) hQ (by simpa using his) f listed a w (Region.free_spec hi hf) (by simpa using hr) (Or.inl ⟨by unfold Region.wanted; rw [hg], hy⟩) hS (h (hc.set (by simpa using hr)))
theorem wpAny_one {i : Nat} {o : Oper} {f : Nat} {listed : Array Bool} {a : Act} {w : World} (hi : ops[i]? = some o) (hr : Region.ready md ops listed = [i]) (hg : o.guard = none)
    (h : o.wp P a w (wpAny P md ops Q f (listed.setIfInBounds i true)) Q) : wpAny P md ops Q (f + 1) listed a w := by
  refine ⟨fun h0 => (by rw [hr] at h0; cases h0), fun j hj => ?_⟩
  rw [hr] at hj
  have : j = i := by simpa using hj
  subst this
  unfold wpOp
  simp only [hi]
  rw [if_pos (by unfold Region.wanted; rw [hg])]
  exact .inl h
/-- The store comes up. -/
theorem wpAnyK_store {st : Nat} {S : World → Prop} {o : Oper} {f : Nat} {listed : Array Bool} {a : Act} {w : World} (hi : ops[st]? = some o) (hr : Region.ready md ops listed = [st]) (hg : o.guard = none)
    (h : o.wp P a w (wpAny P md ops Q f (listed.setIfInBounds st true)) Q) : wpAnyK P md ops Q st S (f + 1) listed a w := by
  refine ⟨fun h0 => (by rw [hr] at h0; cases h0), fun j hj => ?_⟩
  rw [hr] at hj
  have : j = st := by simpa using hj
  subst this
  simp only [if_true]
  unfold wpOp
  simp only [hi]
  rw [if_pos (by unfold Region.wanted; rw [hg])]
  exact .inl h
/-- One operation alone may come up: a call. -/
theorem wpAnyK_one {st i : Nat} {S : World → Prop} {o : Oper} {f : Nat} {listed : Array Bool} {a : Act} {w : World} (hi : ops[i]? = some o) (hr : Region.ready md ops listed = [i]) (hg : o.guard = none) (his : (i == st) = false)
    (h : o.wp P a w (fun a' w' => S w' ∧ wpAnyK P md ops Q st S f (listed.setIfInBounds i true) a' w') Q) : wpAnyK P md ops Q st S (f + 1) listed a w := by
  refine ⟨fun h0 => (by rw [hr] at h0; cases h0), fun j hj => ?_⟩
  rw [hr] at hj
  have : j = i := by simpa using hj
  subst this
  have hne : j ≠ st := by simpa using his
  simp only [if_neg hne]
  unfold wpOp
  simp only [hi]
  rw [if_pos (by unfold Region.wanted; rw [hg])]
  exact .inl h
/-- The last operation stores a whole array: all at once, so that nothing looks into the frame. -/
theorem wpAnyK_storeRowEnd {st : Nat} {S : World → Prop} {o : Oper} {f : Nat} {listed : Array Bool} {a : Act} {w : World} (ty : TypeId) (x y : Operand) (hi : ops[st]? = some o) (hr : Region.ready md ops listed = [st]) (hg : o.guard = none)
    (ho : o.op = .store ty x y) (hd : o.dst = none) (g : Nat) (cells : Array Value) (hx : a.eval x = .pointer (some ⟨g, 0, none⟩)) (hy : a.eval y = .agg cells)
    (t : TypeId) (old : Array Value) (hrow : w.heap[g]? = some (.cells old t (0, 0))) (hin : (P.info? ty).map (·.size) = some cells.size) (hold : old.size = cells.size) (h1 : cells.all (·.oneCell') = true)
    (hend : Region.ready md ops (listed.setIfInBounds st true) = []) (h : Q .normal a (w.setRow g cells)) : wpAnyK P md ops Q st S (f + 1) listed a w :=
  wpAnyK_store hi hr hg (wp_store_row ty x y ho g cells hx hy t old hrow hin hold h1 (by rw [hd]; exact wpAny_done hend h _))
end
end Go
