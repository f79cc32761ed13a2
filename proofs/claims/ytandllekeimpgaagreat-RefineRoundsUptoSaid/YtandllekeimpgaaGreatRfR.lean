/- Layer 11: the document's answer to what is left over: the good case. -/
import Derived.Test.YtandllekeimpgaaGreatRfQ
import Derived.Test.YtandllekeimpgaaGreatRf3
import Derived.Test.YtandllekeimpgaaGreatRM1
import Derived.Deep.DeepCutAuto
import Derived.Deep.RegionHeld3
import Derived.Maps.AppendAt
namespace Go.Proofs.YtandllekeimpgaaGreat
open Go.RowKit Fl Ieee
set_option maxRecDepth 20000
attribute [local go_sem] run_store_float run_store_complex Fl.order_self Fl.order_self' Fl.order_eq Fl.order_ne Fl.order_lt Fl.order_gt
/-- The cells of a list of pairs. -/
def cells2 : List (Nat × Nat) → List Value
  | [] => []
  | p :: l => .float .f64 p.1 :: .float .f64 p.2 :: cells2 l
theorem cells2_len (ps : List (Nat × Nat)) : (cells2 ps).length = ps.length * 2 := by
  induction ps with
  | nil => rfl
  | cons p l ih => show (cells2 l).length + 1 + 1 = (l.length + 1) * 2; omega
theorem cells2_app (ps qs : List (Nat × Nat)) : cells2 (ps ++ qs) = cells2 ps ++ cells2 qs := by
  induction ps with
  | nil => rfl
  | cons p l ih => show _ :: _ :: cells2 (l ++ qs) = _ ; rw [ih]; rfl
theorem cells2_at : ∀ {ps : List (Nat × Nat)} {i : Nat} {p : Nat × Nat}, ps[i]? = some p → (cells2 ps)[i * 2]? = some (.float .f64 p.1) ∧ (cells2 ps)[i * 2 + 1]? = some (.float .f64 p.2)
  | [], i, p, h => by simp at h
  | q :: l, 0, p, h => by
    have e : q = p := by simpa using h
    subst e; exact ⟨rfl, rfl⟩
  | q :: l, i + 1, p, h => by
    have h1 : l[i]? = some p := by simpa using h
    obtain ⟨h2, h3⟩ := cells2_at h1
    have e : (i + 1) * 2 = i * 2 + 1 + 1 := by omega
    rw [e]
    exact ⟨h2, h3⟩
theorem cells2_one : ∀ {ps : List (Nat × Nat)}, ∀ u ∈ cells2 ps, u.oneCell' = true
  | [], u, h => by cases h
  | p :: l, u, h => by
    rcases List.mem_cons.1 h with h | h
    · subst h; rfl
    rcases List.mem_cons.1 h with h | h
    · subst h; rfl
    · exact cells2_one u h
theorem own_pairs {W : World} {B : Nat} {t : TypeId} {v : Value} {ps : List (Nat × Nat)} (h : W.ownsRow B t 2 v ps.length (cells2 ps)) : PairsAt W v ps := by
  rcases h.2 with ⟨e, h0⟩ | ⟨g, cap, cur, e, hbg, hg, hnc, hcm, hcs, htake⟩
  · refine ⟨⟨none, 0, by rw [e, h0]⟩, fun i p hi => ?_⟩
    have := List.eq_nil_of_length_eq_zero h0
    subst this
    simp at hi
  · refine ⟨⟨_, cap, e⟩, fun i p hi => ⟨g, cap, e, ?_, ?_⟩⟩
    · rcases Nat.lt_or_ge g W.heap.size with h1 | h1
      · exact h1
      · rw [Array.getElem?_eq_none h1] at hg; cases hg
    · obtain ⟨h1, h2⟩ := cells2_at hi
      have hc := h.cells (g := g) (by rw [e]; rfl)
      have hz : ∀ j, (⟨g, 0, none⟩ : Addr).add j = ⟨g, j, none⟩ := fun j => by unfold Addr.add; split <;> simp_all
      exact ⟨(hz _) ▸ hc _ _ h1, (hz _) ▸ hc _ _ h2⟩
/-- Two lists of pairs that grow. -/
structure Prs (B : Nat) (w W : World) (ty : TypeId) (v0 v1 : Value) (T E : List (Nat × Nat)) : Prop where
  t : W.ownsRow B ty 2 v0 T.length (cells2 T)
  e : W.ownsRow B ty 2 v1 E.length (cells2 E)
  apart : ∀ g, v0.ownBlock = some g → v1.ownBlock ≠ some g
  bel : Below B w W
  sz : B ≤ W.heap.size
theorem Prs.t1 {B : Nat} {w W W1 w' : World} {t : TypeId} {v0 v1 v' : Value} {T E : List (Nat × Nat)} {l : List (Nat × Nat)} {n : Nat} (h : Prs B w W t v0 v1 T E) (h1 : Below W.heap.size W W1) (hn : n = T.length + l.length)
    (hown : w'.ownsRow B t 2 v' n (cells2 T ++ cells2 l)) (hg : W1.grownBy w' v0.ownBlock) (hv : v'.ownBlock = v0.ownBlock ∨ v'.ownBlock = some W1.heap.size) :
    Prs B w w' t v' v1 (T ++ l) E where
  t := by rw [List.length_append, cells2_app, ← hn]; exact hown
  e := (own_below h.e h1).kept hg (by
    cases hV : v1.ownBlock with
    | none => exact .inl rfl
    | some g => exact .inr fun e => h.apart g e.symm hV)
  apart := fun g hg1 hg2 => by
    rcases hv with e | e
    · exact h.apart g (e ▸ hg1) hg2
    · rw [e] at hg1
      have := (h.e.lt g hg2).2
      have := h1.size
      injection hg1 with hg1
      omega
  bel := (h.bel.trans (h1.mono h.sz)).grown hg (Nat.le_trans h.sz h1.size) (fun g hg2 => (h.t.lt g hg2).1)
  sz := Nat.le_trans (Nat.le_trans h.sz h1.size) hg.size
theorem Prs.e1 {B : Nat} {w W W1 w' : World} {t : TypeId} {v0 v1 v' : Value} {T E : List (Nat × Nat)} {l : List (Nat × Nat)} {n : Nat} (h : Prs B w W t v0 v1 T E) (h1 : Below W.heap.size W W1) (hn : n = E.length + l.length)
    (hown : w'.ownsRow B t 2 v' n (cells2 E ++ cells2 l)) (hg : W1.grownBy w' v1.ownBlock) (hv : v'.ownBlock = v1.ownBlock ∨ v'.ownBlock = some W1.heap.size) :
    Prs B w w' t v0 v' T (E ++ l) where
  e := by rw [List.length_append, cells2_app, ← hn]; exact hown
  t := (own_below h.t h1).kept hg (by
    cases hV : v0.ownBlock with
    | none => exact .inl rfl
    | some g => exact .inr fun e => h.apart g hV e.symm)
  apart := fun g hg1 hg2 => by
    rcases hv with e | e
    · exact h.apart g hg1 (e ▸ hg2)
    · rw [e] at hg2
      have := (h.t.lt g hg1).2
      have := h1.size
      injection hg2 with hg2
      omega
  bel := (h.bel.trans (h1.mono h.sz)).grown hg (Nat.le_trans h.sz h1.size) (fun g hg2 => (h.e.lt g hg2).1)
  sz := Nat.le_trans (Nat.le_trans h.sz h1.size) hg.size
theorem Prs.below {B : Nat} {w W W1 : World} {t : TypeId} {v0 v1 : Value} {T E : List (Nat × Nat)} (h : Prs B w W t v0 v1 T E) (h1 : Below W.heap.size W W1) : Prs B w W1 t v0 v1 T E :=
  ⟨own_below h.t h1, own_below h.e h1, h.apart, h.bel.trans (h1.mono h.sz), Nat.le_trans h.sz h1.size⟩
/-- The pairs of a row: of the real part, of the imaginary one. -/
def preL (R X : Nat → C) : Nat → List (Nat × Nat)
  | 0 => []
  | k + 1 => preL R X k ++ [((R k).1, (X k).1), ((R k).2, (X k).2)]
def pimL (R X : Nat → C) : Nat → List (Nat × Nat)
  | 0 => []
  | k + 1 => pimL R X k ++ [((R k).1, (X k).2), ((R k).2, (X k).1)]
theorem preL_len (R X : Nat → C) : ∀ k, (preL R X k).length = 2 * k
  | 0 => rfl
  | k + 1 => by show (preL R X k ++ [_, _]).length = _; rw [List.length_append, preL_len R X k]; rfl
theorem pimL_len (R X : Nat → C) : ∀ k, (pimL R X k).length = 2 * k
  | 0 => rfl
  | k + 1 => by show (pimL R X k ++ [_, _]).length = _; rw [List.length_append, pimL_len R X k]; rfl
theorem tms_app (b : Nat) (sc : Bool) (ps qs : List (Nat × Nat)) : ∀ i, i ≤ ps.length → tms b sc (ps ++ qs) i = tms b sc ps i
  | 0, _ => rfl
  | i + 1, h => by
    unfold tms
    rw [tms_app b sc ps qs i (by omega)]
    have e : (ps ++ qs).getD i (0, 0) = ps.getD i (0, 0) := by rw [List.getD_eq_getElem?_getD, List.getD_eq_getElem?_getD, List.getElem?_append_left (by omega)]
    rw [e]
theorem ers_app (sc : Bool) (ps qs : List (Nat × Nat)) : ∀ i, i ≤ ps.length → ers sc (ps ++ qs) i = ers sc ps i
  | 0, _ => rfl
  | i + 1, h => by
    unfold ers
    rw [ers_app sc ps qs i (by omega)]
    have e : (ps ++ qs).getD i (0, 0) = ps.getD i (0, 0) := by rw [List.getD_eq_getElem?_getD, List.getD_eq_getElem?_getD, List.getElem?_append_left (by omega)]
    rw [e]
theorem two_step0 (b : Nat) (sc : Bool) (ps : List (Nat × Nat)) (p q : Nat × Nat) (k : Nat) (h : ps.length = k) (hk : k % 2 = 0) :
    tms b sc (ps ++ [p, q]) (k + 1 + 1) = tms b sc ps k ++ [tmP true p.1 p.2, tmP (!sc) q.1 q.2] ∧ ers sc (ps ++ [p, q]) (k + 1 + 1) = ers sc ps k ++ [tmE true p.1 p.2, tmE (!sc) q.1 q.2] := by
  have e1 : (ps ++ [p, q]).getD k (0, 0) = p := by rw [List.getD_eq_getElem?_getD, List.getElem?_append_right (by omega), h, Nat.sub_self]; rfl
  have e2 : (ps ++ [p, q]).getD (k + 1) (0, 0) = q := by rw [List.getD_eq_getElem?_getD, List.getElem?_append_right (by omega), h, show k + 1 - k = 1 by omega]; rfl
  have m1 : (k % 2 == 0) = true := by rw [hk]; rfl
  have m2 : ((k + 1) % 2 == 0) = false := by rw [show (k + 1) % 2 = 1 by omega]; rfl
  constructor
  · show (tms b sc (ps ++ [p, q]) k ++ [_]) ++ [_] = _
    rw [tms_app b sc ps _ _ (by omega), e1, e2, m1, m2, Bool.or_true, Bool.or_false, List.append_assoc]; rfl
  · show (ers sc (ps ++ [p, q]) k ++ [_]) ++ [_] = _
    rw [ers_app sc ps _ _ (by omega), e1, e2, m1, m2, Bool.or_true, Bool.or_false, List.append_assoc]; rfl
theorem two_step (b : Nat) (sc : Bool) (ps : List (Nat × Nat)) (p q : Nat × Nat) (k : Nat) (h : ps.length = 2 * k) :
    tms b sc (ps ++ [p, q]) (2 * (k + 1)) = tms b sc ps (2 * k) ++ [tmP true p.1 p.2, tmP (!sc) q.1 q.2] ∧ ers sc (ps ++ [p, q]) (2 * (k + 1)) = ers sc ps (2 * k) ++ [tmE true p.1 p.2, tmE (!sc) q.1 q.2] := by
  have e : 2 * (k + 1) = 2 * k + 1 + 1 := by omega
  rw [e]
  exact two_step0 b sc ps p q (2 * k) h (by omega)
theorem pre_col (R X : Nat → C) (r : C) (hr : cn .f64 r.1 = r.1) : ∀ k, tms r.1 true (preL R X k) (2 * k) = colT R X r k 0 ∧ ers true (preL R X k) (2 * k) = colT R X r k 1
  | 0 => ⟨by show [cn .f64 r.1] = [r.1]; rw [hr], rfl⟩
  | k + 1 => by
    obtain ⟨h1, h2⟩ := pre_col R X r hr k
    obtain ⟨h3, h4⟩ := two_step r.1 true (preL R X k) ((R k).1, (X k).1) ((R k).2, (X k).2) k (preL_len R X k)
    exact ⟨by rw [show preL R X (k + 1) = preL R X k ++ [((R k).1, (X k).1), ((R k).2, (X k).2)] from rfl, h3, h1]; rfl, by rw [show preL R X (k + 1) = preL R X k ++ [((R k).1, (X k).1), ((R k).2, (X k).2)] from rfl, h4, h2]; rfl⟩
theorem pim_col (R X : Nat → C) (r : C) (hr : cn .f64 r.2 = r.2) : ∀ k, tms r.2 false (pimL R X k) (2 * k) = colT R X r k 2 ∧ ers false (pimL R X k) (2 * k) = colT R X r k 3
  | 0 => ⟨by show [cn .f64 r.2] = [r.2]; rw [hr], rfl⟩
  | k + 1 => by
    obtain ⟨h1, h2⟩ := pim_col R X r hr k
    obtain ⟨h3, h4⟩ := two_step r.2 false (pimL R X k) ((R k).1, (X k).2) ((R k).2, (X k).1) k (pimL_len R X k)
    exact ⟨by rw [show pimL R X (k + 1) = pimL R X k ++ [((R k).1, (X k).2), ((R k).2, (X k).1)] from rfl, h3, h1]; rfl, by rw [show pimL R X (k + 1) = pimL R X k ++ [((R k).1, (X k).2), ((R k).2, (X k).1)] from rfl, h4, h2]; rfl⟩
/-- What the document reckons is what the program does. -/
theorem part_left (R X : Nat → C) (r : C) (n : Nat) (h1 : cn .f64 r.1 = r.1) (h2 : cn .f64 r.2 = r.2) : (partV r.1 true (preL R X n), partV r.2 false (pimL R X n)) = leftAt R X r n := by
  unfold partV leftAt
  rw [preL_len, pimL_len, (pre_col R X r h1 n).1, (pre_col R X r h1 n).2, (pim_col R X r h2 n).1, (pim_col R X r h2 n).2]
theorem pre_mem {R X : Nat → C} {Pd : Nat → Prop} : ∀ n, (∀ k, k < n → (Pd (R k).1 ∧ Pd (R k).2) ∧ Pd (X k).1 ∧ Pd (X k).2) → (∀ p ∈ preL R X n, Pd p.1 ∧ Pd p.2) ∧ (∀ p ∈ pimL R X n, Pd p.1 ∧ Pd p.2)
  | 0, _ => ⟨fun p h => (by cases h), fun p h => (by cases h)⟩
  | k + 1, h => by
    obtain ⟨h1, h2⟩ := pre_mem k (fun j hj => h j (by omega))
    obtain ⟨⟨a1, a2⟩, a3, a4⟩ := h k (by omega)
    constructor
    · intro p hp
      rcases List.mem_append.1 hp with hp | hp
      · exact h1 p hp
      · simp only [List.mem_cons, List.not_mem_nil, or_false] at hp
        rcases hp with rfl | rfl
        · exact ⟨a1, a3⟩
        · exact ⟨a2, a4⟩
    · intro p hp
      rcases List.mem_append.1 hp with hp | hp
      · exact h2 p hp
      · simp only [List.mem_cons, List.not_mem_nil, or_false] at hp
        rcases hp with rfl | rfl
        · exact ⟨a1, a4⟩
        · exact ⟨a2, a3⟩
theorem wp_append_held {P : Program} {w : World} {o : Oper} {a : Act} {bb : Bool} {K K2 : Act → World → Prop} {w2 : World} {a2 : Act} {Q : Exit → Act → World → Prop} (hgd : bb = true) (s x : Operand) (t : TypeId)
    (ho : o.op = .call { callee := .builtin .append, args := #[s, x], argTypes := #[t, t] })
    (base : Nat) (e : TypeId) (i : TypeInfo) (z : Value) (size bytes : Nat) (ht : P.underlying t = some (.slice e)) (hi : P.info? e = some i) (hz : i.zero = some z)
    (hsize : i.size = size) (hby : i.bytes = bytes) (hzs : z.cells.size = size) (hsz : 0 < size)
    (v : Value) (n : Nat) (xs : List Value) (hs : a.eval s = v) (hown : w.ownsRow base e size v n xs)
    (ad : Addr) (m c : Nat) (news : List Value) (hx : a.eval x = .slice (some ad) m c) (hl : news.length = m * size) (hnews : ∀ j u, news[j]? = some u → w.cell? (ad.add j) = some u) (h1 : ∀ u ∈ news, u.oneCell' = true)
    (h63 : n + m ≤ maxLen) (hbytes : (n + m) * bytes ≤ 140737488355328) (hbase : base ≤ w.heap.size)
    (h : ∀ v' w', w'.ownsRow base e size v' (n + m) (xs ++ news) → w.grownBy w' v.ownBlock → (v'.ownBlock = v.ownBlock ∨ v'.ownBlock = some w.heap.size) → K (a.put o.dst v') w') :
    if bb = true then Oper.wp P o a w K Q else K2 a2 w2 := by
  rw [if_pos hgd]
  obtain ⟨v', w', hr, h2, h3, h4, h5⟩ := run_append_own_at (P := P) w base t o.type e i z size bytes ht hi hz hsize hby hzs hsz v n xs hown ad m c news hl hnews h1 h63 hbytes hbase
  unfold Oper.wp execOp
  simp only [ho, resolve, invoke, builtin, Sem.run_bind, Sem.run_pure, Result.andThen_ok, List.map_toArray, List.map_cons, List.map_nil, hs, hx, hr]
  exact h _ _ h2 h3 h5
theorem info_pair : (Tryz.prog.info? 110).map (fun i => (i.zero, i.size, i.bytes)) = some (some (.agg #[.float .f64 0, .float .f64 0]), 2, 16) := by kernel_rfl
theorem four_new (w : World) (x0 x1 x2 x3 : Value) (t : TypeId) : ∀ j u, [x0, x1, x2, x3][j]? = some u → (w.alloc (.cells #[x0, x1, x2, x3] t)).drew.cell? ((⟨w.heap.size, 0, none⟩ : Addr).add j) = some u := by
  intro j u hj
  have hc : ∀ i v, #[x0, x1, x2, x3][i]? = some v → (w.alloc (.cells #[x0, x1, x2, x3] t)).cell? ⟨w.heap.size, i, none⟩ = some v := fun i v hv => by
    simp only [World.cell?, heap_alloc_new]; exact hv
  have hz : (⟨w.heap.size, 0, none⟩ : Addr).add j = ⟨w.heap.size, j, none⟩ := by unfold Addr.add; split <;> simp_all
  rw [hz]
  exact hc j u (by simpa using hj)
set_option maxHeartbeats 6400000 in
theorem RLeft_good (r c : Nat) (A Ax Ab : Option Addr) (m x b : List C) (cap cx cb : Nat) (w : World) (hr : r ≤ 64) (hc : c ≤ 64) (hm : m.length = r * c) (hx : x.length = c) (hb : b.length = r) (hcap : m.length ≤ cap) (hcx : x.length ≤ cx) (hcb : b.length ≤ cb)
    (fm : ∀ z ∈ m, pFinite z = true) (fx : ∀ z ∈ x, pFinite z = true) (fb : ∀ z ∈ b, pFinite z = true) (lm : ltCs m) (lx : ltCs x) (lb : ltCs b) (rm : Reads w w.heap.size A (nums m)) (rx : Reads w w.heap.size Ax (nums x)) (rb : Reads w w.heap.size Ab (nums b)) :
    Calls Tryz.prog 34 #[mval r c (.slice A m.length cap), .slice Ax x.length cx, .slice Ab b.length cb] w (RetLf (if (leftL r c m x b).all pFinite then leftL r c m x b else []) (if (leftL r c m x b).all pFinite then 0 else 6) w) := by
  obtain ⟨i0, hi0, hz0, hz1, hz2⟩ := info_parts infoReal
  obtain ⟨j0, hj0, hy0, hy1, hy2⟩ := info_parts infoNum
  obtain ⟨W0, hW0⟩ : ∃ W0, W0 = w.alloc (.cells #[.int .i64 (r : Nat), .int .i64 (c : Nat), .slice A m.length cap] 27) := ⟨_, rfl⟩
  obtain ⟨p0, hp0, hp1, hp2, hp3⟩ := info_parts info_pair
  have HI := Lib.hid (show LfI w W0 r c A Ax Ab m x b cap from by
    have hb0 : Below w.heap.size w W0 := by rw [hW0]; exact below_new _ _
    exact ⟨by rw [hW0]; exact heap_alloc_new _ _, hb0, by rw [hW0]; simp, (rm.below hb0).more hb0.size, (rx.below hb0).more hb0.size, (rb.below hb0).more hb0.size⟩)
  have HW := Lib.hid hW0
  obtain ⟨M, hM⟩ : ∃ M, M = m.length := ⟨_, rfl⟩
  have hok : okM r c M = true := okM_iff.2 ⟨by omega, by omega, by omega, by omega, by rw [hM, hm]; simp⟩
  have HCk := Lib.hid (rCheck_c r c A M cap)
  rw [hok, if_pos rfl] at HCk
  have HFm := Lib.hid (rfinite11_c A m cap · lm (by have := Nat.mul_le_mul hr hc; omega))
  have HFx := Lib.hid (rfinite11_c Ax x cx · lx (by omega))
  have HFb := Lib.hid (rfinite11_c Ab b cb · lb (by omega))
  rw [List.all_eq_true.2 fm, ← hM] at HFm
  rw [List.all_eq_true.2 fx] at HFx
  rw [List.all_eq_true.2 fb] at HFb
  have HFin := Lib.hid (And.intro fm (And.intro fx fb))
  have HLt := Lib.hid (And.intro lm (And.intro lx lb))
  have HMc := Lib.hid (show M = r * c ∧ M ≤ cap from ⟨by rw [hM, hm], by rw [hM]; exact hcap⟩)
  have HMm := Lib.hid hM
  rw [← hM] at HW ⊢
  rw [hx] at HFx hcx ⊢
  rw [hb] at HFb hcb ⊢
  have HXl := Lib.hid hx
  have HBl := Lib.hid hb
  obtain ⟨LL, hLL⟩ : ∃ LL, LL = leftL r c m x b := ⟨_, rfl⟩
  rw [← hLL]
  have HLL := Lib.hid hLL
  obtain ⟨okL, hokL⟩ : ∃ okL, okL = LL.all pFinite := ⟨_, rfl⟩
  rw [← hokL]
  obtain ⟨RL, hRL⟩ : ∃ RL, RL = if okL then LL else [] := ⟨_, rfl⟩
  obtain ⟨RE, hRE⟩ : ∃ RE : Int, RE = if okL then 0 else 6 := ⟨_, rfl⟩
  rw [show (if okL = true then LL else []) = RL from hRL.symm, show (if okL = true then (0 : Int) else 6) = RE from hRE.symm]
  have HRes := Lib.hid (And.intro hokL (And.intro hRL hRE))
  clear hokL hRL hRE
  clear hW0 hM hm hx hb fm fx fb lm lx lb rm rx rb hok hLL hcap
  go_enter Tryz.func34, Tryz.ntmps34
  go_upto_region 1 with fail
  rw [← HW.out]
  clear HW
  obtain ⟨c0, c1, c2⟩ := HI.out.cells (Below.refl _ _)
  rw [← HMm.out] at c2
  go_wp2_with fail
  refine (HCk.out _).mono ?_
  rintro e W1 ⟨rfl, hb1⟩
  obtain ⟨c0, c1, c2⟩ := HI.out.cells hb1
  rw [← HMm.out] at c2
  have HB1 := Lib.hid hb1
  clear hb1 HCk
  go_wp2_with fail
  refine (HFm.out _ ((HI.out.rm.below HB1.out).more HB1.out.size)).mono ?_
  rintro e W2' ⟨n, rfl, W2e⟩
  obtain ⟨W2, hW2⟩ : ∃ V, V = W2' := ⟨_, rfl⟩
  have HB2 := Lib.hid (show Below W0.heap.size W0 W2 by rw [hW2, W2e]; exact below_drewN HB1.out n)
  rw [← hW2]
  clear W2e hW2 HFm
  go_wp2_with fail
  refine (HFx.out _ ((HI.out.rx.below HB2.out).more HB2.out.size)).mono ?_
  rintro e W3' ⟨n, rfl, W3e⟩
  obtain ⟨W3, hW3⟩ : ∃ V, V = W3' := ⟨_, rfl⟩
  have HB3 := Lib.hid (show Below W0.heap.size W0 W3 by rw [hW3, W3e]; exact below_drewN HB2.out n)
  rw [← hW3]
  clear W3e hW3 HFx
  go_wp2_with fail
  refine (HFb.out _ ((HI.out.rb.below HB3.out).more HB3.out.size)).mono ?_
  rintro e W4' ⟨n, rfl, W4e⟩
  obtain ⟨W4, hW4⟩ : ∃ V, V = W4' := ⟨_, rfl⟩
  have HB4 := Lib.hid (show Below W0.heap.size W0 W4 by rw [hW4, W4e]; exact below_drewN HB3.out n)
  rw [← hW4]
  clear W4e hW4 HFb
  obtain ⟨c0, c1, c2⟩ := HI.out.cells HB4.out
  clear HB1 HB2 HB3
  go_wp2
  go_loopw [8, 9] (fun sv iv wr => ∃ (i : Nat) (zs : List C), i ≤ r ∧ iv = .int .i64 (i : Nat) ∧ Hid (zs.map cnC = (List.range i).map fun i => leftAt (fun k => atL m (i * c + k)) (atL x) (atL b i) c) ∧ Hid (ltCs zs) ∧ Hid (wr.ownsRow W0.heap.size 60 1 sv i (nums zs)) ∧ Hid (Below W0.heap.size W0 wr)) (fun _ iv _ => r - (intOf iv).toNat)
  case atStart => exact ⟨0, [], Nat.zero_le _, rfl, Lib.hid rfl, Lib.hid (fun z hz => by cases hz), Lib.hid (World.ownsRow_nil _ _ _ _), HB4⟩
  case round =>
    obtain ⟨i, zs, hi, rfl, HZs, HZl, HOw, HBr⟩ := hrel
    clear HB4 c0 c1 c2
    rename World => wr
    obtain ⟨c0, c1, c2⟩ := HI.out.cells HBr.out
    rw [← HMm.out] at c2
    by_cases hir : i < r
    · have hir' : (i : Int) < r := by omega
      obtain ⟨R, hR⟩ : ∃ R : Nat → C, R = fun k => atL m (i * c + k) := ⟨_, rfl⟩
      obtain ⟨X, hX⟩ : ∃ X : Nat → C, X = atL x := ⟨_, rfl⟩
      have HR := Lib.hid (And.intro hR hX)
      have HK0 := Lib.hid (show Prs wr.heap.size wr wr 110 (.slice none 0 0) (.slice none 0 0) (preL R X 0) (pimL R X 0) from
        ⟨World.ownsRow_nil _ _ _ _, World.ownsRow_nil _ _ _ _, fun g h => (by cases h), Below.refl _ _, Nat.le_refl _⟩)
      clear hR hX hi
      go_wp2
      go_loopw [10, 11, 12] (fun rv mv kv wk => ∃ k : Nat, k ≤ c ∧ kv = .int .i64 (k : Nat) ∧ Hid (Prs wr.heap.size wr wk 110 rv mv (preL R X k) (pimL R X k))) (fun _ _ kv _ => c - (intOf kv).toNat)
      case atStart => exact ⟨0, Nat.zero_le _, rfl, HK0⟩
      case round =>
        obtain ⟨k, hk, rfl, HTk⟩ := hrel
        clear HK0 c0 c1 c2
        rename World => wk
        have HBk := Lib.hid (HBr.out.trans (HTk.out.bel.mono HBr.out.size))
        obtain ⟨c0, c1, c2⟩ := HI.out.cells HBk.out
        rw [← HMm.out] at c2
        by_cases hkc : k < c
        · have hkc' : (k : Int) < c := by omega
          obtain ⟨pq, pk, hpk, hw1, hw2, hpkM, hpkc, hb1, hb2⟩ := idx11 hir hkc hr hc HMc.out.1 HMc.out.2
          have HPk := Lib.hid hpk
          clear hpk
          obtain ⟨am, rfl, hcm⟩ := LfI.num HI.out.rm HBk.out (i := pk) (by rw [← HMm.out]; exact hpkM)
          obtain ⟨ax, rfl, hcx1⟩ := LfI.num HI.out.rx HBk.out (i := k) (by rw [HXl.out]; exact hkc)
          obtain ⟨z, hz⟩ : ∃ z, z = atL m pk := ⟨_, rfl⟩
          obtain ⟨u, hu⟩ : ∃ u, u = atL x k := ⟨_, rfl⟩
          have HRk := Lib.hid (show R k = z ∧ X k = u by rw [HR.out.1, HR.out.2, hz, hu, HPk.out]; exact ⟨rfl, rfl⟩)
          rw [← hz] at hcm
          rw [← hu] at hcx1
          have HSz := Lib.hid (show (preL R X k).length + 2 ≤ maxLen ∧ ((preL R X k).length + 2) * 16 ≤ 140737488355328 from by rw [preL_len]; unfold maxLen; omega)
          have HSy := Lib.hid (show (pimL R X k).length + 2 ≤ maxLen ∧ ((pimL R X k).length + 2) * 16 ≤ 140737488355328 from by rw [pimL_len]; unfold maxLen; omega)
          have HXc := Lib.hid (fun V (hV : Below wr.heap.size wr V) => (show V.cell? (ax.add k) = some (.complex .f64 u.1 u.2) from by
            obtain ⟨ax', e1, h2⟩ := LfI.num HI.out.rx (HBr.out.trans (hV.mono HBr.out.size)) (i := k) (by rw [HXl.out]; exact hkc)
            rw [Option.some.inj e1, hu]; exact h2))
          have hbk : Below wr.heap.size wr wk := HTk.out.bel
          have hsz := HTk.out.sz
          clear hz hu hk
          go_upto_region 14 with fail
          refine wp_region_noPanic ?_
          refine wp_region_held_drew (S := fun V => V.cell? (ax.add k) = some (.complex .f64 u.1 u.2)) (by kernel_rfl) (HXc.out _ hbk.drew) (fun hS0 => ?_)
          refine wpAnyH_take (i := 0) (v := ?vvr140) rfl (by kernel_rfl) (by kernel_rfl) (by kernel_rfl) (fun _ _ _ h => h) (Or.inl ⟨rfl, ?yyr140⟩) hS0 ?_
          case yyr140 => (intro w' hSw; (try dsimp only at hSw); first | (go_simp; done) | (go_simp; with_reducible rfl) | kernel_rfl)
          simp only [Act.put]
          refine wpAnyH_take (i := 1) (v := ?vvr141) rfl (by kernel_rfl) (by kernel_rfl) (by kernel_rfl) (fun _ _ _ h => h) (Or.inl ⟨rfl, ?yyr141⟩) hS0 ?_
          case yyr141 => (intro w' hSw; (try dsimp only at hSw); first | (go_simp; done) | (go_simp; with_reducible rfl) | kernel_rfl)
          simp only [Act.put]
          refine wpAnyH_take (i := 2) (v := ?vvr142) rfl (by kernel_rfl) (by kernel_rfl) (by kernel_rfl) (fun _ _ _ h => h) (Or.inl ⟨rfl, ?yyr142⟩) hS0 ?_
          case yyr142 => (intro w' hSw; (try dsimp only at hSw); first | (go_simp; done) | (go_simp; with_reducible rfl) | kernel_rfl)
          simp only [Act.put]
          refine wpAnyH_take (i := 3) (v := ?vvr143) rfl (by kernel_rfl) (by kernel_rfl) (by kernel_rfl) (fun _ _ _ h => h) (Or.inl ⟨rfl, ?yyr143⟩) hS0 ?_
          case yyr143 => (intro w' hSw; (try dsimp only at hSw); first | (go_simp; done) | (go_simp; with_reducible rfl) | kernel_rfl)
          simp only [Act.put]
          refine wpAnyH_take (i := 4) (v := ?vvr144) rfl (by kernel_rfl) (by kernel_rfl) (by kernel_rfl) (fun _ _ _ h => h) (Or.inl ⟨rfl, ?yyr144⟩) hS0 ?_
          case yyr144 => (intro w' hSw; (try dsimp only at hSw); first | (go_simp; done) | (go_simp; with_reducible rfl) | kernel_rfl)
          simp only [Act.put]
          refine wpAnyH_take (i := 5) (v := ?vvr145) rfl (by kernel_rfl) (by kernel_rfl) (by kernel_rfl) (fun _ _ _ h => h) (Or.inl ⟨rfl, ?yyr145⟩) hS0 ?_
          case yyr145 => (intro w' hSw; (try dsimp only at hSw); first | (go_simp; done) | (go_simp; with_reducible rfl) | kernel_rfl)
          simp only [Act.put]
          refine wpAnyH_take (i := 6) (v := ?vvr146) rfl (by kernel_rfl) (by kernel_rfl) (by kernel_rfl) (fun _ _ _ h => h) (Or.inl ⟨rfl, ?yyr146⟩) hS0 ?_
          case yyr146 => (intro w' hSw; (try dsimp only at hSw); first | (go_simp; done) | (go_simp; with_reducible rfl) | kernel_rfl)
          simp only [Act.put]
          refine wpAnyH_take (i := 7) (v := ?vvr147) rfl (by kernel_rfl) (by kernel_rfl) (by kernel_rfl) (fun _ _ _ h => h) (Or.inl ⟨rfl, ?yyr147⟩) hS0 ?_
          case yyr147 => (intro w' hSw; (try dsimp only at hSw); first | (go_simp; done) | (go_simp; with_reducible rfl) | kernel_rfl)
          simp only [Act.put]
          refine wpAnyH_take (i := 8) (v := ?vvr148) rfl (by kernel_rfl) (by kernel_rfl) (by kernel_rfl) (fun _ _ _ h => h) (Or.inl ⟨rfl, ?yyr148⟩) hS0 ?_
          case yyr148 => (intro w' hSw; (try dsimp only at hSw); first | (go_simp; done) | (go_simp; with_reducible rfl) | kernel_rfl)
          simp only [Act.put]
          refine wpAnyH_take (i := 9) (v := ?vvr149) rfl (by kernel_rfl) (by kernel_rfl) (by kernel_rfl) (fun _ _ _ h => h) (Or.inl ⟨rfl, ?yyr149⟩) hS0 ?_
          case yyr149 => (intro w' hSw; (try dsimp only at hSw); first | (go_simp; done) | (go_simp; with_reducible rfl) | kernel_rfl)
          simp only [Act.put]
          refine wpAnyH_take (i := 10) (v := ?vvr1410) rfl (by kernel_rfl) (by kernel_rfl) (by kernel_rfl) (fun _ _ _ h => h) (Or.inl ⟨rfl, ?yyr1410⟩) hS0 ?_
          case yyr1410 => (intro w' hSw; (try dsimp only at hSw); first | (go_simp; done) | (go_simp; with_reducible rfl) | kernel_rfl)
          simp only [Act.put]
          refine wpAnyH_take (i := 11) (v := ?vvr1411) rfl (by kernel_rfl) (by kernel_rfl) (by kernel_rfl) (fun _ _ _ h => h) (Or.inl ⟨rfl, ?yyr1411⟩) hS0 ?_
          case yyr1411 => (intro w' hSw; (try dsimp only at hSw); first | (go_simp; done) | (go_simp; with_reducible rfl) | kernel_rfl)
          simp only [Act.put]
          refine wpAnyH_take (i := 12) (v := ?vvr1412) rfl (by kernel_rfl) (by kernel_rfl) (by kernel_rfl) (fun _ _ _ h => h) (Or.inl ⟨rfl, ?yyr1412⟩) hS0 ?_
          case yyr1412 => (intro w' hSw; (try dsimp only at hSw); first | (go_simp; done) | (go_simp; with_reducible rfl) | kernel_rfl)
          simp only [Act.put]
          refine wpAnyH_take (i := 13) (v := ?vvr1413) rfl (by kernel_rfl) (by kernel_rfl) (by kernel_rfl) (fun _ _ _ h => h) (Or.inl ⟨rfl, ?yyr1413⟩) hS0 ?_
          case yyr1413 => (intro w' hSw; (try dsimp only at hSw); first | (go_simp; done) | (go_simp; with_reducible rfl) | kernel_rfl)
          simp only [Act.put]
          refine wpAnyH_take (i := 14) (v := ?vvr1414) rfl (by kernel_rfl) (by kernel_rfl) (by kernel_rfl) (fun _ _ _ h => h) (Or.inl ⟨rfl, ?yyr1414⟩) hS0 ?_
          case yyr1414 => (intro w' hSw; (try dsimp only at hSw); first | (go_simp; done) | (go_simp; with_reducible rfl) | kernel_rfl)
          simp only [Act.put]
          refine wpAnyH_take (i := 15) (v := ?vvr1415) rfl (by kernel_rfl) (by kernel_rfl) (by kernel_rfl) (fun _ _ _ h => h) (Or.inl ⟨rfl, ?yyr1415⟩) hS0 ?_
          case yyr1415 => (intro w' hSw; (try dsimp only at hSw); first | (go_simp; done) | (go_simp; with_reducible rfl) | kernel_rfl)
          simp only [Act.put]
          refine wpAnyH_take (i := 16) (v := ?vvr1416) rfl (by kernel_rfl) (by kernel_rfl) (by kernel_rfl) (fun _ _ _ h => h) (Or.inl ⟨rfl, ?yyr1416⟩) hS0 ?_
          case yyr1416 => (intro w' hSw; (try dsimp only at hSw); first | (go_simp; done) | (go_simp; with_reducible rfl) | kernel_rfl)
          simp only [Act.put]
          refine wpAnyH_ready (rs := [17]) (by kernel_rfl) (by simp) ?_
          refine AllReadyH.cons rfl (fun K hK => ?_) AllReadyH.nil
          go_simp
          refine hK.out _ _ (HXc.out _ (hbk.new (Nat.le_refl _) _).drew) (fun hS1 => ?_)
          clear hK K hS0
          refine wpAnyH_ready (rs := [18]) (by kernel_rfl) (by simp) ?_
          refine AllReadyH.cons rfl (fun K hK => ?_) AllReadyH.nil
          simp only [Act.put]
          refine wp_append_held rfl (.tmp 69) (.tmp 86) 109 rfl wr.heap.size 110 p0 (.agg #[.float .f64 0, .float .f64 0]) 2 16 Tryz.underlying109 hp0 hp1 hp2 hp3 rfl (by decide) _ _ _ rfl (own_below HTk.out.t (below_new _ _).drew) ⟨wk.heap.size, 0, none⟩ 2 2 [.float .f64 z.1, .float .f64 u.1, .float .f64 z.2, .float .f64 u.2] rfl rfl (four_new _ _ _ _ _ _) (by intro u hu; simp at hu; rcases hu with rfl | rfl | rfl | rfl <;> rfl) (HSz.out.1) (HSz.out.2) (Nat.le_trans HTk.out.sz (below_new _ _).size) ?_
          intro v10 w10 hown1 hgrow1 hat1
          have HP14 := Lib.hid (HTk.out.t1 (l := [(z.1, u.1), (z.2, u.2)]) (below_new _ _).drew rfl hown1 hgrow1 hat1)
          have hb10 := ((hbk.new (Nat.le_refl _) _).drew).grown hgrow1 (Nat.le_trans HTk.out.sz (below_new _ _).size) (fun g hg => (HTk.out.t.lt g hg).1)
          refine hK.out _ _ (HXc.out _ hb10) (fun hS2 => ?_)
          clear hK K hS1 hown1 hgrow1 hat1
          refine wpAnyH_take (i := 19) (v := ?vvz14) rfl (by kernel_rfl) (by kernel_rfl) (by kernel_rfl) (fun _ _ _ h => h) (Or.inl ⟨rfl, ?yyz14⟩) hS2 ?_
          case yyz14 => (intro w' hSw; first | (go_simp; done) | (go_simp; with_reducible rfl) | kernel_rfl)
          simp only [Act.put]
          refine wpAnyH_done (by kernel_rfl) ?_ _
          refine NoPanic.normal ?_
          go_upto_region 15 with fail
          refine wp_region_noPanic ?_
          refine wp_region_held_drew (S := fun V => V.cell? (ax.add k) = some (.complex .f64 u.1 u.2)) (by kernel_rfl) (HXc.out _ hb10.drew) (fun hS0 => ?_)
          refine wpAnyH_take (i := 0) (v := ?vvr150) rfl (by kernel_rfl) (by kernel_rfl) (by kernel_rfl) (fun _ _ _ h => h) (Or.inl ⟨rfl, ?yyr150⟩) hS0 ?_
          case yyr150 => (intro w' hSw; (try dsimp only at hSw); first | (go_simp; done) | (go_simp; with_reducible rfl) | kernel_rfl)
          simp only [Act.put]
          refine wpAnyH_take (i := 1) (v := ?vvr151) rfl (by kernel_rfl) (by kernel_rfl) (by kernel_rfl) (fun _ _ _ h => h) (Or.inl ⟨rfl, ?yyr151⟩) hS0 ?_
          case yyr151 => (intro w' hSw; (try dsimp only at hSw); first | (go_simp; done) | (go_simp; with_reducible rfl) | kernel_rfl)
          simp only [Act.put]
          refine wpAnyH_take (i := 2) (v := ?vvr152) rfl (by kernel_rfl) (by kernel_rfl) (by kernel_rfl) (fun _ _ _ h => h) (Or.inl ⟨rfl, ?yyr152⟩) hS0 ?_
          case yyr152 => (intro w' hSw; (try dsimp only at hSw); first | (go_simp; done) | (go_simp; with_reducible rfl) | kernel_rfl)
          simp only [Act.put]
          refine wpAnyH_take (i := 3) (v := ?vvr153) rfl (by kernel_rfl) (by kernel_rfl) (by kernel_rfl) (fun _ _ _ h => h) (Or.inl ⟨rfl, ?yyr153⟩) hS0 ?_
          case yyr153 => (intro w' hSw; (try dsimp only at hSw); first | (go_simp; done) | (go_simp; with_reducible rfl) | kernel_rfl)
          simp only [Act.put]
          refine wpAnyH_take (i := 4) (v := ?vvr154) rfl (by kernel_rfl) (by kernel_rfl) (by kernel_rfl) (fun _ _ _ h => h) (Or.inl ⟨rfl, ?yyr154⟩) hS0 ?_
          case yyr154 => (intro w' hSw; (try dsimp only at hSw); first | (go_simp; done) | (go_simp; with_reducible rfl) | kernel_rfl)
          simp only [Act.put]
          refine wpAnyH_take (i := 5) (v := ?vvr155) rfl (by kernel_rfl) (by kernel_rfl) (by kernel_rfl) (fun _ _ _ h => h) (Or.inl ⟨rfl, ?yyr155⟩) hS0 ?_
          case yyr155 => (intro w' hSw; (try dsimp only at hSw); first | (go_simp; done) | (go_simp; with_reducible rfl) | kernel_rfl)
          simp only [Act.put]
          refine wpAnyH_take (i := 6) (v := ?vvr156) rfl (by kernel_rfl) (by kernel_rfl) (by kernel_rfl) (fun _ _ _ h => h) (Or.inl ⟨rfl, ?yyr156⟩) hS0 ?_
          case yyr156 => (intro w' hSw; (try dsimp only at hSw); first | (go_simp; done) | (go_simp; with_reducible rfl) | kernel_rfl)
          simp only [Act.put]
          refine wpAnyH_take (i := 7) (v := ?vvr157) rfl (by kernel_rfl) (by kernel_rfl) (by kernel_rfl) (fun _ _ _ h => h) (Or.inl ⟨rfl, ?yyr157⟩) hS0 ?_
          case yyr157 => (intro w' hSw; (try dsimp only at hSw); first | (go_simp; done) | (go_simp; with_reducible rfl) | kernel_rfl)
          simp only [Act.put]
          refine wpAnyH_take (i := 8) (v := ?vvr158) rfl (by kernel_rfl) (by kernel_rfl) (by kernel_rfl) (fun _ _ _ h => h) (Or.inl ⟨rfl, ?yyr158⟩) hS0 ?_
          case yyr158 => (intro w' hSw; (try dsimp only at hSw); first | (go_simp; done) | (go_simp; with_reducible rfl) | kernel_rfl)
          simp only [Act.put]
          refine wpAnyH_take (i := 9) (v := ?vvr159) rfl (by kernel_rfl) (by kernel_rfl) (by kernel_rfl) (fun _ _ _ h => h) (Or.inl ⟨rfl, ?yyr159⟩) hS0 ?_
          case yyr159 => (intro w' hSw; (try dsimp only at hSw); first | (go_simp; done) | (go_simp; with_reducible rfl) | kernel_rfl)
          simp only [Act.put]
          refine wpAnyH_take (i := 10) (v := ?vvr1510) rfl (by kernel_rfl) (by kernel_rfl) (by kernel_rfl) (fun _ _ _ h => h) (Or.inl ⟨rfl, ?yyr1510⟩) hS0 ?_
          case yyr1510 => (intro w' hSw; (try dsimp only at hSw); first | (go_simp; done) | (go_simp; with_reducible rfl) | kernel_rfl)
          simp only [Act.put]
          refine wpAnyH_take (i := 11) (v := ?vvr1511) rfl (by kernel_rfl) (by kernel_rfl) (by kernel_rfl) (fun _ _ _ h => h) (Or.inl ⟨rfl, ?yyr1511⟩) hS0 ?_
          case yyr1511 => (intro w' hSw; (try dsimp only at hSw); first | (go_simp; done) | (go_simp; with_reducible rfl) | kernel_rfl)
          simp only [Act.put]
          refine wpAnyH_take (i := 12) (v := ?vvr1512) rfl (by kernel_rfl) (by kernel_rfl) (by kernel_rfl) (fun _ _ _ h => h) (Or.inl ⟨rfl, ?yyr1512⟩) hS0 ?_
          case yyr1512 => (intro w' hSw; (try dsimp only at hSw); first | (go_simp; done) | (go_simp; with_reducible rfl) | kernel_rfl)
          simp only [Act.put]
          refine wpAnyH_take (i := 13) (v := ?vvr1513) rfl (by kernel_rfl) (by kernel_rfl) (by kernel_rfl) (fun _ _ _ h => h) (Or.inl ⟨rfl, ?yyr1513⟩) hS0 ?_
          case yyr1513 => (intro w' hSw; (try dsimp only at hSw); first | (go_simp; done) | (go_simp; with_reducible rfl) | kernel_rfl)
          simp only [Act.put]
          refine wpAnyH_take (i := 14) (v := ?vvr1514) rfl (by kernel_rfl) (by kernel_rfl) (by kernel_rfl) (fun _ _ _ h => h) (Or.inl ⟨rfl, ?yyr1514⟩) hS0 ?_
          case yyr1514 => (intro w' hSw; (try dsimp only at hSw); first | (go_simp; done) | (go_simp; with_reducible rfl) | kernel_rfl)
          simp only [Act.put]
          refine wpAnyH_take (i := 15) (v := ?vvr1515) rfl (by kernel_rfl) (by kernel_rfl) (by kernel_rfl) (fun _ _ _ h => h) (Or.inl ⟨rfl, ?yyr1515⟩) hS0 ?_
          case yyr1515 => (intro w' hSw; (try dsimp only at hSw); first | (go_simp; done) | (go_simp; with_reducible rfl) | kernel_rfl)
          simp only [Act.put]
          refine wpAnyH_take (i := 16) (v := ?vvr1516) rfl (by kernel_rfl) (by kernel_rfl) (by kernel_rfl) (fun _ _ _ h => h) (Or.inl ⟨rfl, ?yyr1516⟩) hS0 ?_
          case yyr1516 => (intro w' hSw; (try dsimp only at hSw); first | (go_simp; done) | (go_simp; with_reducible rfl) | kernel_rfl)
          simp only [Act.put]
          refine wpAnyH_ready (rs := [17]) (by kernel_rfl) (by simp) ?_
          refine AllReadyH.cons rfl (fun K hK => ?_) AllReadyH.nil
          go_simp
          refine hK.out _ _ (HXc.out _ (hb10.new (Nat.le_refl _) _).drew) (fun hS1 => ?_)
          clear hK K hS0
          refine wpAnyH_ready (rs := [18]) (by kernel_rfl) (by simp) ?_
          refine AllReadyH.cons rfl (fun K hK => ?_) AllReadyH.nil
          simp only [Act.put]
          refine wp_append_held rfl (.tmp 88) (.tmp 105) 109 rfl wr.heap.size 110 p0 (.agg #[.float .f64 0, .float .f64 0]) 2 16 Tryz.underlying109 hp0 hp1 hp2 hp3 rfl (by decide) _ _ _ rfl (own_below HP14.out.e (below_new _ _).drew) ⟨w10.heap.size, 0, none⟩ 2 2 [.float .f64 z.1, .float .f64 u.2, .float .f64 z.2, .float .f64 u.1] rfl rfl (four_new _ _ _ _ _ _) (by intro u hu; simp at hu; rcases hu with rfl | rfl | rfl | rfl <;> rfl) (HSy.out.1) (HSy.out.2) (Nat.le_trans HP14.out.sz (below_new _ _).size) ?_
          intro v11 w11 hown1 hgrow1 hat1
          have HP15 := Lib.hid (HP14.out.e1 (l := [(z.1, u.2), (z.2, u.1)]) (below_new _ _).drew rfl hown1 hgrow1 hat1)
          have hb11 := ((hb10.new (Nat.le_refl _) _).drew).grown hgrow1 (Nat.le_trans HP14.out.sz (below_new _ _).size) (fun g hg => (HP14.out.e.lt g hg).1)
          refine hK.out _ _ (HXc.out _ hb11) (fun hS2 => ?_)
          clear hK K hS1 hown1 hgrow1 hat1
          refine wpAnyH_take (i := 19) (v := ?vvz15) rfl (by kernel_rfl) (by kernel_rfl) (by kernel_rfl) (fun _ _ _ h => h) (Or.inl ⟨rfl, ?yyz15⟩) hS2 ?_
          case yyz15 => (intro w' hSw; first | (go_simp; done) | (go_simp; with_reducible rfl) | kernel_rfl)
          simp only [Act.put]
          refine wpAnyH_done (by kernel_rfl) ?_ _
          refine NoPanic.normal ?_
          have HK1 := Lib.hid (show Prs wr.heap.size wr w11 110 v10 v11 (preL R X (k + 1)) (pimL R X (k + 1)) from by
            show Prs wr.heap.size wr w11 110 v10 v11 (preL R X k ++ [((R k).1, (X k).1), ((R k).2, (X k).2)]) (pimL R X k ++ [((R k).1, (X k).2), ((R k).2, (X k).1)])
            rw [HRk.out.1, HRk.out.2]
            exact HP15.out)
          clear hS2 hb10 hb11 hbk hsz hcm hcx1 c0 c1 c2
          go_wp2
          go_roundw
          case rel => exact ⟨k + 1, hkc, by go_num, HK1⟩
          case measure => simp [intOf]; omega
        · have hkc' : ¬ (k : Int) < c := by omega
          have e : k = c := by omega
          subst e
          obtain ⟨ab, rfl, hbi⟩ := LfI.num HI.out.rb HBk.out (i := i) (by rw [HBl.out]; exact hir)
          obtain ⟨bz, hbz⟩ : ∃ bz, bz = atL b i := ⟨_, rfl⟩
          have mem : ∀ (l : List C) (j : Nat), j < l.length → atL l j ∈ l := fun l j hj => by
            obtain ⟨y, hy⟩ := some_of_lt (l := l) (k := j) hj
            have ea : atL l j = y := by unfold atL; rw [List.getD_eq_getElem?_getD, hy]; rfl
            rw [ea]; exact List.mem_of_getElem? hy
          have hbm : bz ∈ b := by rw [hbz]; exact mem b i (by rw [HBl.out]; exact hir)
          have hbl := HLt.out.2.2 bz hbm
          have hbc := fin_cnT (HFin.out.2.2 bz hbm)
          have hmem := pre_mem (R := R) (X := X) (Pd := fun a => a < 18446744073709551616 ∧ cn .f64 a = a) k (fun j hj => by
            have h1 : R j ∈ m := by rw [HR.out.1]; exact mem m (i * k + j) (by rw [← HMm.out, HMc.out.1]; exact Nat.lt_of_lt_of_le (Nat.add_lt_add_left hj _) (by have := Nat.mul_le_mul_right k hir; rw [Nat.succ_mul] at this; exact this))
            have h2 : X j ∈ x := by rw [HR.out.2]; exact mem x j (by rw [HXl.out]; exact hj)
            have l1 := HLt.out.1 _ h1
            have l2 := HLt.out.2.1 _ h2
            have f1 := fin_cnT (HFin.out.1 _ h1)
            have f2 := fin_cnT (HFin.out.2.1 _ h2)
            exact ⟨⟨⟨l1.1, f1.1⟩, ⟨l1.2, f1.2⟩⟩, ⟨l2.1, f2.1⟩, ⟨l2.2, f2.2⟩⟩)
          have HPa := Lib.hid (rpart_c bz.1 true (preL R X k) _ wk hbl.1 (fun p hp => ⟨(hmem.1 p hp).1.1, (hmem.1 p hp).2.1, (hmem.1 p hp).1.2, (hmem.1 p hp).2.2⟩) (by rw [preL_len]; omega) (own_pairs HTk.out.t))
          have HPb := Lib.hid (fun W5 (hb : Below wk.heap.size wk W5) => rpart_c bz.2 false (pimL R X k) _ W5 hbl.2 (fun p hp => ⟨(hmem.2 p hp).1.1, (hmem.2 p hp).2.1, (hmem.2 p hp).1.2, (hmem.2 p hp).2.2⟩) (by rw [pimL_len]; omega) (own_pairs (own_below HTk.out.e hb)))
          have HLa := Lib.hid (part_left R X bz k hbc.1 hbc.2)
          have HBz := Lib.hid hbz
          rw [← hbz] at hbi
          have HBi := Lib.hid (fun V (hV : Below wk.heap.size wk V) => (show V.cell? (ab.add i) = some (.complex .f64 bz.1 bz.2) from by
            obtain ⟨ab', e1, h2⟩ := LfI.num HI.out.rb (HBk.out.trans (hV.mono HBk.out.size)) (i := i) (by rw [HBl.out]; exact hir)
            rw [Option.some.inj e1, hbz]; exact h2))
          have HOk := Lib.hid (own_below HOw.out HTk.out.bel)
          clear hbz mem hbm hbl hbc hmem hk
          go_wp2_with fail
          refine HPa.out.mono ?_
          rintro e W5 ⟨y1, rfl, hy1, hl1, hb5⟩
          have hbi := HBi.out W5 hb5
          have HB5 := Lib.hid hb5
          have HY1 := Lib.hid (And.intro hy1 hl1)
          have HPb5 := Lib.hid (HPb.out W5 hb5)
          clear hy1 hl1 hb5 HPa HPb c0 c1 c2
          go_wp2_with fail
          refine HPb5.out.mono ?_
          rintro e W6 ⟨y2, rfl, hy2, hl2, hb6⟩
          have HB6 := Lib.hid (HBk.out.trans ((HB5.out.trans (hb6.mono HB5.out.size)).mono HBk.out.size))
          have HY2 := Lib.hid (And.intro hy2 hl2)
          have HO6 := Lib.hid (own_below HOk.out (HB5.out.trans (hb6.mono HB5.out.size)))
          have HS := Lib.hid (show i + 1 ≤ maxLen ∧ (i + 1) * 16 ≤ 140737488355328 from by unfold maxLen; omega)
          clear hy2 hl2 hb6 HPb5 hbi
          go_wp2_with (at_builtin; refine wpList_append_stays _ rfl (.tmp 121) (.tmp 125) 25 rfl W0.heap.size 60 j0 (.complex .f64 0 0) 16 Tryz.underlying25 hj0 hy0 hy1 hy2 rfl _ _ _ rfl (HO6.out.alloc _) ⟨W6.heap.size, 0, none⟩ 1 1 [.complex .f64 y1 y2] rfl rfl (cell_one_new _ _ _) (by intro u hu; simp at hu; subst hu; rfl) HS.out.1 HS.out.2 (Nat.le_trans HB6.out.size (below_new _ _).size) ?_; intro v' w2 hown1 hgrow1 hat1)
          have HB7 := Lib.hid ((HB6.out.new (Nat.le_refl _) _).grown hgrow1 (Nat.le_trans HB6.out.size (below_new _ _).size) (fun g hg => (HO6.out.lt g hg).1))
          have er : nums zs ++ [.complex .f64 y1 y2] = nums (zs ++ [(y1, y2)]) := by simp [nums]
          rw [er] at hown1
          have HO7 := Lib.hid hown1
          clear hown1 hgrow1 hat1 er
          go_roundw
          case rel =>
            refine ⟨i + 1, zs ++ [(y1, y2)], hir, by go_num, Lib.hid ?_, Lib.hid ?_, HO7, HB7⟩
            · rw [List.map_append, HZs.out, List.range_succ, List.map_append]
              congr 1
              show [(cn .f64 y1, cn .f64 y2)] = [leftAt (fun k_1 => atL m (i * k + k_1)) (atL x) (atL b i) k]
              have h1 := HLa.out
              rw [← HY1.out.1, ← HY2.out.1, HR.out.1, HR.out.2] at h1
              rw [h1, HBz.out]
            · intro z hz
              rcases List.mem_append.1 hz with h | h
              · exact HZl.out z h
              · rw [List.mem_singleton.1 h]; exact ⟨HY1.out.2, HY2.out.2⟩
          case measure => simp [intOf]; omega
    · have hir' : ¬ (i : Int) < r := by omega
      have e : i = r := by omega
      subst e
      have hown := HOw.out
      obtain ⟨A9, c9, rfl, r9, -, -⟩ := own_readsT hown
      have hzl : zs.length = i := by have := congrArg List.length HZs.out; simpa using this
      have hzL : zs.map cnC = LL := by rw [HZs.out, HLL.out]; rfl
      have HFz := Lib.hid (rfinite11_c A9 zs c9 wr HZl.out (by omega) r9)
      rw [hzl, all_fin_cn hzL, ← HRes.out.1] at HFz
      have HEx := Lib.hid (show okL = true → zs = LL from fun h => fin_exact hzL (by rw [all_fin_cn hzL, ← HRes.out.1]; exact h))
      have HZn := Lib.hid hzl
      clear r9 hzl hzL hown hi
      go_wp2_with fail
      refine HFz.out.mono ?_
      rintro e W5 ⟨n, rfl, rfl⟩
      have HB5 := Lib.hid (show Below w.heap.size w (wr.drewN n) from HI.out.bel.trans ((below_drewN HBr.out n).mono HI.out.bel.size))
      obtain ⟨-, hRL, hRE⟩ := HRes.out
      cases okL
      · have HL := Lib.hid (show RL = [] from hRL)
        have HE := Lib.hid (show RE = 6 from hRE)
        clear hRL hRE HRes
        go_wp2
        go_ret2
        refine ⟨.slice none 0 0, by rw [HE.out]; rfl, ?_, HB5.out⟩
        rw [HL.out]
        exact World.ownsRow_nil _ _ _ _
      · have HL := Lib.hid (show RL = LL from hRL)
        have HE := Lib.hid (show RE = 0 from hRE)
        clear hRL hRE HRes
        go_wp2
        go_ret2
        refine ⟨_, by rw [HE.out]; rfl, ?_, HB5.out⟩
        rw [HL.out, ← HEx.out trivial, HZn.out]
        exact own_base (own_below HOw.out (below_drewN (Below.refl _ _) n)) HI.out.bel.size
end Go.Proofs.YtandllekeimpgaaGreat
