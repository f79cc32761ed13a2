/- A law's arguments: matrices, lists of numbers; read again behind the call. -/
import Derived.Test.YtandllekeimpgaaMX1
import Derived.ReadAgain
import Derived.Deep.SlicePairs
import Derived.Lib.SmallJoins
import Derived.Deep.Slices
namespace Go.Proofs.Ytandllekeimpgaa
open Go.RowKit Go.WideElems Go.Maps Go.Deep Fl Ieee
set_option maxRecDepth 20000
section
variable {H : Type} {enc : TypeId × Value → H} {P : Program}
theorem trodAll_carry {w w' : World} {base : Nat} {spare : Nat → Bool} {held : Bool} : ∀ {ts : List TypeId} {vs : List Value} {ds : List (DataW H)} {ps : List MemPlace},
    DataW.TrodAll enc P w base spare held ts vs ds ps → (∀ p ∈ ps, w.sameAt w' p) → DataW.TrodAll enc P w' base spare held ts vs ds ps
  | [], [], [], _, h, _ => h
  | _ :: _, _ :: _, _ :: _, _, ⟨p, q, ⟨n, h1⟩, h2, e⟩, hs =>
    ⟨p, q, ⟨n, DataW.trod_carry n _ _ _ h1 (fun x hx => hs x (by rw [e]; exact List.mem_append_left _ hx))⟩, trodAll_carry h2 (fun x hx => hs x (by rw [e]; exact List.mem_append_right _ hx)), e⟩
/-- Read again in a world that has grown, any spare places. -/
theorem trodAll_move {T : TypeId → Prop} {w w' : World} {sp : Nat → Bool} {ts : List TypeId} {vs : List Value} {ds : List (DataW H)} {ps : List MemPlace} (K : Kids P T) (hz : ∀ t e, T t → P.underlying t = some (.slice e) → 0 < P.cellsOf e)
    (hT : ∀ t ∈ ts, T t) (h : DataW.TrodAll enc P w 0 (fun _ => true) true ts vs ds ps) (hb : Below w.heap.size w w') (hs : ∀ p ∈ ps, sp p.block = true) : DataW.TrodAll enc P w' 0 sp true ts vs ds ps :=
  trodAll_carry (h.respare K hz hT hs) fun p hp => by
    have hlt := h.lt p hp
    cases p with
    | cell b off => exact hb.cell (p := ⟨b, off, none⟩) hlt
    | map b => exact hb.block b hlt
end
theorem kidsP : Kids Try.prog (· < Try.prog.types.size) := kids_rows (by kernel_rfl) (by kernel_rfl)
theorem slicesP : ∀ t e, t < Try.prog.types.size → Try.prog.underlying t = some (.slice e) → 0 < Try.prog.cellsOf e := slices_full_of Try.prog (by kernel_rfl)
theorem zcells_get (l : List C) (j : Nat) : (zcells l)[j]? = (l[j / 2]?).map fun z => Value.int .u64 ((if j % 2 = 0 then z.1 else z.2 : Nat) : Int) := by
  induction l generalizing j with
  | nil => simp [zcells]
  | cons a t ih =>
    have e : zcells (a :: t) = .int .u64 (a.1 : Nat) :: .int .u64 (a.2 : Nat) :: zcells t := rfl
    rw [e]
    match j with
    | 0 => simp
    | 1 => simp
    | j + 2 =>
      have h1 : (j + 2) / 2 = j / 2 + 1 := by omega
      have h2 : (j + 2) % 2 = j % 2 := by omega
      rw [h1, h2]
      simpa using ih j
theorem zcells_length (l : List C) : (zcells l).length = 2 * l.length := by
  induction l with
  | nil => rfl
  | cons a t ih =>
    have e : zcells (a :: t) = .int .u64 (a.1 : Nat) :: .int .u64 (a.2 : Nat) :: zcells t := rfl
    rw [e]; simp [ih]; omega
def numOf : Value → Nat
  | .int _ x => x.toNat
  | _ => 0
theorem cellsOfZ : Try.prog.cellsOf 74 = 2 := by kernel_rfl
theorem cellsOfU : Try.prog.cellsOf 72 = 1 := by kernel_rfl
/-- A list of numbers by their bits. -/
theorem open_zs {H : Type} {enc : TypeId × Value → H} {w : World} {base fuel : Nat} {held : Bool} {cs : List Value} {x : DataW H × List MemPlace}
    (h : DataW.trod enc Try.prog w base (fun _ => true) held fuel 22 cs = some x) :
    ∃ (A : Option Addr) (l : List C) (cap : Nat), cs = [.slice A l.length cap] ∧ l.length ≤ cap ∧ cap ≤ maxLen ∧ (A = none → cap = 0) ∧ Reads w w.heap.size A (zcells l) ∧ ltCs l := by
  rcases Go.Deep.open_slice_pairs Try.underlying22 Try.underlying74 cellsOfZ rfl rfl cellsOfU cellsOfU h with ⟨rfl, _⟩ | ⟨a, len, cap, m, n, V0, V1, D0, D1, P0, P1, rfl, hb, hl, hm, hmm, hx, hall⟩
  · exact ⟨none, [], 0, rfl, Nat.le_refl _, Nat.zero_le _, fun _ => rfl, fun h => absurd h (by simp [zcells]), by simp [ltCs]⟩
  · have hmc : m = cap := by simpa using hmm
    have each : ∀ i, i < len → V0 i = .int .u64 ((numOf (V0 i) : Nat) : Int) ∧ V1 i = .int .u64 ((numOf (V1 i) : Nat) : Int) ∧ numOf (V0 i) < 18446744073709551616 ∧ numOf (V1 i) < 18446744073709551616 ∧ w.cell? (a.add (i * 2)) = some (V0 i) ∧ w.cell? (a.add (i * 2 + 1)) = some (V1 i) := by
      intro i hi
      obtain ⟨c0, c1, t0, t1⟩ := hall i (by omega)
      obtain ⟨x0, e0, _, w0⟩ := DataW.trod_int Try.underlying72 t0
      obtain ⟨x1, e1, _, w1⟩ := DataW.trod_int Try.underlying72 t1
      simp at e0 e1
      obtain ⟨n0, rfl, b0⟩ := wf_nat_u64 w0
      obtain ⟨n1, rfl, b1⟩ := wf_nat_u64 w1
      refine ⟨?_, ?_, ?_, ?_, c0, c1⟩
      · rw [e0]; rfl
      · rw [e1]; rfl
      · rw [e0]; exact b0
      · rw [e1]; exact b1
    have hlen : ((List.range len).map fun i => ((numOf (V0 i), numOf (V1 i)) : C)).length = len := by simp
    refine ⟨some a, (List.range len).map fun i => (numOf (V0 i), numOf (V1 i)), cap, by rw [hlen], by rw [hlen]; exact hl, hm, (fun h => by cases h), ?_, ?_⟩
    · intro hpos
      rw [zcells_length, hlen] at hpos
      have h0 : 0 < len := by omega
      have hlt : a.block < w.heap.size := by
        have := block_lt_of_cell (each 0 h0).2.2.2.2.1
        rwa [block_of_add] at this
      refine ⟨a, rfl, hlt, fun j u hju => ?_⟩
      rw [zcells_get] at hju
      have hj : j / 2 < len := by
        rcases Nat.lt_or_ge (j / 2) len with h | h
        · exact h
        · rw [List.getElem?_eq_none (by rw [hlen]; exact h)] at hju; cases hju
      obtain ⟨e0, e1, _, _, c0, c1⟩ := each (j / 2) hj
      rw [List.getElem?_map, List.getElem?_range hj] at hju
      rcases Nat.mod_two_eq_zero_or_one j with h | h
      · have e : j / 2 * 2 = j := by omega
        rw [e] at c0
        rw [c0, e0]
        simp only [h] at hju
        simpa using hju
      · have e : j / 2 * 2 + 1 = j := by omega
        rw [e] at c1
        rw [c1, e1]
        simp only [h] at hju
        simpa using hju
    · intro z hz
      obtain ⟨i, hi, rfl⟩ := List.mem_map.1 hz
      have := each i (List.mem_range.1 hi)
      exact ⟨this.2.2.1, this.2.2.2.1⟩
/-- A matrix by the bits of its numbers. -/
theorem open_mat {H : Type} {enc : TypeId × Value → H} {w : World} {r : Reach} {b0 base : Nat} {held : Bool} {t : TypeId} {f0 f1 f2 : Field} {v : Value} {d : DataW H} {p : List MemPlace} (hs : Try.prog.underlying t = some (.struct #[f0, f1, f2]))
    (e0 : f0.type = 3) (e1 : f1.type = 3) (e2 : f2.type = 22) (hone : oneCellFields Try.prog #[f0, f1, f2] = true) (hC : Try.prog.cellsOf t = 3)
    (hv : Value.okWide Try.prog w r b0 t v) (h : DataW.Trod enc Try.prog w base (fun _ => true) held t v d p) :
    ∃ (R C : Int) (A : Option Addr) (l : List Fl.C) (cap : Nat), v = mval R C (.slice A l.length cap) ∧ (Lit.int .i64 R).wf = true ∧ (Lit.int .i64 C).wf = true ∧ l.length ≤ cap ∧ cap ≤ maxLen ∧ (A = none → cap = 0) ∧ Reads w w.heap.size A (zcells l) ∧ ltCs l := by
  obtain ⟨v0, v1, v2, y0, y1, y2, n, rfl, _, _, h0, h1, h2⟩ := Joins.open_agg3 hs hone hC hv h
  rw [e0] at h0
  rw [e1] at h1
  rw [e2] at h2
  obtain ⟨R, g0, _, w0⟩ := DataW.trod_int Try.underlying3 h0
  obtain ⟨C, g1, _, w1⟩ := DataW.trod_int Try.underlying3 h1
  obtain ⟨A, l, cap, g2, q1, q2, q3, q4, q5⟩ := open_zs h2
  simp at g0 g1 g2
  subst g0 g1 g2
  exact ⟨R, C, A, l, cap, rfl, w0, w1, q1, q2, q3, q4, q5⟩
end Go.Proofs.Ytandllekeimpgaa
namespace Go.Proofs.Ytandllekeimpgaa
open Go.RowKit Go.WideElems Go.Maps Go.Deep Fl Ieee
set_option maxRecDepth 20000
/-- What the datum of a list of numbers looks like. -/
def ZsDatum {H : Type} (n : Nat) (z : DataW H) : Prop := n = 0 ∨ ∃ (D0 D1 : Nat → DataW H) (sp : List (DataW H)), z = .slice ((List.range n).map fun i => .agg [D0 i, D1 i]) sp
theorem zs_datum {H : Type} {enc : TypeId × Value → H} {w : World} {base fuel n cap : Nat} {A : Option Addr} {held : Bool} {x : DataW H × List MemPlace}
    (h : DataW.trod enc Try.prog w base (fun _ => true) held fuel 22 [.slice A n cap] = some x) : ZsDatum n x.1 := by
  rcases Go.Deep.open_slice_pairs Try.underlying22 Try.underlying74 cellsOfZ rfl rfl cellsOfU cellsOfU h with ⟨e, _⟩ | ⟨a, len, cap', m, k, V0, V1, D0, D1, P0, P1, e, hb, hl, hm, hmm, hx, hall⟩
  · simp at e
    exact .inl e.2.1
  · simp at e
    obtain ⟨-, rfl, -⟩ := e
    exact .inr ⟨D0, D1, _, by rw [hx]⟩
theorem open_matU {H : Type} {enc : TypeId × Value → H} {w : World} {r : Reach} {b0 base : Nat} {held : Bool} {t : TypeId} {f0 f1 f2 : Field} {v : Value} {d : DataW H} {p : List MemPlace} (hs : Try.prog.underlying t = some (.struct #[f0, f1, f2]))
    (e0 : f0.type = 3) (e1 : f1.type = 3) (e2 : f2.type = 22) (hone : oneCellFields Try.prog #[f0, f1, f2] = true) (hC : Try.prog.cellsOf t = 3)
    (hv : Value.okWide Try.prog w r b0 t v) (h : DataW.Trod enc Try.prog w base (fun _ => true) held t v d p) :
    ∃ (R C : Int) (A : Option Addr) (l : List Fl.C) (cap : Nat), v = mval R C (.slice A l.length cap) ∧ (Lit.int .i64 R).wf = true ∧ (Lit.int .i64 C).wf = true ∧ l.length ≤ cap ∧ cap ≤ maxLen ∧ (A = none → cap = 0) ∧ Reads w w.heap.size A (zcells l) ∧ ltCs l ∧
      ∃ a b z, d = .agg [a, b, z] ∧ ZsDatum l.length z := by
  obtain ⟨v0, v1, v2, y0, y1, y2, n, rfl, hd, _, h0, h1, h2⟩ := Joins.open_agg3 hs hone hC hv h
  rw [e0] at h0
  rw [e1] at h1
  rw [e2] at h2
  obtain ⟨R, g0, _, w0⟩ := DataW.trod_int Try.underlying3 h0
  obtain ⟨C, g1, _, w1⟩ := DataW.trod_int Try.underlying3 h1
  obtain ⟨A, l, cap, g2, q1, q2, q3, q4, q5⟩ := open_zs h2
  simp at g0 g1 g2
  subst g0 g1 g2
  exact ⟨R, C, A, l, cap, rfl, w0, w1, q1, q2, q3, q4, q5, _, _, _, hd, zs_datum h2⟩
end Go.Proofs.Ytandllekeimpgaa
namespace Go.Proofs.Ytandllekeimpgaa
open Go.RowKit Fl Ieee
set_option maxRecDepth 20000
attribute [local go_sem] run_store_float run_store_complex
end Go.Proofs.Ytandllekeimpgaa
namespace Go.Proofs.Ytandllekeimpgaa
open Go.RowKit Fl Ieee
set_option maxRecDepth 20000
attribute [local go_sem] run_store_float run_store_complex
end Go.Proofs.Ytandllekeimpgaa
namespace Go.Proofs.Ytandllekeimpgaa
open Go.RowKit Go.WideElems Go.Maps Go.Deep Fl Ieee
set_option maxRecDepth 20000
theorem open_zs_arg {H : Type} {enc : TypeId × Value → H} {w : World} {r : Reach} {b0 base : Nat} {held : Bool} {v : Value} {d : DataW H} {p : List MemPlace}
    (hv : Value.okWide Try.prog w r b0 22 v) (h : DataW.Trod enc Try.prog w base (fun _ => true) held 22 v d p) :
    ∃ (A : Option Addr) (l : List Fl.C) (cap : Nat), v = .slice A l.length cap ∧ l.length ≤ cap ∧ cap ≤ maxLen ∧ (A = none → cap = 0) ∧ Reads w w.heap.size A (zcells l) ∧ ltCs l := by
  obtain ⟨a, n, c, rfl⟩ := Go.WideShapes.okWide_slice Try.underlying22 hv
  obtain ⟨fuel, hf⟩ := h
  obtain ⟨A, l, cap, e, q1, q2, q3, q4, q5⟩ := open_zs hf
  have e2 : Value.slice a n c = .slice A l.length cap := by simpa [Value.cells] using e
  exact ⟨A, l, cap, e2, q1, q2, q3, q4, q5⟩
end Go.Proofs.Ytandllekeimpgaa
namespace Go.Proofs.Ytandllekeimpgaa
open Go.RowKit Go.WideElems Go.Maps Go.Deep Fl Ieee
set_option maxRecDepth 20000
def zints (l : List Int) : List Value := l.map fun x => .int .i64 x
def intVal : Value → Int
  | .int _ x => x
  | _ => 0
theorem cellsOfI : Try.prog.cellsOf 3 = 1 := by kernel_rfl
theorem open_ints {H : Type} {enc : TypeId × Value → H} {w : World} {base fuel : Nat} {held : Bool} {cs : List Value} {x : DataW H × List MemPlace}
    (h : DataW.trod enc Try.prog w base (fun _ => true) held fuel 67 cs = some x) :
    ∃ (A : Option Addr) (l : List Int) (cap : Nat), cs = [.slice A l.length cap] ∧ l.length ≤ cap ∧ cap ≤ maxLen ∧ (A = none → cap = 0) ∧ Reads w w.heap.size A (zints l) ∧ ∀ x ∈ l, (Lit.int .i64 x).wf = true := by
  rcases Go.Deep.open_slice1 Try.underlying67 cellsOfI h with ⟨rfl, _⟩ | ⟨a, len, cap, m, n, V, D, Pl, rfl, hb, hl, hm, hmm, hx, hall⟩
  · exact ⟨none, [], 0, rfl, Nat.le_refl _, Nat.zero_le _, fun _ => rfl, fun h => absurd h (by simp [zints]), by simp⟩
  · have hmc : m = cap := by simpa using hmm
    have each : ∀ i, i < len → V i = .int .i64 (intVal (V i)) ∧ (Lit.int .i64 (intVal (V i))).wf = true ∧ w.cell? (a.add i) = some (V i) := by
      intro i hi
      obtain ⟨c0, t0⟩ := hall i (by omega)
      obtain ⟨x0, e0, _, w0⟩ := DataW.trod_int Try.underlying3 t0
      simp at e0
      refine ⟨?_, ?_, c0⟩
      · rw [e0]; rfl
      · rw [e0]; exact w0
    have hlen : ((List.range len).map fun i => intVal (V i)).length = len := by simp
    refine ⟨some a, (List.range len).map fun i => intVal (V i), cap, by rw [hlen], by rw [hlen]; exact hl, hm, (fun h => by cases h), ?_, ?_⟩
    · intro hpos
      have h0 : 0 < len := by simpa [zints] using hpos
      have hlt : a.block < w.heap.size := by
        have := block_lt_of_cell (each 0 h0).2.2
        rwa [block_of_add] at this
      refine ⟨a, rfl, hlt, fun j u hju => ?_⟩
      have hj : j < len := by
        rcases Nat.lt_or_ge j len with h | h
        · exact h
        · rw [List.getElem?_eq_none (by simpa [zints] using h)] at hju; cases hju
      obtain ⟨e0, _, c0⟩ := each j hj
      unfold zints at hju
      rw [List.getElem?_map, List.getElem?_map, List.getElem?_range hj] at hju
      rw [c0, e0]
      simpa using hju
    · intro z hz
      obtain ⟨i, hi, rfl⟩ := List.mem_map.1 hz
      exact (each i (List.mem_range.1 hi)).2.1
theorem open_ints_arg {H : Type} {enc : TypeId × Value → H} {w : World} {r : Reach} {b0 base : Nat} {held : Bool} {v : Value} {d : DataW H} {p : List MemPlace}
    (hv : Value.okWide Try.prog w r b0 67 v) (h : DataW.Trod enc Try.prog w base (fun _ => true) held 67 v d p) :
    ∃ (A : Option Addr) (l : List Int) (cap : Nat), v = .slice A l.length cap ∧ l.length ≤ cap ∧ cap ≤ maxLen ∧ (A = none → cap = 0) ∧ Reads w w.heap.size A (zints l) ∧ ∀ x ∈ l, (Lit.int .i64 x).wf = true := by
  obtain ⟨a, n, c, rfl⟩ := Go.WideShapes.okWide_slice Try.underlying67 hv
  obtain ⟨fuel, hf⟩ := h
  obtain ⟨A, l, cap, e, q1, q2, q3, q4, q5⟩ := open_ints hf
  have e2 : Value.slice a n c = .slice A l.length cap := by simpa [Value.cells] using e
  exact ⟨A, l, cap, e2, q1, q2, q3, q4, q5⟩
end Go.Proofs.Ytandllekeimpgaa
