/- A law's arguments: matrices, lists of numbers; read again behind the call. -/
import Derived.Test.YtandllekeimpgaaGreatMX1
import Derived.ReadAgain
import Derived.Deep.SlicePairs
import Derived.Lib.SmallJoins
import Derived.Deep.Slices
namespace Go.Proofs.YtandllekeimpgaaGreat
open Go.RowKit Go.WideElems Go.Maps Go.Deep Fl Ieee
set_option maxRecDepth 20000
section
variable {H : Type} {enc : TypeId × Value → H} {P : Program}
theorem trodAll_carry {w w' : World} {base : Nat} {spare : Nat → Bool} {held : Bool} : ∀ {ts : List TypeId} {vs : List Value} {ds : List (DataW H)} {ps : List MemPlace},
    DataW.TrodAll enc P w base spare held ts vs ds ps → (∀ p ∈ ps, w.sameAt w' p) → DataW.TrodAll enc P w' base spare held ts vs ds ps
  | [], [], [], _, h, _ => h
  | _ :: _, _ :: _, _ :: _, _, ⟨p, q, ⟨n, h1⟩, h2, e⟩, hs =>
    ⟨p, q, ⟨n, DataW.trod_carry n _ _ _ h1 (fun x hx => hs x (by rw [e]; exact List.mem_append_left _ hx))⟩, trodAll_carry h2 (fun x hx => hs x (by rw [e]; exact List.mem_append_right _ hx)), e⟩
/-- Read again in a world that has grown, any spare places. -/
theorem trodAll_move {T : TypeId → Prop} {w w' : World} {sp : Nat → Bool} {ts : List TypeId} {vs : List Value} {ds : List (DataW H)} {ps : List MemPlace} (K : Kids P T) (hz : ∀ t e, T t → P.underlying t = some (.slice e) → 0 < P.cellsOf e)
    (hT : ∀ t ∈ ts, T t) (h : DataW.TrodAll enc P w 0 (fun _ => true) true ts vs ds ps) (hb : Below w.heap.size w w') (hs : ∀ p ∈ ps, sp p.block = true) : DataW.TrodAll enc P w' 0 sp true ts vs ds ps :=
  trodAll_carry (h.respare K hz hT hs) fun p hp => by
    have hlt := h.lt p hp
    cases p with
    | cell b off => exact hb.cell (p := ⟨b, off, none⟩) hlt
    | map b => exact hb.block b hlt
end
theorem kidsP : Kids Tryz.prog (· < Tryz.prog.types.size) := kids_rows (by kernel_rfl) (by kernel_rfl)
theorem slicesP : ∀ t e, t < Tryz.prog.types.size → Tryz.prog.underlying t = some (.slice e) → 0 < Tryz.prog.cellsOf e := slices_full_of Tryz.prog (by kernel_rfl)
theorem zcells_get (l : List C) (j : Nat) : (zcells l)[j]? = (l[j / 2]?).map fun z => Value.int .u64 ((if j % 2 = 0 then z.1 else z.2 : Nat) : Int) := by
  induction l generalizing j with
  | nil => simp [zcells]
  | cons a t ih =>
    have e : zcells (a :: t) = .int .u64 (a.1 : Nat) :: .int .u64 (a.2 : Nat) :: zcells t := rfl
    rw [e]
    match j with
    | 0 => simp
    | 1 => simp
    | j + 2 =>
      have h1 : (j + 2) / 2 = j / 2 + 1 := by omega
      have h2 : (j + 2) % 2 = j % 2 := by omega
      rw [h1, h2]
      simpa using ih j
theorem zcells_length (l : List C) : (zcells l).length = 2 * l.length := by
  induction l with
  | nil => rfl
  | cons a t ih =>
    have e : zcells (a :: t) = .int .u64 (a.1 : Nat) :: .int .u64 (a.2 : Nat) :: zcells t := rfl
    rw [e]; simp [ih]; omega
def numOf : Value → Nat
  | .int _ x => x.toNat
  | _ => 0
theorem cellsOfZ : Tryz.prog.cellsOf 66 = 2 := by kernel_rfl
theorem cellsOfU : Tryz.prog.cellsOf 64 = 1 := by kernel_rfl
/-- A list of numbers by their bits. -/
theorem open_zs {H : Type} {enc : TypeId × Value → H} {w : World} {base fuel : Nat} {held : Bool} {cs : List Value} {x : DataW H × List MemPlace}
    (h : DataW.trod enc Tryz.prog w base (fun _ => true) held fuel 22 cs = some x) :
    ∃ (A : Option Addr) (l : List C) (cap : Nat), cs = [.slice A l.length cap] ∧ l.length ≤ cap ∧ cap ≤ maxLen ∧ (A = none → cap = 0) ∧ Reads w w.heap.size A (zcells l) ∧ ltCs l := by
  rcases Go.Deep.open_slice_pairs Tryz.underlying22 Tryz.underlying66 cellsOfZ rfl rfl cellsOfU cellsOfU h with ⟨rfl, _⟩ | ⟨a, len, cap, m, n, V0, V1, D0, D1, P0, P1, rfl, hb, hl, hm, hmm, hx, hall⟩
  · exact ⟨none, [], 0, rfl, Nat.le_refl _, Nat.zero_le _, fun _ => rfl, fun h => absurd h (by simp [zcells]), by simp [ltCs]⟩
  · have hmc : m = cap := by simpa using hmm
    have each : ∀ i, i < len → V0 i = .int .u64 ((numOf (V0 i) : Nat) : Int) ∧ V1 i = .int .u64 ((numOf (V1 i) : Nat) : Int) ∧ numOf (V0 i) < 18446744073709551616 ∧ numOf (V1 i) < 18446744073709551616 ∧ w.cell? (a.add (i * 2)) = some (V0 i) ∧ w.cell? (a.add (i * 2 + 1)) = some (V1 i) := by
      intro i hi
      obtain ⟨c0, c1, t0, t1⟩ := hall i (by omega)
      obtain ⟨x0, e0, _, w0⟩ := DataW.trod_int Tryz.underlying64 t0
      obtain ⟨x1, e1, _, w1⟩ := DataW.trod_int Tryz.underlying64 t1
      simp at e0 e1
      obtain ⟨n0, rfl, b0⟩ := wf_nat_u64 w0
      obtain ⟨n1, rfl, b1⟩ := wf_nat_u64 w1
      refine ⟨?_, ?_, ?_, ?_, c0, c1⟩
      · rw [e0]; rfl
      · rw [e1]; rfl
      · rw [e0]; exact b0
      · rw [e1]; exact b1
    have hlen : ((List.range len).map fun i => ((numOf (V0 i), numOf (V1 i)) : C)).length = len := by simp
    refine ⟨some a, (List.range len).map fun i => (numOf (V0 i), numOf (V1 i)), cap, by rw [hlen], by rw [hlen]; exact hl, hm, (fun h => by cases h), ?_, ?_⟩
    · intro hpos
      rw [zcells_length, hlen] at hpos
      have h0 : 0 < len := by omega
      have hlt : a.block < w.heap.size := by
        have := block_lt_of_cell (each 0 h0).2.2.2.2.1
        rwa [block_of_add] at this
      refine ⟨a, rfl, hlt, fun j u hju => ?_⟩
      rw [zcells_get] at hju
      have hj : j / 2 < len := by
        rcases Nat.lt_or_ge (j / 2) len with h | h
        · exact h
        · rw [List.getElem?_eq_none (by rw [hlen]; exact h)] at hju; cases hju
      obtain ⟨e0, e1, _, _, c0, c1⟩ := each (j / 2) hj
      rw [List.getElem?_map, List.getElem?_range hj] at hju
      rcases Nat.mod_two_eq_zero_or_one j with h | h
      · have e : j / 2 * 2 = j := by omega
        rw [e] at c0
        rw [c0, e0]
        simp only [h] at hju
        simpa using hju
      · have e : j / 2 * 2 + 1 = j := by omega
        rw [e] at c1
        rw [c1, e1]
        simp only [h] at hju
        simpa using hju
    · intro z hz
      obtain ⟨i, hi, rfl⟩ := List.mem_map.1 hz
      have := each i (List.mem_range.1 hi)
      exact ⟨this.2.2.1, this.2.2.2.1⟩
end Go.Proofs.YtandllekeimpgaaGreat
namespace Go.Proofs.YtandllekeimpgaaGreat
open Go.RowKit Go.WideElems Go.Maps Go.Deep Fl Ieee
set_option maxRecDepth 20000
/-- What the datum of a list of numbers looks like. -/
def ZsDatum {H : Type} (n : Nat) (z : DataW H) : Prop := n = 0 ∨ ∃ (D0 D1 : Nat → DataW H) (sp : List (DataW H)), z = .slice ((List.range n).map fun i => .agg [D0 i, D1 i]) sp
theorem zs_datum {H : Type} {enc : TypeId × Value → H} {w : World} {base fuel n cap : Nat} {A : Option Addr} {held : Bool} {x : DataW H × List MemPlace}
    (h : DataW.trod enc Tryz.prog w base (fun _ => true) held fuel 22 [.slice A n cap] = some x) : ZsDatum n x.1 := by
  rcases Go.Deep.open_slice_pairs Tryz.underlying22 Tryz.underlying66 cellsOfZ rfl rfl cellsOfU cellsOfU h with ⟨e, _⟩ | ⟨a, len, cap', m, k, V0, V1, D0, D1, P0, P1, e, hb, hl, hm, hmm, hx, hall⟩
  · simp at e
    exact .inl e.2.1
  · simp at e
    obtain ⟨-, rfl, -⟩ := e
    exact .inr ⟨D0, D1, _, by rw [hx]⟩
end Go.Proofs.YtandllekeimpgaaGreat
namespace Go.Proofs.YtandllekeimpgaaGreat
open Go.RowKit Fl Ieee
set_option maxRecDepth 20000
attribute [local go_sem] run_store_float run_store_complex
end Go.Proofs.YtandllekeimpgaaGreat
namespace Go.Proofs.YtandllekeimpgaaGreat
open Go.RowKit Fl Ieee
set_option maxRecDepth 20000
attribute [local go_sem] run_store_float run_store_complex
end Go.Proofs.YtandllekeimpgaaGreat
namespace Go.Proofs.YtandllekeimpgaaGreat
open Go.RowKit Go.WideElems Go.Maps Go.Deep Fl Ieee
set_option maxRecDepth 20000
end Go.Proofs.YtandllekeimpgaaGreat
namespace Go.Proofs.YtandllekeimpgaaGreat
open Go.RowKit Go.WideElems Go.Maps Go.Deep Fl Ieee
set_option maxRecDepth 20000
end Go.Proofs.YtandllekeimpgaaGreat
