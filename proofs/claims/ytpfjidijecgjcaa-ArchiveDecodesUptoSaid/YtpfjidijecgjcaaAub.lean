/- A law's argument: a list of bytes; read again behind the call. -/
import Derived.Test.YtpfjidijecgjcaaExt
import Derived.ReadAgain
import Derived.Deep.SlicePairs
import Derived.Lib.SmallJoins
import Derived.Deep.Slices
namespace Go.Proofs.Ytpfjidijecgjcaa
open Go.RowKit Go.WideElems Go.Maps Go.Deep Fl Ieee
set_option maxRecDepth 20000
section
variable {H : Type} {enc : TypeId × Value → H} {P : Program}
theorem trodAll_carry {w w' : World} {base : Nat} {spare : Nat → Bool} {held : Bool} : ∀ {ts : List TypeId} {vs : List Value} {ds : List (DataW H)} {ps : List MemPlace},
    DataW.TrodAll enc P w base spare held ts vs ds ps → (∀ p ∈ ps, w.sameAt w' p) → DataW.TrodAll enc P w' base spare held ts vs ds ps
  | [], [], [], _, h, _ => h
  | _ :: _, _ :: _, _ :: _, _, ⟨p, q, ⟨n, h1⟩, h2, e⟩, hs =>
    ⟨p, q, ⟨n, DataW.trod_carry n _ _ _ h1 (fun x hx => hs x (by rw [e]; exact List.mem_append_left _ hx))⟩, trodAll_carry h2 (fun x hx => hs x (by rw [e]; exact List.mem_append_right _ hx)), e⟩
/-- Read again in a world that has grown, any spare places. -/
theorem trodAll_move {T : TypeId → Prop} {w w' : World} {sp : Nat → Bool} {ts : List TypeId} {vs : List Value} {ds : List (DataW H)} {ps : List MemPlace} (K : Kids P T) (hz : ∀ t e, T t → P.underlying t = some (.slice e) → 0 < P.cellsOf e)
    (hT : ∀ t ∈ ts, T t) (h : DataW.TrodAll enc P w 0 (fun _ => true) true ts vs ds ps) (hb : Below w.heap.size w w') (hs : ∀ p ∈ ps, sp p.block = true) : DataW.TrodAll enc P w' 0 sp true ts vs ds ps :=
  trodAll_carry (h.respare K hz hT hs) fun p hp => by
    have hlt := h.lt p hp
    cases p with
    | cell b off => exact hb.cell (p := ⟨b, off, none⟩) hlt
    | map b => exact hb.block b hlt
end
theorem kidsP : Kids Try.prog (· < Try.prog.types.size) := kids_rows (by kernel_rfl) (by kernel_rfl)
theorem slicesP : ∀ t e, t < Try.prog.types.size → Try.prog.underlying t = some (.slice e) → 0 < Try.prog.cellsOf e := slices_full_of Try.prog (by kernel_rfl)
def natOf : Value → Nat
  | .int _ x => x.toNat
  | _ => 0
theorem cellsOfB1 : Try.prog.cellsOf 5 = 1 := by kernel_rfl
def BsDatum {H : Type} (n : Nat) (z : DataW H) : Prop := n = 0 ∨ ∃ (D : Nat → DataW H) (sp : List (DataW H)), z = .slice ((List.range n).map D) sp
theorem open_bs {H : Type} {enc : TypeId × Value → H} {w : World} {base fuel : Nat} {held : Bool} {cs : List Value} {x : DataW H × List MemPlace}
    (h : DataW.trod enc Try.prog w base (fun _ => true) held fuel 22 cs = some x) :
    ∃ (A : Option Addr) (l : List Nat) (cap : Nat), cs = [.slice A l.length cap] ∧ l.length ≤ cap ∧ cap ≤ maxLen ∧ (A = none → cap = 0) ∧ Reads w w.heap.size A (l.map fun x => Value.int .u8 (x : Nat)) ∧ (∀ x ∈ l, x < 256) ∧ BsDatum l.length x.1 := by
  rcases Go.Deep.open_slice1 Try.underlying22 cellsOfB1 h with ⟨rfl, _⟩ | ⟨a, len, cap, m, n, V, D, Pl, rfl, hb, hl, hm, hmm, hx, hall⟩
  · exact ⟨none, [], 0, rfl, Nat.le_refl _, Nat.zero_le _, fun _ => rfl, fun h => absurd h (by simp), by simp, .inl rfl⟩
  · have hmc : m = cap := by simpa using hmm
    have each : ∀ i, i < len → V i = .int .u8 ((natOf (V i) : Nat) : Int) ∧ natOf (V i) < 256 ∧ w.cell? (a.add i) = some (V i) := by
      intro i hi
      obtain ⟨c0, t0⟩ := hall i (by omega)
      obtain ⟨x0, e0, _, w0⟩ := DataW.trod_int Try.underlying5 t0
      simp at e0
      obtain ⟨n0, rfl, b0⟩ := wf_nat_u8 w0
      refine ⟨?_, ?_, c0⟩
      · rw [e0]; rfl
      · rw [e0]; exact b0
    have hlen : ((List.range len).map fun i => natOf (V i)).length = len := by simp
    refine ⟨some a, (List.range len).map fun i => natOf (V i), cap, by rw [hlen], by rw [hlen]; exact hl, hm, (fun h => by cases h), ?_, ?_, .inr ⟨D, _, by rw [hx, hlen]⟩⟩
    · intro hpos
      have h0 : 0 < len := by simpa using hpos
      have hlt : a.block < w.heap.size := by
        have := block_lt_of_cell (each 0 h0).2.2
        rwa [block_of_add] at this
      refine ⟨a, rfl, hlt, fun j u hju => ?_⟩
      have hj : j < len := by
        rcases Nat.lt_or_ge j len with h | h
        · exact h
        · rw [List.getElem?_eq_none (by simpa using h)] at hju; cases hju
      obtain ⟨e0, _, c0⟩ := each j hj
      rw [List.getElem?_map, List.getElem?_map, List.getElem?_range hj] at hju
      rw [c0, e0]
      simpa using hju
    · intro z hz
      obtain ⟨i, hi, rfl⟩ := List.mem_map.1 hz
      exact (each i (List.mem_range.1 hi)).2.1
theorem open_bs_arg {H : Type} {enc : TypeId × Value → H} {w : World} {r : Reach} {b0 base : Nat} {held : Bool} {v : Value} {d : DataW H} {p : List MemPlace}
    (hv : Value.okWide Try.prog w r b0 22 v) (h : DataW.Trod enc Try.prog w base (fun _ => true) held 22 v d p) :
    ∃ (A : Option Addr) (l : List Nat) (cap : Nat), v = .slice A l.length cap ∧ l.length ≤ cap ∧ cap ≤ maxLen ∧ (A = none → cap = 0) ∧ Reads w w.heap.size A (l.map fun x => Value.int .u8 (x : Nat)) ∧ (∀ x ∈ l, x < 256) ∧ BsDatum l.length d := by
  obtain ⟨a, n, c, rfl⟩ := Go.WideShapes.okWide_slice Try.underlying22 hv
  obtain ⟨fuel, hf⟩ := h
  obtain ⟨A, l, cap, e, q1, q2, q3, q4, q5, q6⟩ := open_bs hf
  have e2 : Value.slice a n c = .slice A l.length cap := by simpa [Value.cells] using e
  exact ⟨A, l, cap, e2, q1, q2, q3, q4, q5, q6⟩
end Go.Proofs.Ytpfjidijecgjcaa
