/- Layer 11: lists of pairs of whole numbers: handed in; one of them; small parts. -/
import Derived.Test.YtandllekeimpgaaArg
import Derived.Test.YtandllekeimpgaaRwP
import Derived.Test.YtandllekeimpgaaMX1
import Derived.Deep.SlicePairs
import Derived.OpenShut
import Derived.Deep.DeepCutAuto
import Derived.Deep.RegionHeld3
namespace Go.Proofs.Ytandllekeimpgaa
open Go.RowKit Go.WideElems Go.Maps Go.Deep Fl Ieee
set_option maxRecDepth 20000
theorem open_slice_arr2 {H : Type} {enc : TypeId × Value → H} {P : Program} {w : World} {base : Nat} {spare : Nat → Bool} {held : Bool} {t e f : TypeId} {fuel : Nat} {cs : List Value} {x : DataW H × List MemPlace} (ht : P.underlying t = some (.slice e)) (he : P.underlying e = some (.array 2 f))
    (ce : P.cellsOf e = 2) (cf : P.cellsOf f = 1) (h : DataW.trod enc P w base spare held fuel t cs = some x) :
    (cs = [.slice none 0 0] ∧ x = (.nil, [])) ∨
    ∃ (a : Addr) (len cap m n : Nat), cs = [.slice (some a) len cap] ∧ base ≤ a.block ∧ len ≤ cap ∧ cap ≤ maxLen ∧ m = (if spare a.block then cap else len) ∧
      ∀ i, i < m → ∃ (v0 v1 : Value) (y0 y1 : DataW H × List MemPlace), w.cell? (a.add (i * 2)) = some v0 ∧ w.cell? (a.add (i * 2 + 1)) = some v1 ∧
        DataW.trod enc P w base spare held n f [v0] = some y0 ∧ DataW.trod enc P w base spare held n f [v1] = some y1 := by
  rcases open_slice ht h with h0 | ⟨a, len, cap, m, n, D, Pl, rfl, hb, hl, hm, hmm, rfl, hx⟩
  · exact Or.inl h0
  right
  refine ⟨a, len, cap, m, n - 1, rfl, hb, hl, hm, hmm, fun i hi => ?_⟩
  obtain ⟨cs', h1, h2⟩ := hx i hi
  rw [ce] at h1
  obtain ⟨_, hlen, hcell⟩ := World.cells?_some h1
  obtain ⟨xs, k, hk, hxy, _, hxl, hf⟩ := DataW.trod_array he h2
  have hk' : k = n - 1 := by omega
  subst hk'
  match xs, hxl, cs', hlen with
  | [y0, y1], _, [v0, v1], _ =>
    have g0 := hf 0 (by decide)
    have g1 := hf 1 (by decide)
    simp [cf] at g0 g1
    have e0 := hcell 0 (by omega)
    have e1 := hcell 1 (by omega)
    rw [add_add] at e0 e1
    exact ⟨v0, v1, y0, y1, by simpa using e0, by simpa using e1, g0, g1⟩
/-- The cells of a list of pairs. -/
def pcells (l : List (Int × Int)) : List Value := l.flatMap fun p => [.int .i32 p.1, .int .i32 p.2]
theorem pcells_at : ∀ {l : List (Int × Int)} {i : Nat} {p : Int × Int}, l[i]? = some p → (pcells l)[i * 2]? = some (.int .i32 p.1) ∧ (pcells l)[i * 2 + 1]? = some (.int .i32 p.2)
  | [], i, p, h => by simp at h
  | q :: l, 0, p, h => by
    have e : q = p := by simpa using h
    subst e; exact ⟨rfl, rfl⟩
  | q :: l, i + 1, p, h => by
    have h1 : l[i]? = some p := by simpa using h
    obtain ⟨h2, h3⟩ := pcells_at h1
    have e : (i + 1) * 2 = i * 2 + 1 + 1 := by omega
    rw [e]
    exact ⟨h2, h3⟩
/-- A list of pairs, as it lies. -/
def RdP (w : World) (B : Nat) (A : Option Addr) (l : List (Int × Int)) : Prop := ∀ i p, l[i]? = some p → ∃ ad, A = some ad ∧ ad.block < B ∧ w.cell? (ad.add (i * 2)) = some (.int .i32 p.1) ∧ w.cell? (ad.add (i * 2 + 1)) = some (.int .i32 p.2)
def wfs (l : List (Int × Int)) : Prop := ∀ p ∈ l, (Lit.int .i32 p.1).wf = true ∧ (Lit.int .i32 p.2).wf = true
def valI : Value → Int
  | .int _ x => x
  | _ => 0
theorem cellsOfP : Try.prog.cellsOf 43 = 2 := by kernel_rfl
theorem cellsOfJ : Try.prog.cellsOf 21 = 1 := by kernel_rfl
theorem open_ps_arg {H : Type} {enc : TypeId × Value → H} {w : World} {r : Reach} {b0 base : Nat} {held : Bool} {v : Value} {d : DataW H} {p : List MemPlace}
    (hv : Value.okWide Try.prog w r b0 42 v) (h : DataW.Trod enc Try.prog w base (fun _ => true) held 42 v d p) :
    ∃ (A : Option Addr) (l : List (Int × Int)) (cap : Nat), v = .slice A l.length cap ∧ l.length ≤ maxLen ∧ RdP w w.heap.size A l ∧ wfs l := by
  obtain ⟨a, n, c, rfl⟩ := Go.WideShapes.okWide_slice Try.underlying42 hv
  obtain ⟨fuel, hf⟩ := h
  rcases open_slice_arr2 Try.underlying42 Try.underlying43 cellsOfP cellsOfJ hf with ⟨e, _⟩ | ⟨a', len, cap, m, k, e, hb, hl, hm, hmm, hx⟩
  · have e2 : Value.slice a n c = .slice none 0 0 := by simpa [Value.cells] using e
    rw [e2]
    exact ⟨none, [], 0, rfl, Nat.zero_le _, fun i p h => (by simp at h), fun p hp => (by cases hp)⟩
  · have e2 : Value.slice a n c = .slice (some a') len cap := by simpa [Value.cells] using e
    rw [e2]
    have each : ∀ i, i < len → ∃ q : Int × Int, w.cell? (a'.add (i * 2)) = some (.int .i32 q.1) ∧ w.cell? (a'.add (i * 2 + 1)) = some (.int .i32 q.2) ∧ (Lit.int .i32 q.1).wf = true ∧ (Lit.int .i32 q.2).wf = true := by
      intro i hi
      obtain ⟨v0, v1, y0, y1, c0, c1, t0, t1⟩ := hx i (by have : m = cap := by simpa using hmm
                                                          omega)
      obtain ⟨x0, e0, _, w0⟩ := DataW.trod_int Try.underlying21 t0
      obtain ⟨x1, e1, _, w1⟩ := DataW.trod_int Try.underlying21 t1
      simp at e0 e1
      subst e0 e1
      exact ⟨(x0, x1), c0, c1, w0, w1⟩
    obtain ⟨q, hq⟩ := choose_lt each
    have hlen : ((List.range len).map q).length = len := by simp
    refine ⟨some a', (List.range len).map q, cap, by rw [hlen], by rw [hlen]; omega, fun i p hp => ?_, fun p hp => ?_⟩
    · have hi : i < len := by have := lt_of_some hp; rwa [hlen] at this
      rw [List.getElem?_map, List.getElem?_range hi] at hp
      have ep : q i = p := by simpa using hp
      subst ep
      obtain ⟨c0, c1, -, -⟩ := hq i hi
      refine ⟨a', rfl, ?_, c0, c1⟩
      have := block_lt_of_cell c0
      rwa [block_of_add] at this
    · obtain ⟨i, hi, rfl⟩ := List.mem_map.1 hp
      exact ⟨(hq i (List.mem_range.1 hi)).2.2.1, (hq i (List.mem_range.1 hi)).2.2.2⟩
theorem RdP.below {w V : World} {A : Option Addr} {l : List (Int × Int)} (h : RdP w w.heap.size A l) (hb : Below w.heap.size w V) : RdP V V.heap.size A l := fun i p hp => by
  obtain ⟨ad, e, hlt, c0, c1⟩ := h i p hp
  have hbk : ∀ j, (ad.add j).block < w.heap.size := fun j => by rw [block_of_add]; exact hlt
  exact ⟨ad, e, Nat.lt_of_lt_of_le hlt hb.size, (hb.cell (hbk _)).trans c0, (hb.cell (hbk _)).trans c1⟩
attribute [local go_sem] run_store_float run_store_complex
def pAt (l : List (Int × Int)) (i : Nat) : Int × Int := l.getD i (0, 0)
theorem at11_c (A : Option Addr) (l : List (Int × Int)) (cap i : Nat) (w : World) (h : RdP w w.heap.size A l) :
    Calls Try.prog 18 #[.slice A l.length cap, .int .i64 (i : Nat)] w (RetV (.agg #[.int .i32 (pAt l i).1, .int .i32 (pAt l i).2]) w) := by
  by_cases hi : i < l.length
  · obtain ⟨p, hp⟩ := some_of_lt (l := l) (k := i) hi
    have ep : pAt l i = p := by unfold pAt; rw [List.getD_eq_getElem?_getD, hp]; rfl
    obtain ⟨ad, rfl, hlt, c0, c1⟩ := h i p hp
    have hi' : (i : Int) < l.length := by omega
    rw [ep]
    have HB := Lib.hid (below_new w (.cells #[.int .i32 0, .int .i32 0] 43))
    have hbk : ∀ j, (ad.add j).block < w.heap.size := fun j => by rw [block_of_add]; exact hlt
    have d0 := (HB.out.cell (hbk (i * 2))).trans c0
    have d1 := (HB.out.cell (hbk (i * 2 + 1))).trans c1
    have d1' : (w.alloc (.cells #[.int .i32 0, .int .i32 0] 43)).cell? ⟨(ad.add (i * 2)).block, (ad.add (i * 2)).off + 1, none⟩ = some (.int .i32 p.2) := by
      have e : (ad.add (i * 2)).add 1 = ⟨(ad.add (i * 2)).block, (ad.add (i * 2)).off + 1, none⟩ := rfl
      rw [← e, add_add]; exact d1
    clear h hp ep hi hlt hbk
    go_enter Try.func18, Try.ntmps18
    go_wp2
    have HN := Lib.hid (below_new w (.cells #[.int .i32 p.1, .int .i32 p.2] 43))
    have q0 : (w.alloc (.cells #[.int .i32 p.1, .int .i32 p.2] 43)).cell? ⟨w.heap.size, 0, none⟩ = some (.int .i32 p.1) := by rw [cell_of_row _ _ 0 _ _ _ (heap_alloc_new _ _)]; rfl
    have q1 : (w.alloc (.cells #[.int .i32 p.1, .int .i32 p.2] 43)).cell? ⟨w.heap.size, 1, none⟩ = some (.int .i32 p.2) := by rw [cell_of_row _ _ 1 _ _ _ (heap_alloc_new _ _)]; rfl
    refine bodyPost_ret (v := .agg #[.int .i32 p.1, .int .i32 p.2]) (by simp [results, Try.results18, go_sem, q0, q1]) rfl ?_
    exact ⟨rfl, HN.out⟩
  · have ep : pAt l i = (0, 0) := by unfold pAt; rw [List.getD_eq_getElem?_getD, List.getElem?_eq_none (by omega)]; rfl
    have hi' : ¬ (i : Int) < l.length := by omega
    rw [ep]
    have HB := Lib.hid (below_new w (.cells #[.int .i32 0, .int .i32 0] 43))
    clear h ep hi
    go_enter Try.func18, Try.ntmps18
    go_wp2
    have q0 : (w.alloc (.cells #[.int .i32 0, .int .i32 0] 43)).cell? ⟨w.heap.size, 0, none⟩ = some (.int .i32 0) := by rw [cell_of_row _ _ 0 _ _ _ (heap_alloc_new _ _)]; rfl
    have q1 : (w.alloc (.cells #[.int .i32 0, .int .i32 0] 43)).cell? ⟨w.heap.size, 1, none⟩ = some (.int .i32 0) := by rw [cell_of_row _ _ 1 _ _ _ (heap_alloc_new _ _)]; rfl
    refine bodyPost_ret (v := .agg #[.int .i32 0, .int .i32 0]) (by simp [results, Try.results18, go_sem, q0, q1]) rfl ?_
    exact ⟨rfl, HB.out⟩
theorem small_c (a b : Int) (w : World) :
    Calls Try.prog 19 #[.agg #[.int .i32 a, .int .i32 b], .int .i32 1048576] w (RetV (.complex .f64 (FloatKind.f64.nearest (a.tmod 1048576)) (FloatKind.f64.nearest (b.tmod 1048576))) w) := by
  have HB := Lib.hid (below_new w (.cells #[.int .i32 a, .int .i32 b] 43))
  have q0 : (w.alloc (.cells #[.int .i32 a, .int .i32 b] 43)).cell? ⟨w.heap.size, 0, none⟩ = some (.int .i32 a) := by rw [cell_of_row _ _ 0 _ _ _ (heap_alloc_new _ _)]; rfl
  have q1 : (w.alloc (.cells #[.int .i32 a, .int .i32 b] 43)).cell? ⟨w.heap.size, 1, none⟩ = some (.int .i32 b) := by rw [cell_of_row _ _ 1 _ _ _ (heap_alloc_new _ _)]; rfl
  have HQ := Lib.hid (And.intro q0 q1)
  go_enter Try.func19, Try.ntmps19
  go_upto_region 1 with fail
  go_region_held3 (fun V => V.cell? ⟨w.heap.size, 0, none⟩ = some (.int .i32 a) ∧ V.cell? ⟨w.heap.size, 1, none⟩ = some (.int .i32 b))
    (first | (exact HQ.out) | (exact hHeld)) (first | fail)
  all_goals
    go_wp2
    go_ret
    exact ⟨rfl, HB.out.drew⟩
end Go.Proofs.Ytandllekeimpgaa
