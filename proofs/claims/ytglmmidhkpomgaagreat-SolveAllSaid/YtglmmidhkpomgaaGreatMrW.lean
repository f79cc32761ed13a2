/- Layer 10: SolveMirrors: the walk. -/
import Derived.Test.YtglmmidhkpomgaaGreatT19
namespace Go.Proofs.YtglmmidhkpomgaaGreat
open Go.RowKit Fl Ieee
set_option maxRecDepth 20000
attribute [local go_sem] run_store_float run_store_complex Fl.order_self Fl.order_self' Fl.order_eq Fl.order_ne Fl.order_lt Fl.order_gt Fl.fle_fold Fl.fge_fold
/-- Eliminations, rows and lists that are kept while the world grows. -/
structure Km (w W : World) (es : List (Nat × Nat × Nat × El)) (rs : List (Nat × Obj)) (ls : List (Option Addr × List Value)) : Prop where
  bel : Below w.heap.size w W
  e : ∀ t ∈ es, Has9 W t.1 t.2.1 t.2.2.1 t.2.2.2
  r : ∀ t ∈ rs, W.heap[t.1]? = some t.2
  l : ∀ t ∈ ls, Reads W W.heap.size t.1 t.2
namespace Km
variable {w W V : World} {es : List (Nat × Nat × Nat × El)} {rs : List (Nat × Obj)} {ls : List (Option Addr × List Value)}
theorem below (h : Km w W es rs ls) (hb : Below W.heap.size W V) : Km w V es rs ls :=
  ⟨h.bel.trans (hb.mono h.bel.size), fun t ht => (h.e t ht).below hb, fun t ht => row_keep hb (h.r t ht), fun t ht => ((h.l t ht).below hb).more hb.size⟩
theorem new (h : Km w W es rs ls) (o : Obj) : Km w (W.alloc o) es rs ls := h.below (below_new W o)
theorem add {B b n : Nat} {S : El} (h : Km w W es rs ls) (h9 : Has9 W B b n S) : Km w W ((B, b, n, S) :: es) rs ls := ⟨h.bel, fun t ht => by
  rcases List.mem_cons.1 ht with rfl | ht
  · exact h9
  · exact h.e t ht, h.r, h.l⟩
theorem addR {b : Nat} {o : Obj} (h : Km w W es rs ls) (hr : W.heap[b]? = some o) : Km w W es ((b, o) :: rs) ls := ⟨h.bel, h.e, fun t ht => by
  rcases List.mem_cons.1 ht with rfl | ht
  · exact hr
  · exact h.r t ht, h.l⟩
theorem addL {A : Option Addr} {xs : List Value} (h : Km w W es rs ls) (hr : Reads W W.heap.size A xs) : Km w W es rs ((A, xs) :: ls) := ⟨h.bel, h.e, h.r, fun t ht => by
  rcases List.mem_cons.1 ht with rfl | ht
  · exact hr
  · exact h.l t ht⟩
theorem get {B b n : Nat} {S : El} (h : Km w W es rs ls) (i : Nat) (hi : es[i]? = some (B, b, n, S)) : Has9 W B b n S := h.e _ (List.mem_of_getElem? hi)
theorem row {b : Nat} {o : Obj} (h : Km w W es rs ls) (i : Nat) (hi : rs[i]? = some (b, o)) : W.heap[b]? = some o := h.r _ (List.mem_of_getElem? hi)
theorem rd {A : Option Addr} {xs : List Value} (h : Km w W es rs ls) (i : Nat) (hi : ls[i]? = some (A, xs)) : Reads W W.heap.size A xs := h.l _ (List.mem_of_getElem? hi)
theorem fault {b : Nat} {x y : Value} (h : Km w W es rs ls) (i : Nat) (hi : rs[i]? = some (b, .cells #[x, y] 53)) : W.cell? ⟨b, 0, none⟩ = some x ∧ W.cell? ⟨b, 1, none⟩ = some y :=
  ⟨by rw [cell_of_row W b 0 _ _ _ (h.row i hi)]; rfl, by rw [cell_of_row W b 1 _ _ _ (h.row i hi)]; rfl⟩
end Km
theorem sol_own {er : Int} {l : List C} {w w' : World} {e : Ending} (h : RetSol er l w e w') : ∃ A c, e = .returned (.tuple #[.slice A l.length c, .int .i64 er]) ∧ Reads w' w'.heap.size A (nums l) ∧ Below w.heap.size w w' := by
  obtain ⟨s, rfl, hown, hb⟩ := h
  obtain ⟨A, c, rfl, hrd, -, -⟩ := own_reads hown
  exact ⟨A, c, rfl, hrd, hb⟩
end Go.Proofs.YtglmmidhkpomgaaGreat
