/- Layer 10, SolveNone: what is nil, or nobody eliminated. -/
import Derived.Test.YtglmmidhkpomgaaGreatT12
namespace Go.Proofs.YtglmmidhkpomgaaGreat
open Go.RowKit Fl Ieee
set_option maxRecDepth 20000
attribute [local go_sem] run_store_float run_store_complex Fl.order_self Fl.order_self' Fl.order_eq Fl.order_ne Fl.order_lt Fl.order_gt
theorem open_no {v : Value} (W : World) (h : NoneV W v) : Calls Tryz.prog 29 #[v] W fun e w' => e = .returned (.tuple #[.agg #[.int .i64 0, .slice none 0 0, .slice none 0 0, .slice none 0 0], .bool false]) ∧ Below W.heap.size W w' := by
  have hz : ∀ o, NoneV (W.alloc o) v := fun o => h.below (below_new W o)
  have HS := Lib.hid (fun (V : World) (hV : NoneV V v) => Sign_no V hV)
  have HZ := Lib.hid hz
  have HV := Lib.hid h
  clear hz
  rcases h with rfl | ⟨b, rfl, h2, h3⟩
  · go_enter Tryz.func29, Tryz.ntmps29
    go_wp2
    refine bodyPost_ret (v := .tuple #[.agg #[.int .i64 0, .slice none 0 0, .slice none 0 0, .slice none 0 0], .bool false]) (by simp [results, Tryz.results29, go_sem]) rfl ?_
    exact ⟨rfl, below_new _ _⟩
  · go_enter Tryz.func29, Tryz.ntmps29
    go_wp2_with fail
    refine (HS.out _ (HZ.out _)).mono ?_
    rintro e w' ⟨rfl, rfl⟩
    go_wp2
    refine bodyPost_ret (v := .tuple #[.agg #[.int .i64 0, .slice none 0 0, .slice none 0 0, .slice none 0 0], .bool false]) (by simp [results, Tryz.results29, go_sem]) rfl ?_
    exact ⟨rfl, below_new _ _⟩
theorem Solve_no {v s : Value} (W : World) (h : NoneV W v) : Calls Tryz.prog 24 #[v, s] W fun e w' => e = .returned (.tuple #[.slice none 0 0, .int .i64 1]) ∧ Below W.heap.size W w' := by
  have HO := Lib.hid (open_no W h)
  clear h
  go_enter Tryz.func24, Tryz.ntmps24
  go_wp2_with fail
  refine HO.out.mono ?_
  rintro e w' ⟨rfl, hb⟩
  have HB := Lib.hid (hb.new (Nat.le_refl _) (.cells #[.int .i64 0, .slice none 0 0, .slice none 0 0, .slice none 0 0] 69))
  clear hb
  go_wp2
  go_ret2
  exact ⟨rfl, HB.out⟩
theorem Trans_no {v s : Value} (W : World) (h : NoneV W v) : Calls Tryz.prog 25 #[v, s] W fun e w' => e = .returned (.tuple #[.slice none 0 0, .int .i64 1]) ∧ Below W.heap.size W w' := by
  have HO := Lib.hid (open_no W h)
  clear h
  go_enter Tryz.func25, Tryz.ntmps25
  go_wp2_with fail
  refine HO.out.mono ?_
  rintro e w' ⟨rfl, hb⟩
  have HB := Lib.hid (hb.new (Nat.le_refl _) (.cells #[.int .i64 0, .slice none 0 0, .slice none 0 0, .slice none 0 0] 69))
  clear hb
  go_wp2
  go_ret2
  exact ⟨rfl, HB.out⟩
theorem Det_no {v : Value} (W : World) (h : NoneV W v) : Calls Tryz.prog 12 #[v] W fun e w' => e = .returned (.tuple #[.complex .f64 0 0, .int .i64 0, .int .i64 1]) ∧ Below W.heap.size W w' := by
  have HO := Lib.hid (open_no W h)
  clear h
  go_enter Tryz.func12, Tryz.ntmps12
  go_wp2_with fail
  refine HO.out.mono ?_
  rintro e w' ⟨rfl, hb⟩
  have HB := Lib.hid (hb.new (Nat.le_refl _) (.cells #[.int .i64 0, .slice none 0 0, .slice none 0 0, .slice none 0 0] 69))
  clear hb
  go_wp2
  go_ret3
  exact ⟨rfl, HB.out⟩
theorem set3b {w : World} {b : Nat} {x0 x1 x2 u v s : Value} {T : TypeId} (h : w.heap[b]? = some (.cells #[x0, x1, x2] T)) :
    (((w.setCell ⟨b, 0, none⟩ u).setCell ⟨b, 1, none⟩ v).setCell ⟨b, 2, none⟩ s).heap[b]? = some (.cells #[u, v, s] T) := by
  have h1 := heap_setCell_same w b 0 _ T u h
  have h2 := heap_setCell_same _ b 1 _ T v h1
  have h3 := heap_setCell_same _ b 2 _ T s h2
  rw [h3]; rfl
theorem Many_no {v : Value} {a c : Int} {A : Option Addr} {n k : Nat} (W : World) (h : NoneV W v) : Calls Tryz.prog 8 #[v, mval a c (.slice A n k)] W fun e w' => e = .returned (.tuple #[mval 0 0 (.slice none 0 0), .int .i64 1]) ∧ Below W.heap.size W w' := by
  have hb2 : Below W.heap.size W ((W.alloc (.cells #[.int .i64 a, .int .i64 c, .slice A n k] 33)).alloc (.cells #[.int .i64 0, .int .i64 0, .slice none 0 0] 33)) := (below_new _ _).new (Nat.le_refl _) _
  have HO := Lib.hid (open_no _ (h.below hb2))
  have HB2 := Lib.hid hb2
  have hrow := row_new2 W (.cells #[.int .i64 a, .int .i64 c, .slice A n k] 33) (.cells #[.int .i64 0, .int .i64 0, .slice none 0 0] 33)
  have HR := Lib.hid hrow
  clear h hb2 hrow
  go_enter Tryz.func8, Tryz.ntmps8
  go_wp2_with fail
  refine HO.out.mono ?_
  rintro e w' ⟨rfl, hb⟩
  have HB := Lib.hid (HB2.out.trans (hb.mono HB2.out.size))
  have HRw := Lib.hid (row_keep hb HR.out)
  have hr2 := row_alloc (o' := .cells #[.int .i64 0, .slice none 0 0, .slice none 0 0, .slice none 0 0] 69) HRw.out
  obtain ⟨c0, c1, c2, fr⟩ := box3 hr2
  have f0 := fr 0
  have f1 := fr 1
  have f2 := fr 2
  obtain ⟨q0, q1, q2, -⟩ := box3 (set3b (u := .int .i64 0) (v := .int .i64 0) (s := .slice none 0 0) hr2)
  have HB3 := Lib.hid ((HB.out.new (Nat.le_refl _) (.cells #[.int .i64 0, .slice none 0 0, .slice none 0 0, .slice none 0 0] 69)))
  have HB4 := Lib.hid (show ∀ V, Below W.heap.size W V → Below W.heap.size W (((V.setCell ⟨W.heap.size + 1, 0, none⟩ (.int .i64 0)).setCell ⟨W.heap.size + 1, 1, none⟩ (.int .i64 0)).setCell ⟨W.heap.size + 1, 2, none⟩ (.slice none 0 0)) from fun V h => ((h.setCell (Nat.le_succ _) _).setCell (Nat.le_succ _) _).setCell (Nat.le_succ _) _)
  clear hb fr hr2
  go_wp2
  refine bodyPost_ret (v := .tuple #[mval 0 0 (.slice none 0 0), .int .i64 1]) (by simp [results, Tryz.results8, go_sem, q0, q1, q2]) rfl ?_
  exact ⟨rfl, HB4.out _ HB3.out⟩
end Go.Proofs.YtglmmidhkpomgaaGreat
