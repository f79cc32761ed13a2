/- Layer 10, SolveNone: what is nil, or nobody eliminated. -/
import Derived.Test.YtglmmidhkpomgaaT12
namespace Go.Proofs.Ytglmmidhkpomgaa
open Go.RowKit Fl Ieee
set_option maxRecDepth 20000
attribute [local go_sem] run_store_float run_store_complex Fl.order_self Fl.order_self' Fl.order_eq Fl.order_ne Fl.order_lt Fl.order_gt
theorem open_no {v : Value} (W : World) (h : NoneV W v) : Calls Try.prog 45 #[v] W fun e w' => e = .returned (.tuple #[.agg #[.int .i64 0, .slice none 0 0, .slice none 0 0, .slice none 0 0], .bool false]) ∧ Below W.heap.size W w' := by
  have hz : ∀ o, NoneV (W.alloc o) v := fun o => h.below (below_new W o)
  have HS := Lib.hid (fun (V : World) (hV : NoneV V v) => Sign_no V hV)
  have HZ := Lib.hid hz
  have HV := Lib.hid h
  clear hz
  rcases h with rfl | ⟨b, rfl, h2, h3⟩
  · go_enter Try.func45, Try.ntmps45
    go_wp2
    refine bodyPost_ret (v := .tuple #[.agg #[.int .i64 0, .slice none 0 0, .slice none 0 0, .slice none 0 0], .bool false]) (by simp [results, Try.results45, go_sem]) rfl ?_
    exact ⟨rfl, below_new _ _⟩
  · go_enter Try.func45, Try.ntmps45
    go_wp2_with fail
    refine (HS.out _ (HZ.out _)).mono ?_
    rintro e w' ⟨rfl, rfl⟩
    go_wp2
    refine bodyPost_ret (v := .tuple #[.agg #[.int .i64 0, .slice none 0 0, .slice none 0 0, .slice none 0 0], .bool false]) (by simp [results, Try.results45, go_sem]) rfl ?_
    exact ⟨rfl, below_new _ _⟩
theorem Solve_no {v s : Value} (W : World) (h : NoneV W v) : Calls Try.prog 13 #[v, s] W fun e w' => e = .returned (.tuple #[.slice none 0 0, .int .i64 1]) ∧ Below W.heap.size W w' := by
  have HO := Lib.hid (open_no W h)
  clear h
  go_enter Try.func13, Try.ntmps13
  go_wp2_with fail
  refine HO.out.mono ?_
  rintro e w' ⟨rfl, hb⟩
  have HB := Lib.hid (hb.new (Nat.le_refl _) (.cells #[.int .i64 0, .slice none 0 0, .slice none 0 0, .slice none 0 0] 76))
  clear hb
  go_wp2
  go_ret2
  exact ⟨rfl, HB.out⟩
theorem Trans_no {v s : Value} (W : World) (h : NoneV W v) : Calls Try.prog 30 #[v, s] W fun e w' => e = .returned (.tuple #[.slice none 0 0, .int .i64 1]) ∧ Below W.heap.size W w' := by
  have HO := Lib.hid (open_no W h)
  clear h
  go_enter Try.func30, Try.ntmps30
  go_wp2_with fail
  refine HO.out.mono ?_
  rintro e w' ⟨rfl, hb⟩
  have HB := Lib.hid (hb.new (Nat.le_refl _) (.cells #[.int .i64 0, .slice none 0 0, .slice none 0 0, .slice none 0 0] 76))
  clear hb
  go_wp2
  go_ret2
  exact ⟨rfl, HB.out⟩
theorem Det_no {v : Value} (W : World) (h : NoneV W v) : Calls Try.prog 26 #[v] W fun e w' => e = .returned (.tuple #[.complex .f64 0 0, .int .i64 0, .int .i64 1]) ∧ Below W.heap.size W w' := by
  have HO := Lib.hid (open_no W h)
  clear h
  go_enter Try.func26, Try.ntmps26
  go_wp2_with fail
  refine HO.out.mono ?_
  rintro e w' ⟨rfl, hb⟩
  have HB := Lib.hid (hb.new (Nat.le_refl _) (.cells #[.int .i64 0, .slice none 0 0, .slice none 0 0, .slice none 0 0] 76))
  clear hb
  go_wp2
  go_ret3
  exact ⟨rfl, HB.out⟩
theorem set3b {w : World} {b : Nat} {x0 x1 x2 u v s : Value} {T : TypeId} (h : w.heap[b]? = some (.cells #[x0, x1, x2] T)) :
    (((w.setCell ⟨b, 0, none⟩ u).setCell ⟨b, 1, none⟩ v).setCell ⟨b, 2, none⟩ s).heap[b]? = some (.cells #[u, v, s] T) := by
  have h1 := heap_setCell_same w b 0 _ T u h
  have h2 := heap_setCell_same _ b 1 _ T v h1
  have h3 := heap_setCell_same _ b 2 _ T s h2
  rw [h3]; rfl
theorem Many_no {v : Value} {a c : Int} {A : Option Addr} {n k : Nat} (W : World) (h : NoneV W v) : Calls Try.prog 39 #[v, mval a c (.slice A n k)] W fun e w' => e = .returned (.tuple #[mval 0 0 (.slice none 0 0), .int .i64 1]) ∧ Below W.heap.size W w' := by
  have hb2 : Below W.heap.size W ((W.alloc (.cells #[.int .i64 a, .int .i64 c, .slice A n k] 32)).alloc (.cells #[.int .i64 0, .int .i64 0, .slice none 0 0] 32)) := (below_new _ _).new (Nat.le_refl _) _
  have HO := Lib.hid (open_no _ (h.below hb2))
  have HB2 := Lib.hid hb2
  have hrow := row_new2 W (.cells #[.int .i64 a, .int .i64 c, .slice A n k] 32) (.cells #[.int .i64 0, .int .i64 0, .slice none 0 0] 32)
  have HR := Lib.hid hrow
  clear h hb2 hrow
  go_enter Try.func39, Try.ntmps39
  go_wp2_with fail
  refine HO.out.mono ?_
  rintro e w' ⟨rfl, hb⟩
  have HB := Lib.hid (HB2.out.trans (hb.mono HB2.out.size))
  have HRw := Lib.hid (row_keep hb HR.out)
  have hr2 := row_alloc (o' := .cells #[.int .i64 0, .slice none 0 0, .slice none 0 0, .slice none 0 0] 76) HRw.out
  obtain ⟨c0, c1, c2, fr⟩ := box3 hr2
  have f0 := fr 0
  have f1 := fr 1
  have f2 := fr 2
  obtain ⟨q0, q1, q2, -⟩ := box3 (set3b (u := .int .i64 0) (v := .int .i64 0) (s := .slice none 0 0) hr2)
  have HB3 := Lib.hid ((HB.out.new (Nat.le_refl _) (.cells #[.int .i64 0, .slice none 0 0, .slice none 0 0, .slice none 0 0] 76)))
  have HB4 := Lib.hid (show ∀ V, Below W.heap.size W V → Below W.heap.size W (((V.setCell ⟨W.heap.size + 1, 0, none⟩ (.int .i64 0)).setCell ⟨W.heap.size + 1, 1, none⟩ (.int .i64 0)).setCell ⟨W.heap.size + 1, 2, none⟩ (.slice none 0 0)) from fun V h => ((h.setCell (Nat.le_succ _) _).setCell (Nat.le_succ _) _).setCell (Nat.le_succ _) _)
  clear hb fr hr2
  go_wp2
  refine bodyPost_ret (v := .tuple #[mval 0 0 (.slice none 0 0), .int .i64 1]) (by simp [results, Try.results39, go_sem, q0, q1, q2]) rfl ?_
  exact ⟨rfl, HB4.out _ HB3.out⟩
def matV (n k : Nat) (A : Option Addr) : Value := mval (n : Nat) 1 (.slice A n k)
set_option maxHeartbeats 2000000 in
theorem none_c {v : Value} {A : Option Addr} {n k : Nat} (W : World) (h : NoneV W v) : Calls Try.prog 36 #[v, .slice A n k] W (RetBB true W) := by
  have H0 := Lib.hid h
  have HS := Lib.hid (Solve_no (s := .slice A n k) W h)
  have HT := Lib.hid (fun (V : World) (hV : NoneV V v) => Trans_no (s := .slice A n k) V hV)
  have HM := Lib.hid (fun (V : World) (hV : NoneV V v) => Many_no (a := (n : Nat)) (c := 1) (A := A) (n := n) (k := k) V hV)
  have HD := Lib.hid (fun (V : World) (hV : NoneV V v) => Det_no V hV)
  clear h
  go_enter Try.func36, Try.ntmps36
  go_wp2_with fail
  refine HS.out.mono ?_
  rintro e W1 ⟨rfl, hb⟩
  have B1 := Lib.hid hb
  have N1 := Lib.hid (H0.out.below hb)
  clear hb
  go_wp2_with fail
  refine (HT.out _ N1.out).mono ?_
  rintro e W2 ⟨rfl, hb⟩
  have B2 := Lib.hid (B1.out.trans (hb.mono B1.out.size))
  have N2 := Lib.hid (N1.out.below hb)
  clear hb
  go_wp2_with fail
  refine (HM.out _ N2.out).mono ?_
  rintro e W3 ⟨rfl, hb⟩
  have hbn := below_new W3 (.cells #[.int .i64 0, .int .i64 0, .slice none 0 0] 32)
  have B3' := B2.out.trans (hb.mono B2.out.size)
  have B3 := Lib.hid (B3'.trans (hbn.mono B3'.size))
  have N3 := Lib.hid ((N2.out.below hb).below hbn)
  have HRow := Lib.hid (heap_alloc_new W3 (.cells #[.int .i64 0, .int .i64 0, .slice none 0 0] 32))
  clear hb hbn B3'
  go_wp2_with fail
  refine (HD.out _ N3.out).mono ?_
  rintro e W4 ⟨rfl, hb⟩
  have B4 := Lib.hid (B3.out.trans (hb.mono B3.out.size))
  obtain ⟨c0, c1, c2, -⟩ := box3 (row_keep hb HRow.out)
  clear hb
  have hz : feq .f64 0 0 = true := by decide +kernel
  go_wp2
  go_ret
  exact ⟨rfl, B4.out⟩
set_option maxHeartbeats 2000000 in
theorem None10 (A : Option Addr) (l : List C) (cap : Nat) (w : World) (hr : Reads w w.heap.size A (zcells l)) (hmax : l.length ≤ 1000000) :
    Calls Try.prog 6 #[.slice A l.length cap] w fun e w' => e = .returned (.bool true) ∧ Below w.heap.size w w' := by
  have HN := Lib.hid (Numbers_c A l cap w hmax hr)
  clear hr
  go_enter Try.func6, Try.ntmps6
  go_wp2_with fail
  refine HN.out.mono ?_
  rintro e W1 ⟨s, rfl, hown, hb⟩
  obtain ⟨A1, k1, rfl, -, -, -⟩ := own_reads hown
  have B1 := Lib.hid hb
  clear hown hb
  go_wp2_with fail
  refine (awake10_c _).mono ?_
  rintro e W2 ⟨rfl, hb⟩
  have B2 := Lib.hid (B1.out.trans (hb.mono B1.out.size))
  clear hb
  go_wp2_with fail
  refine (none_c _ (.inl rfl)).mono ?_
  rintro e W3 ⟨rfl, hb⟩
  have B3 := Lib.hid (B2.out.trans (hb.mono B2.out.size))
  clear hb
  have hN : NoneV (W3.alloc (.cells #[.bool false, .slice none 0 0, .slice none 0 0, .int .i64 0] 62)) (.pointer (some ⟨W3.heap.size, 0, none⟩)) :=
    .inr ⟨W3.heap.size, rfl, by simp, (box4 (heap_alloc_new W3 _)).1⟩
  have HL := Lib.hid (none_c (A := A1) (n := l.length) (k := k1) _ hN)
  have B4 := Lib.hid (B3.out.new (Nat.le_refl _) (.cells #[.bool false, .slice none 0 0, .slice none 0 0, .int .i64 0] 62))
  clear hN
  go_wp2_with fail
  refine HL.out.mono ?_
  rintro e W5 ⟨rfl, hb⟩
  have B5 := Lib.hid (B4.out.trans (hb.mono B4.out.size))
  clear hb
  go_wp2
  go_ret
  exact ⟨rfl, B5.out⟩
end Go.Proofs.Ytglmmidhkpomgaa
