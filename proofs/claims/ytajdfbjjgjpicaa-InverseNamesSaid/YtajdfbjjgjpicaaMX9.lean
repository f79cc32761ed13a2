/- Layer 7: the identity, conjugates. -/
import Derived.Test.YtajdfbjjgjpicaaMX6
namespace Go.Proofs.Ytajdfbjjgjpicaa
open Go.RowKit Fl Ieee
set_option maxRecDepth 20000
attribute [local go_sem] run_store_float run_store_complex
/-- One on the diagonal. -/
def idE (i j : Nat) : C := if i = j then (fone, 0) else (0, 0)
theorem IdE_c (i j : Nat) (W : World) :
    Calls Try.prog 64 #[.int .i64 (i : Nat), .int .i64 (j : Nat)] W (RetZ (idE i j) W) := by
  by_cases h : i = j
  · subst h
    go_enter Try.func64, Try.ntmps64
    go_wp2
    go_ret
    exact ⟨(fone, 0), rfl, by unfold idE; rw [if_pos rfl]; decide, ⟨by decide, by decide⟩, Below.refl _ _⟩
  · have h1 : ((i : Int) == (j : Int)) = false := by simp; omega
    have H := Lib.hid h
    clear h
    go_enter Try.func64, Try.ntmps64
    go_wp2
    go_ret
    exact ⟨(0, 0), rfl, by unfold idE; rw [if_neg H.out]; decide, ⟨by decide, by decide⟩, Below.refl _ _⟩
theorem id_enters (args : Array Value) (W : World) : (callFunc 64 args).run Try.prog W = .ok (.enter 64 args) W :=
  enters_of Try.func64 (by kernel_rfl) rfl args W
set_option maxHeartbeats 1000000 in
theorem Identity_c (n : Nat) (w : World) (hn : n ≤ 64) :
    Calls Try.prog 32 #[.int .i64 (n : Nat)] w (RetMxE n n (entries n idE (n * n)) 0 w) := by
  have hrow : (w.alloc (.cells #[.int .i64 0, .int .i64 0, .slice none 0 0] 28)).heap[w.heap.size]? = some (.cells #[.int .i64 0, .int .i64 0, .slice none 0 0] 28) := heap_alloc_new w _
  have HRow := Lib.hid hrow
  clear hrow
  go_enter Try.func32, Try.ntmps32
  go_wp2_with fail
  refine (made_c n n hn hn 64 #[] idE _ id_enters ?_).mono ?_
  · intro i j W hi hj hW
    exact IdE_c i j W
  rintro e W2 ⟨s, zs, rfl, hz, hlz, hown, hb2⟩
  obtain ⟨r0, r1, r2, fr⟩ := box3 ((hb2.block w.heap.size (by simp)).trans HRow.out)
  have f0 := fr 0
  have f1 := fr 1
  have f2 := fr 2
  obtain ⟨sA, sn, sc, rfl, -⟩ := slice_of_own hown
  have HZ := Lib.hid hz
  have HL := Lib.hid hlz
  have HO := Lib.hid (own_base hown (show w.heap.size + 1 ≤ _ by simp))
  have HB2 := Lib.hid ((below_new w _).trans (hb2.mono (by simp)))
  clear hz hlz hown hb2 fr
  go_wp2
  obtain ⟨q0, q1, q2⟩ := set3 (u := .int .i64 (n : Nat)) (v := .int .i64 (n : Nat)) (t := .slice sA sn sc) r0 r1 r2
  refine bodyPost_ret (v := .tuple #[mval n n (.slice sA sn sc), .int .i64 0]) (by simp [results, Try.results32, go_sem, q0, q1, q2]) rfl ?_
  exact close_mx HZ.out HL.out HO.out HB2.out (Nat.le_refl _)
end Go.Proofs.Ytajdfbjjgjpicaa
