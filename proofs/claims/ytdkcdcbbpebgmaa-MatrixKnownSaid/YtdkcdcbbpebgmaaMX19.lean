/- Layer 7: is a matrix its own transpose; an identity that is refused. -/
import Derived.Test.YtdkcdcbbpebgmaaMX18
import Derived.Test.YtdkcdcbbpebgmaaMXp
namespace Go.Proofs.Ytdkcdcbbpebgmaa
open Go.RowKit Fl Ieee
set_option maxRecDepth 20000
attribute [local go_sem] run_store_float run_store_complex
theorem allLike_map {lk : C → C → Bool} {la zs m : List C} (h : zs.map cnC = m) : allLike lk la zs = allLike lk la m := by
  subst h
  unfold allLike
  congr 1
  funext k
  have h : cnC (zs.getD k (0, 0)) = cnC ((zs.map cnC).getD k (0, 0)) := by
    simp only [List.getD_eq_getElem?_getD, List.getElem?_map]
    cases zs[k]? with
    | none => rfl
    | some z => exact (cnC_cnC z).symm
  rw [h]
theorem Identity_bad (n : Int) (w : World) (h : decide (n < 0) = true ∨ (decide (n < 0) = false ∧ decide (64 < n) = true)) :
    Calls Try.prog 17 #[.int .i64 n] w (RetMxE 0 0 [] 2 w) := by
  have hrow : (w.alloc (.cells #[.int .i64 0, .int .i64 0, .slice none 0 0] 28)).heap[w.heap.size]? = some (.cells #[.int .i64 0, .int .i64 0, .slice none 0 0] 28) := heap_alloc_new w _
  obtain ⟨r0, r1, r2, fr⟩ := box3 hrow
  have f0 := fr 0
  have f1 := fr 1
  have f2 := fr 2
  clear hrow fr
  simp only [decide_eq_true_eq, decide_eq_false_iff_not] at h
  rcases h with h | ⟨h1, h⟩
  all_goals
    go_enter Try.func17, Try.ntmps17
    go_wp2
    refine bodyPost_ret (v := .tuple #[mval 0 0 (.slice none 0 0), .int .i64 2]) (by simp [results, Try.results17, go_sem]) rfl ?_
    exact ⟨.slice none 0 0, [], rfl, rfl, by simp [ltCs], World.ownsRow_nil _ _ _ _, below_new _ _⟩
set_option maxHeartbeats 1000000 in
theorem Symmetric_of (rows cols : Nat) (A : Option Addr) (l : List C) (cap : Nat) (b : Bool) (w : World) (hr : rows ≤ 64) (hc : cols ≤ 64) (hl : l.length = rows * cols) (hrd : Reads w w.heap.size A (nums l)) (hlt : ltCs l)
    (hE : ∀ (V : World) (B : Option Addr) (zt : List C) (c : Nat), Reads V V.heap.size A (nums l) → Reads V V.heap.size B (nums zt) → zt.map cnC = entries rows (fun i j => ent l cols j i) (cols * rows) →
      Calls Try.prog 44 #[mval rows cols (.slice A l.length cap), mval cols rows (.slice B zt.length c)] V (RetBB b V)) :
    Calls Try.prog 48 #[mval rows cols (.slice A l.length cap)] w (RetBB b w) := by
  have hb0 : Below w.heap.size w (w.alloc (.cells #[.int .i64 rows, .int .i64 cols, .slice A l.length cap] 28)) := below_new w _
  have HT := Lib.hid (Transpose_c rows cols A l cap _ hr hc hl ((hrd.below hb0).more hb0.size) hlt)
  have HRd := Lib.hid ((hrd.below hb0).more hb0.size)
  have HB := Lib.hid hb0
  have HE := Lib.hid hE
  clear hrd hlt hl hb0 hE
  go_enter Try.func48, Try.ntmps48
  go_wp2_with fail
  refine HT.out.mono ?_
  rintro e W1 ⟨s, zt, rfl, hz, hlz, hown, hb⟩
  have hel : (entries rows (fun i j => ent l cols j i) (cols * rows)).length = zt.length := by rw [← hz, List.length_map]
  rw [hel] at hown
  obtain ⟨sA, sn, sc, rfl, -⟩ := slice_of_own hown
  obtain ⟨e1, -, -⟩ := own_slice hown
  subst e1
  obtain ⟨hbx, hq, hl⟩ := frame0 hb
  obtain ⟨d0, d1, d2⟩ := hbx.below (below_new W1 (.cells #[.int .i64 cols, .int .i64 rows, .slice sA zt.length sc] 28)) hl
  obtain ⟨b0, b1, b2⟩ := hbx
  have hn := below_new W1 (.cells #[.int .i64 cols, .int .i64 rows, .slice sA zt.length sc] 28)
  have HE1 := Lib.hid (HE.out (W1.alloc (.cells #[.int .i64 cols, .int .i64 rows, .slice sA zt.length sc] 28)) sA zt sc (((HRd.out.below hb).below (hn.mono (by have := hb.size; omega))).more (Nat.le_trans hb.size hn.size)) (((Reads.of_own hown).below hn).more hn.size) hz)
  have HB1 := Lib.hid (hq.trans (hn.mono (Nat.le_of_lt hl)))
  clear hz hlz hown hb hel hq hl hn
  go_wp2_with fail
  refine HE1.out.mono ?_
  rintro e W2 ⟨rfl, hb2⟩
  have HB2 := Lib.hid (HB1.out.trans (hb2.mono HB1.out.size))
  clear hb2
  go_wp2
  go_ret
  exact ⟨rfl, HB2.out⟩
theorem Symmetric_sq (n : Nat) (A : Option Addr) (l : List C) (cap : Nat) (w : World) (hn : n ≤ 64) (hl : l.length = n * n) (hrd : Reads w w.heap.size A (nums l)) (hlt : ltCs l) :
    Calls Try.prog 48 #[mval n n (.slice A l.length cap)] w (RetBB (allLike pEqual l (entries n (fun i j => ent l n j i) (n * n))) w) :=
  Symmetric_of n n A l cap _ w hn hn hl hrd hlt fun V B zt c hA hB hz => by
    have ho : okM n n l.length = true := okM_iff.2 ⟨by omega, by omega, by omega, by omega, by rw [hl, Int.natCast_mul]⟩
    have ho' : okM n n zt.length = true := okM_iff.2 ⟨by omega, by omega, by omega, by omega, by rw [len_made hz, Int.natCast_mul]⟩
    have h := MEqual_c n n A B l zt cap c V ho ho' hA hB
    rw [allLike_map hz] at h; exact h
theorem Symmetric_ns (rows cols : Nat) (A : Option Addr) (l : List C) (cap : Nat) (w : World) (hr : rows ≤ 64) (hc : cols ≤ 64) (hne : rows ≠ cols) (hl : l.length = rows * cols) (hrd : Reads w w.heap.size A (nums l)) (hlt : ltCs l) :
    Calls Try.prog 48 #[mval rows cols (.slice A l.length cap)] w (RetBB false w) :=
  Symmetric_of rows cols A l cap _ w hr hc hl hrd hlt fun V B zt c _ _ _ => by
    have ho : okM rows cols l.length = true := okM_iff.2 ⟨by omega, by omega, by omega, by omega, by rw [hl, Int.natCast_mul]⟩
    exact MEqual_of rows cols cols rows A B l.length zt.length cap c false V fun V' _ => held_second _ rows cols cols rows A B _ _ cap c V' ho (Or.inr (Or.inl (by simp; omega)))
end Go.Proofs.Ytdkcdcbbpebgmaa
