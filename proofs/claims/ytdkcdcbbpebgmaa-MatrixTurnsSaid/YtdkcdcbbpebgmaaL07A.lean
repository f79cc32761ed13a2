/- Layer 7's statements: what they call. -/
import Derived.Test.YtdkcdcbbpebgmaaMX18
import Derived.Test.YtdkcdcbbpebgmaaArg
namespace Go.Proofs.Ytdkcdcbbpebgmaa
open Go.RowKit Fl Ieee
set_option maxRecDepth 20000
attribute [local go_sem] run_store_float run_store_complex
theorem frameM {w W1 : World} {r c : Int} {s : Value} {t : TypeId} (hb : Below (w.alloc (.cells #[.int .i64 r, .int .i64 c, s] t)).heap.size (w.alloc (.cells #[.int .i64 r, .int .i64 c, s] t)) W1) :
    Box W1 w.heap.size r c s ∧ Below w.heap.size w W1 ∧ w.heap.size < W1.heap.size := frame0 hb
theorem large_c (r c : Int) (A : Option Addr) (n cap : Nat) (w : World) :
    Calls Try.prog 8 #[mval r c (.slice A n cap)] w (RetBB (decide ((n : Int) > 4098)) w) := by
  have hb := below_new w (.cells #[.int .i64 r, .int .i64 c, .slice A n cap] 24)
  have HB := Lib.hid hb
  clear hb
  go_enter Try.func8, Try.ntmps8
  go_wp2
  go_ret
  exact ⟨rfl, HB.out⟩
theorem is_c (r c : Int) (A : Option Addr) (n cap : Nat) (w : World) :
    Calls Try.prog 52 #[mval r c (.slice A n cap)] w (RetBB (okM r c n) w) := by
  have HC := Lib.hid (Check_c r c A n cap)
  cases ho : okM r c n
  · rw [ho] at HC
    go_enter Try.func52, Try.ntmps52
    go_wp2_with fail
    refine (HC.out _).mono ?_
    rintro e W1 ⟨rfl, hb⟩
    have HB := Lib.hid (frame0 hb).2.1
    clear hb
    go_wp2
    go_ret
    exact ⟨rfl, HB.out⟩
  · rw [ho] at HC
    go_enter Try.func52, Try.ntmps52
    go_wp2_with fail
    refine (HC.out _).mono ?_
    rintro e W1 ⟨rfl, hb⟩
    have HB := Lib.hid (frame0 hb).2.1
    clear hb
    go_wp2
    go_ret
    exact ⟨rfl, HB.out⟩
theorem made7_c (r c : Int) (A : Option Addr) (n cap : Nat) (w : World) :
    Calls Try.prog 58 #[.int .i64 r, .int .i64 c, .slice A n cap] w (RetV (mval r c (.slice A n cap)) w) := by
  go_enter Try.func58, Try.ntmps58
  go_wp2
  refine bodyPost_ret (v := mval r c (.slice A n cap)) (by simp [results, Try.results58, go_sem]) rfl ?_
  exact ⟨rfl, below_new _ _⟩
theorem entry7_c (rows cols : Nat) (A : Option Addr) (l : List C) (cap i j : Nat) (w : World) (hl : l.length = rows * cols) (hr : rows ≤ 64) (hc : cols ≤ 64) (hi : i < rows) (hj : j < cols) (hrd : Reads w w.heap.size A (nums l)) :
    Calls Try.prog 56 #[mval rows cols (.slice A l.length cap), .int .i64 (i : Nat), .int .i64 (j : Nat)] w (RetV (.complex .f64 (l.getD (i * cols + j) (0, 0)).1 (l.getD (i * cols + j) (0, 0)).2) w) := by
  have hz := at_ok hl hi hj
  obtain ⟨z, hze⟩ : ∃ z, l.getD (i * cols + j) (0, 0) = z := ⟨_, rfl⟩
  rw [hze] at hz ⊢
  have hv : (nums l)[i * cols + j]? = some (.complex .f64 z.1 z.2) := by simp [nums, hz]
  obtain ⟨ad, rfl, hb, hcell⟩ := hrd.at_ hv
  have hlt := lt_of_some hz
  have hll : l.length ≤ 4096 := by rw [hl]; exact prod_small hr hc
  obtain ⟨k, hk⟩ : ∃ k, i * cols + j = k := ⟨_, rfl⟩
  have hib : i * cols ≤ 4096 := by omega
  rw [hk] at hcell hlt
  have hm : wrap64 ((i : Int) * (cols : Int)) = (i : Int) * (cols : Int) := by
    rw [← Int.natCast_mul]; exact wrap_small _ hib
  have hsum : wrap64 ((i : Int) * (cols : Int) + (j : Int)) = (k : Int) := by rw [← Int.natCast_mul, ← Int.natCast_add, hk]; exact wrap_small k (by omega)
  have hcell2 : ∀ o, (w.alloc o).cell? (ad.add k) = some (.complex .f64 z.1 z.2) := fun o => by
    rw [World.cell?_alloc_lt w o (ad.add k) (by rw [block_of_add]; omega)]; exact hcell
  have HK := Lib.hid hk
  have HLt := Lib.hid hlt
  clear hk hz hv hrd hcell hib hl hr hc hi hj hze
  go_enter Try.func56, Try.ntmps56
  go_wp2
  go_ret; exact ⟨rfl, below_new _ _⟩
end Go.Proofs.Ytdkcdcbbpebgmaa
namespace Go.Proofs.Ytdkcdcbbpebgmaa
open Go.RowKit Fl Ieee
set_option maxRecDepth 20000
attribute [local go_sem] run_store_float run_store_complex
/-- A matrix in memory of its own, its numbers just these. -/
def RetMv (r c : Int) (l : List C) (w : World) (e : Ending) (w' : World) : Prop := ∃ s, e = .returned (mval r c s) ∧ w'.ownsRow w.heap.size 63 1 s l.length (nums l) ∧ Below w.heap.size w w'
set_option maxHeartbeats 2000000 in
theorem plain_c (r c : Int) (A : Option Addr) (l : List C) (cap : Nat) (w : World) (hl : l.length ≤ 1000000) (hr : Reads w w.heap.size A (zcells l)) :
    Calls Try.prog 9 #[mval r c (.slice A l.length cap)] w (RetMv r c l w) := by
  obtain ⟨W0, hW0⟩ : ∃ W0, W0 = (w.alloc (.cells #[.int .i64 r, .int .i64 c, .slice A l.length cap] 24)).alloc (.cells #[.int .i64 0, .int .i64 0, .slice none 0 0] 28) := ⟨_, rfl⟩
  have hb0 : Below w.heap.size w W0 := by rw [hW0]; exact ((Below.refl _ w).new (Nat.le_refl _) _).new (Nat.le_refl _) _
  have hs0 : W0.heap.size = w.heap.size + 2 := by rw [hW0]; simp
  have hF : ∀ V, Below W0.heap.size W0 V → Box V w.heap.size r c (.slice A l.length cap) ∧ V.heap[w.heap.size + 1]? = some (.cells #[.int .i64 0, .int .i64 0, .slice none 0 0] 28) ∧ Below w.heap.size w V ∧ w.heap.size + 2 ≤ V.heap.size := fun V hV => by
    rw [hW0] at hV; exact frame1 hV
  have hN : ∀ V, Below W0.heap.size W0 V → Calls Try.prog 10 #[.slice A l.length cap] V (fun e w' => ∃ sA sn sc, e = .returned (.slice sA sn sc) ∧ w'.ownsRow W0.heap.size 63 1 (.slice sA sn sc) l.length (nums l) ∧ Below W0.heap.size W0 w') := fun V hV => by
    refine (Numbers_c A l cap V hl ((hr.below (hb0.trans (hV.mono hb0.size))).more (Nat.le_trans hb0.size hV.size))).mono ?_
    rintro e w' ⟨s, rfl, hown, hb⟩
    obtain ⟨sA, sn, sc, rfl, -⟩ := slice_of_own hown
    exact ⟨sA, sn, sc, rfl, own_base hown hV.size, hV.trans (hb.mono hV.size)⟩
  have HF := Lib.hid hF
  have HN := Lib.hid hN
  have HS := Lib.hid hs0
  obtain ⟨⟨b0, b1, b2⟩, hrow, -, -⟩ := hF W0 (Below.refl _ _)
  obtain ⟨r0, r1, r2, fr⟩ := box3 hrow
  have f0 := fr 0
  have f1 := fr 1
  have f2 := fr 2
  have hbd : Below W0.heap.size W0 W0.drew := (Below.refl _ W0).drew
  clear hl hr hb0 hs0 hF hN hrow fr
  go_enter Try.func9, Try.ntmps9
  go_wp2
  rw [← hW0]
  clear hW0
  go_region_law (first
    | (go_simp; go_at_call 10; (with_reducible refine (HN.out _ ?_).mono ?_); assumption; (rintro e V ⟨sA, sn, sc, rfl, hown, hV⟩); have hu := HF.out V hV; obtain ⟨⟨u0, u1, u2⟩, hrw, -, -⟩ := hu; obtain ⟨v0, v1, v2, hfv⟩ := box3 hrw; have v3 := hfv 0; have v4 := hfv 1; have v5 := hfv 2))
  all_goals
    have HO := Lib.hid hown
    have HV := Lib.hid (HF.out V hV).2.2.1
    clear hown hV hbd u0 u1 u2 hrw hfv
    go_wp2
    obtain ⟨q0, q1, q2⟩ := set3 (u := .int .i64 r) (v := .int .i64 c) (t := .slice sA sn sc) v0 v1 v2
    refine bodyPost_ret (v := mval r c (.slice sA sn sc)) (by simp [results, Try.results9, go_sem, q0, q1, q2]) rfl ?_
    exact ⟨_, rfl, own_base (ownsRow_setCell_below (ownsRow_setCell_below (ownsRow_setCell_below HO.out (by show w.heap.size + 1 < W0.heap.size; have := HS.out; omega) _) (by show w.heap.size + 1 < W0.heap.size; have := HS.out; omega) _) (by show w.heap.size + 1 < W0.heap.size; have := HS.out; omega) _) (by have := HS.out; omega),
      ((HV.out.setCell (by show w.heap.size ≤ w.heap.size + 1; omega) _).setCell (by show w.heap.size ≤ w.heap.size + 1; omega) _).setCell (by show w.heap.size ≤ w.heap.size + 1; omega) _⟩
end Go.Proofs.Ytdkcdcbbpebgmaa
