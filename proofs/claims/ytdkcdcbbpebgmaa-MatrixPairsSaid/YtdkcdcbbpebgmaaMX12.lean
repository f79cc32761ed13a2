/- Layer 7: conjugates. -/
import Derived.Test.YtdkcdcbbpebgmaaMX9
import Derived.Test.YtdkcdcbbpebgmaaMX10
namespace Go.Proofs.Ytdkcdcbbpebgmaa
open Go.RowKit Fl Ieee
set_option maxRecDepth 20000
attribute [local go_sem] run_store_float run_store_complex
theorem ConjE_c (b rows cols : Nat) (A : Option Addr) (l : List C) (cap i j : Nat) (W : World) (hbox : Box W b rows cols (.slice A l.length cap)) (hl : l.length = rows * cols) (hr : rows ≤ 64) (hc : cols ≤ 64)
    (hi : i < rows) (hj : j < cols) (hrd : Reads W W.heap.size A (nums l)) (hlt : ltCs l) :
    Calls Try.prog 82 #[.int .i64 (i : Nat), .int .i64 (j : Nat), .pointer (some ⟨b, 0, none⟩)] W (RetZ (pConj (ent l cols i j)) W) := by
  obtain ⟨c0, c1, c2⟩ := hbox
  have HA := Lib.hid (at_e rows cols A l cap i j W hl hr hc hi hj hrd)
  have hz := ltCs_at hlt hl hi hj
  have HP := Lib.hid (show cnC ((l.getD (i * cols + j) (0, 0)).1, flip double (l.getD (i * cols + j) (0, 0)).2) = pConj (ent l cols i j) from Prod.ext rfl (cn_flip hz.2))
  have HQ := Lib.hid (show ltC ((l.getD (i * cols + j) (0, 0)).1, flip double (l.getD (i * cols + j) (0, 0)).2) from ⟨hz.1, flip_lt64 hz.2⟩)
  have HC := Lib.hid (fun V => Conj_c (l.getD (i * cols + j) (0, 0)).1 (l.getD (i * cols + j) (0, 0)).2 hz.2 V)
  clear hl hr hc hi hj hrd hlt hz
  go_enter Try.func82, Try.ntmps82
  go_wp2_with fail
  refine HA.out.mono ?_
  rintro e W1 ⟨rfl, hb⟩
  have HB := Lib.hid hb
  clear hb
  go_wp2_with fail
  refine (HC.out _).mono ?_
  rintro e W2 ⟨rfl, rfl⟩
  go_wp2
  go_ret
  exact ⟨_, rfl, HP.out, HQ.out, HB.out⟩
theorem conj_enters (args : Array Value) (W : World) : (callFunc 82 args).run Try.prog W = .ok (.enter 82 args) W :=
  enters_of Try.func82 (by kernel_rfl) rfl args W
theorem MConj_no (r c : Int) (A : Option Addr) (n cap : Nat) (w : World) (h : okM r c n = false) :
    Calls Try.prog 33 #[mval r c (.slice A n cap)] w (RetMxE 0 0 [] 4 w) := by
  have HC := Lib.hid (Check_c r c A n cap)
  rw [h] at HC
  go_enter Try.func33, Try.ntmps33
  go_wp2_with fail
  refine (HC.out _).mono ?_
  rintro e W1 ⟨rfl, hb⟩
  have hbl : Below w.heap.size w W1 := (((Below.refl _ w).new (Nat.le_refl _) _).new (Nat.le_refl _) _).trans (hb.mono (by simp; omega))
  have hrow : W1.heap[w.heap.size + 1]? = some (.cells #[.int .i64 0, .int .i64 0, .slice none 0 0] 28) := by
    rw [hb.block _ (by simp)]
    have e : w.heap.size + 1 = (w.alloc (.cells #[.int .i64 r, .int .i64 c, .slice A n cap] 28)).heap.size := by simp
    rw [e]; exact heap_alloc_new _ _
  obtain ⟨r0, r1, r2, fr⟩ := box3 hrow
  have f0 := fr 0
  have f1 := fr 1
  have f2 := fr 2
  have HB := Lib.hid hbl
  clear hb hbl hrow fr h
  go_wp2
  obtain ⟨q0, q1, q2⟩ := set3 (u := .int .i64 0) (v := .int .i64 0) (t := .slice none 0 0) r0 r1 r2
  refine bodyPost_ret (v := .tuple #[mval 0 0 (.slice none 0 0), .int .i64 4]) (by simp [results, Try.results33, go_sem, q0, q1, q2]) rfl ?_
  exact close_mx (zs := []) rfl (by simp [ltCs]) (World.ownsRow_nil _ _ _ _) HB.out (by omega)
set_option maxHeartbeats 1000000 in
theorem MConj_c (rows cols : Nat) (A : Option Addr) (l : List C) (cap : Nat) (w : World) (hr : rows ≤ 64) (hc : cols ≤ 64) (hl : l.length = rows * cols) (hrd : Reads w w.heap.size A (nums l)) (hlt : ltCs l) :
    Calls Try.prog 33 #[mval rows cols (.slice A l.length cap)] w (RetMxE rows cols (entries cols (fun i j => pConj (ent l cols i j)) (rows * cols)) 0 w) := by
  have HC := Lib.hid (Check_c rows cols A l.length cap)
  have ho : okM rows cols l.length = true := okM_iff.2 ⟨by omega, by omega, by omega, by omega, by rw [hl, Int.natCast_mul]⟩
  rw [ho] at HC
  have HRd := Lib.hid hrd
  have HLt := Lib.hid hlt
  have HLen := Lib.hid hl
  clear hrd hlt hl ho
  go_enter Try.func33, Try.ntmps33
  go_wp2_with fail
  refine (HC.out _).mono ?_
  rintro e W1 ⟨rfl, hb⟩
  obtain ⟨⟨b0, b1, b2⟩, hrow, hbl, hs1⟩ := frame1 hb
  have HRow := Lib.hid hrow
  have HB := Lib.hid hbl
  have HS := Lib.hid hs1
  have HBX := Lib.hid (And.intro b0 (And.intro b1 b2))
  clear hb hrow hbl hs1
  have hmf : ∀ (fn : Fn) (first cap : Array Value) (W : World), (Instr.makeFunc fn first cap).run Try.prog W = .ok (.func fn first cap) W := fun _ _ _ _ => rfl
  go_wp2_with fail
  refine (made_c rows cols hr hc 82 #[.pointer (some ⟨w.heap.size, 0, none⟩)] (fun i j => pConj (ent l cols i j)) W1 conj_enters ?_).mono ?_
  · intro i j W hi hj hW
    have hlt0 : w.heap.size < W1.heap.size := by have := HS.out; omega
    have hbx : Box W w.heap.size rows cols (.slice A l.length cap) := Box.below (W := W1) HBX.out hW hlt0
    have hW0 : Below w.heap.size w W := HB.out.trans (hW.mono (by omega))
    exact ConjE_c w.heap.size rows cols A l cap i j W hbx HLen.out hr hc hi hj ((HRd.out.below hW0).more hW0.size) HLt.out
  rintro e W2 ⟨s, zs, rfl, hz, hlz, hown, hb2⟩
  have hlt1 : w.heap.size + 1 < W1.heap.size := by have := HS.out; omega
  obtain ⟨r0, r1, r2, fr⟩ := box3 ((hb2.block _ hlt1).trans HRow.out)
  have f0 := fr 0
  have f1 := fr 1
  have f2 := fr 2
  obtain ⟨sA, sn, sc, rfl, -⟩ := slice_of_own hown
  have HZ := Lib.hid hz
  have HL := Lib.hid hlz
  have HO := Lib.hid (own_base hown (show w.heap.size + 1 + 1 ≤ W1.heap.size from HS.out))
  have HB2 := Lib.hid (HB.out.trans (hb2.mono (by omega)))
  clear hz hlz hown hb2 hlt1 fr
  go_wp2
  obtain ⟨q0, q1, q2⟩ := set3 (u := .int .i64 (rows : Nat)) (v := .int .i64 (cols : Nat)) (t := .slice sA sn sc) r0 r1 r2
  refine bodyPost_ret (v := .tuple #[mval rows cols (.slice sA sn sc), .int .i64 0]) (by simp [results, Try.results33, go_sem, q0, q1, q2]) rfl ?_
  exact close_mx HZ.out HL.out HO.out HB2.out (by omega)
end Go.Proofs.Ytdkcdcbbpebgmaa
namespace Go.Proofs.Ytdkcdcbbpebgmaa
open Go.RowKit Fl Ieee
set_option maxRecDepth 20000
attribute [local go_sem] run_store_float run_store_complex
/-- Which row stands there, if i and j are changed. -/
def swp (i j k : Nat) : Nat := if k = i then j else if k = j then i else k
theorem swp_lt {i j k rows : Nat} (hi : i < rows) (hj : j < rows) (hk : k < rows) : swp i j k < rows := by
  unfold swp; split
  · exact hj
  · split <;> assumption
theorem SwE_c (bi bm bj rows cols : Nat) (A : Option Addr) (l : List C) (cap i j k c : Nat) (W : World) (hbi : W.cell? ⟨bi, 0, none⟩ = some (.int .i64 (i : Nat))) (hbj : W.cell? ⟨bj, 0, none⟩ = some (.int .i64 (j : Nat)))
    (hbox : Box W bm rows cols (.slice A l.length cap)) (hl : l.length = rows * cols) (hr : rows ≤ 64) (hc : cols ≤ 64)
    (hi : i < rows) (hj : j < rows) (hk : k < rows) (hcc : c < cols) (hrd : Reads W W.heap.size A (nums l)) (hlt : ltCs l) :
    Calls Try.prog 84 #[.int .i64 (k : Nat), .int .i64 (c : Nat), .pointer (some ⟨bi, 0, none⟩), .pointer (some ⟨bm, 0, none⟩), .pointer (some ⟨bj, 0, none⟩)] W (RetZ (ent l cols (swp i j k) c) W) := by
  obtain ⟨c0, c1, c2⟩ := hbox
  have HA := Lib.hid (at_e rows cols A l cap (swp i j k) c W hl hr hc (swp_lt hi hj hk) hcc hrd)
  have HL := Lib.hid (ltCs_at hlt hl (swp_lt hi hj hk) hcc)
  clear hl hr hc hi hj hk hcc hrd hlt
  by_cases h1 : k = i
  · subst h1
    have e : swp k j k = j := by unfold swp; rw [if_pos rfl]
    rw [e] at HA HL ⊢
    go_enter Try.func84, Try.ntmps84
    go_wp2_with fail
    refine HA.out.mono ?_
    rintro e W1 ⟨rfl, hb⟩
    have HB := Lib.hid hb
    clear hb
    go_wp2
    go_ret
    exact ⟨_, rfl, rfl, HL.out, HB.out⟩
  · have h1' : ((k : Int) == (i : Int)) = false := by simp; omega
    by_cases h2 : k = j
    · subst h2
      have e : swp i k k = i := by unfold swp; rw [if_neg h1, if_pos rfl]
      rw [e] at HA HL ⊢
      clear h1
      go_enter Try.func84, Try.ntmps84
      go_wp2_with fail
      refine HA.out.mono ?_
      rintro e W1 ⟨rfl, hb⟩
      have HB := Lib.hid hb
      clear hb
      go_wp2
      go_ret
      exact ⟨_, rfl, rfl, HL.out, HB.out⟩
    · have h2' : ((k : Int) == (j : Int)) = false := by simp; omega
      have e : swp i j k = k := by unfold swp; rw [if_neg h1, if_neg h2]
      rw [e] at HA HL ⊢
      clear h1 h2
      go_enter Try.func84, Try.ntmps84
      go_wp2_with fail
      refine HA.out.mono ?_
      rintro e W1 ⟨rfl, hb⟩
      have HB := Lib.hid hb
      clear hb
      go_wp2
      go_ret
      exact ⟨_, rfl, rfl, HL.out, HB.out⟩
theorem sw_enters (args : Array Value) (W : World) : (callFunc 84 args).run Try.prog W = .ok (.enter 84 args) W :=
  enters_of Try.func84 (by kernel_rfl) rfl args W
/-- Behind the frame: a box, two cells, the result's row. -/
theorem frame1cc {w W1 : World} {r c : Int} {s x y z f g : Value} {t tf tg t'' : TypeId}
    (hb : Below ((((w.alloc (.cells #[.int .i64 r, .int .i64 c, s] t)).alloc (.cells #[f] tf)).alloc (.cells #[g] tg)).alloc (.cells #[x, y, z] t'')).heap.size
      ((((w.alloc (.cells #[.int .i64 r, .int .i64 c, s] t)).alloc (.cells #[f] tf)).alloc (.cells #[g] tg)).alloc (.cells #[x, y, z] t'')) W1) :
    Box W1 w.heap.size r c s ∧ W1.cell? ⟨w.heap.size + 1, 0, none⟩ = some f ∧ W1.cell? ⟨w.heap.size + 2, 0, none⟩ = some g ∧ W1.heap[w.heap.size + 3]? = some (.cells #[x, y, z] t'') ∧ Below w.heap.size w W1 ∧ w.heap.size + 4 ≤ W1.heap.size := by
  obtain ⟨w1, hw1⟩ : ∃ w1, w1 = w.alloc (.cells #[.int .i64 r, .int .i64 c, s] t) := ⟨_, rfl⟩
  obtain ⟨w2, hw2⟩ : ∃ w2, w2 = w1.alloc (.cells #[f] tf) := ⟨_, rfl⟩
  obtain ⟨w3, hw3⟩ : ∃ w3, w3 = w2.alloc (.cells #[g] tg) := ⟨_, rfl⟩
  have e1 : w1.heap.size = w.heap.size + 1 := by rw [hw1]; simp
  have e2 : w2.heap.size = w.heap.size + 2 := by rw [hw2]; simp [e1]
  have e3 : w3.heap.size = w.heap.size + 3 := by rw [hw3]; simp [e2]
  rw [← hw1, ← hw2, ← hw3] at hb
  obtain ⟨h1, h2, h3⟩ := frameR hb
  rw [e3] at h1 h3
  rw [hw3] at h2
  obtain ⟨h4, h5, h6⟩ := frameC h2
  rw [e2] at h4
  rw [hw2] at h5
  obtain ⟨h7, h8, h9⟩ := frameC h5
  rw [e1] at h7
  rw [hw1] at h8
  obtain ⟨h10, h11, h12⟩ := frame0 h8
  exact ⟨h10, h7, h4, h1, h11, h3⟩
theorem Swap_no (r c : Int) (A : Option Addr) (n cap : Nat) (i j : Int) (w : World) (h : okM r c n = false) :
    Calls Try.prog 34 #[mval r c (.slice A n cap), .int .i64 i, .int .i64 j] w (RetMxE 0 0 [] 4 w) := by
  have HC := Lib.hid (Check_c r c A n cap)
  rw [h] at HC
  go_enter Try.func34, Try.ntmps34
  go_wp2_with fail
  refine (HC.out _).mono ?_
  rintro e W1 ⟨rfl, hb⟩
  obtain ⟨⟨b0, b1, b2⟩, c0, c1, hrow, hbl, hs1⟩ := frame1cc hb
  obtain ⟨r0, r1, r2, fr⟩ := box3 hrow
  have f0 := fr 0
  have f1 := fr 1
  have f2 := fr 2
  have HB := Lib.hid hbl
  clear hb hbl hrow fr h hs1
  go_wp2
  obtain ⟨q0, q1, q2⟩ := set3 (u := .int .i64 0) (v := .int .i64 0) (t := .slice none 0 0) r0 r1 r2
  refine bodyPost_ret (v := .tuple #[mval 0 0 (.slice none 0 0), .int .i64 4]) (by simp [results, Try.results34, go_sem, q0, q1, q2]) rfl ?_
  exact close_mx (zs := []) rfl (by simp [ltCs]) (World.ownsRow_nil _ _ _ _) HB.out (by omega)
theorem Swap_arg (r c : Int) (A : Option Addr) (n cap : Nat) (i j : Int) (w : World) (h : okM r c n = true)
    (h' : decide (i < 0) = true ∨ (decide (i < 0) = false ∧ decide (i ≥ r) = true) ∨ (decide (i < 0) = false ∧ decide (i ≥ r) = false ∧ decide (j < 0) = true) ∨ (decide (i < 0) = false ∧ decide (i ≥ r) = false ∧ decide (j < 0) = false ∧ decide (j ≥ r) = true)) :
    Calls Try.prog 34 #[mval r c (.slice A n cap), .int .i64 i, .int .i64 j] w (RetMxE 0 0 [] 2 w) := by
  have HC := Lib.hid (Check_c r c A n cap)
  rw [h] at HC
  go_enter Try.func34, Try.ntmps34
  go_wp2_with fail
  refine (HC.out _).mono ?_
  rintro e W1 ⟨rfl, hb⟩
  obtain ⟨⟨b0, b1, b2⟩, c0, c1, hrow, hbl, hs1⟩ := frame1cc hb
  obtain ⟨r0, r1, r2, fr⟩ := box3 hrow
  have f0 := fr 0
  have f1 := fr 1
  have f2 := fr 2
  have HB := Lib.hid hbl
  clear hb hbl hrow fr h hs1
  simp only [decide_eq_true_eq, decide_eq_false_iff_not, ge_iff_le] at h'
  rcases h' with h' | ⟨h1, h'⟩ | ⟨h1, h2, h'⟩ | ⟨h1, h2, h3, h'⟩
  all_goals
    go_wp2
    obtain ⟨q0, q1, q2⟩ := set3 (u := .int .i64 0) (v := .int .i64 0) (t := .slice none 0 0) r0 r1 r2
    refine bodyPost_ret (v := .tuple #[mval 0 0 (.slice none 0 0), .int .i64 2]) (by simp [results, Try.results34, go_sem, q0, q1, q2]) rfl ?_
    exact close_mx (zs := []) rfl (by simp [ltCs]) (World.ownsRow_nil _ _ _ _) HB.out (by omega)
set_option maxHeartbeats 1000000 in
theorem Swap_c (rows cols i j : Nat) (A : Option Addr) (l : List C) (cap : Nat) (w : World) (hr : rows ≤ 64) (hc : cols ≤ 64) (hi : i < rows) (hj : j < rows) (hl : l.length = rows * cols) (hrd : Reads w w.heap.size A (nums l)) (hlt : ltCs l) :
    Calls Try.prog 34 #[mval rows cols (.slice A l.length cap), .int .i64 (i : Nat), .int .i64 (j : Nat)] w (RetMxE rows cols (entries cols (fun k c => ent l cols (swp i j k) c) (rows * cols)) 0 w) := by
  have HC := Lib.hid (Check_c rows cols A l.length cap)
  have ho : okM rows cols l.length = true := okM_iff.2 ⟨by omega, by omega, by omega, by omega, by rw [hl, Int.natCast_mul]⟩
  rw [ho] at HC
  have HRd := Lib.hid hrd
  have HLt := Lib.hid hlt
  have HLen := Lib.hid hl
  clear hrd hlt hl ho
  go_enter Try.func34, Try.ntmps34
  go_wp2_with fail
  refine (HC.out _).mono ?_
  rintro e W1 ⟨rfl, hb⟩
  obtain ⟨⟨b0, b1, b2⟩, c0, c1, hrow, hbl, hs1⟩ := frame1cc hb
  have HRow := Lib.hid hrow
  have HB := Lib.hid hbl
  have HS := Lib.hid hs1
  have HBX := Lib.hid (And.intro b0 (And.intro b1 b2))
  have HCI := Lib.hid c0
  have HCJ := Lib.hid c1
  clear hb hrow hbl hs1
  have hmf : ∀ (fn : Fn) (first cap : Array Value) (W : World), (Instr.makeFunc fn first cap).run Try.prog W = .ok (.func fn first cap) W := fun _ _ _ _ => rfl
  go_wp2_with fail
  refine (made_c rows cols hr hc 84 #[.pointer (some ⟨w.heap.size + 1, 0, none⟩), .pointer (some ⟨w.heap.size, 0, none⟩), .pointer (some ⟨w.heap.size + 2, 0, none⟩)] (fun k c => ent l cols (swp i j k) c) W1 sw_enters ?_).mono ?_
  · intro k c W hk hcc hW
    have hlt0 : w.heap.size < W1.heap.size := by have := HS.out; omega
    have hlt1 : w.heap.size + 1 < W1.heap.size := by have := HS.out; omega
    have hlt2 : w.heap.size + 2 < W1.heap.size := by have := HS.out; omega
    have hbx : Box W w.heap.size rows cols (.slice A l.length cap) := Box.below (W := W1) HBX.out hW hlt0
    have hW0 : Below w.heap.size w W := HB.out.trans (hW.mono (by omega))
    exact SwE_c (w.heap.size + 1) w.heap.size (w.heap.size + 2) rows cols A l cap i j k c W ((hW.cell (p := ⟨w.heap.size + 1, 0, none⟩) hlt1).trans HCI.out) ((hW.cell (p := ⟨w.heap.size + 2, 0, none⟩) hlt2).trans HCJ.out) hbx HLen.out hr hc hi hj hk hcc ((HRd.out.below hW0).more hW0.size) HLt.out
  rintro e W2 ⟨s, zs, rfl, hz, hlz, hown, hb2⟩
  have hlt1 : w.heap.size + 3 < W1.heap.size := by have := HS.out; omega
  obtain ⟨r0, r1, r2, fr⟩ := box3 ((hb2.block _ hlt1).trans HRow.out)
  have f0 := fr 0
  have f1 := fr 1
  have f2 := fr 2
  obtain ⟨sA, sn, sc, rfl, -⟩ := slice_of_own hown
  have HZ := Lib.hid hz
  have HL := Lib.hid hlz
  have HO := Lib.hid (own_base hown (show w.heap.size + 3 + 1 ≤ W1.heap.size from HS.out))
  have HB2 := Lib.hid (HB.out.trans (hb2.mono (by omega)))
  clear hz hlz hown hb2 hlt1 fr
  go_wp2
  obtain ⟨q0, q1, q2⟩ := set3 (u := .int .i64 (rows : Nat)) (v := .int .i64 (cols : Nat)) (t := .slice sA sn sc) r0 r1 r2
  refine bodyPost_ret (v := .tuple #[mval rows cols (.slice sA sn sc), .int .i64 0]) (by simp [results, Try.results34, go_sem, q0, q1, q2]) rfl ?_
  exact close_mx HZ.out HL.out HO.out HB2.out (by omega)
end Go.Proofs.Ytdkcdcbbpebgmaa
