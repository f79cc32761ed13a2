/- Layer 7: the product of two matrices, whole. -/
import Derived.Test.YtdkcdcbbpebgmaaMX4
namespace Go.Proofs.Ytdkcdcbbpebgmaa
open Go.RowKit Fl Ieee
set_option maxRecDepth 20000
attribute [local go_sem] run_store_float run_store_complex
/-- What stands behind the frame of a function of two matrices: both boxes, the result's cell. -/
theorem frame2 {w W1 : World} {r c r' c' : Int} {s s' x y z : Value} {t t' t'' : TypeId}
    (hb : Below (((w.alloc (.cells #[.int .i64 r, .int .i64 c, s] t)).alloc (.cells #[.int .i64 r', .int .i64 c', s'] t')).alloc (.cells #[x, y, z] t'')).heap.size
      (((w.alloc (.cells #[.int .i64 r, .int .i64 c, s] t)).alloc (.cells #[.int .i64 r', .int .i64 c', s'] t')).alloc (.cells #[x, y, z] t'')) W1) :
    Box W1 w.heap.size r c s ∧ Box W1 (w.heap.size + 1) r' c' s' ∧ W1.heap[w.heap.size + 2]? = some (.cells #[x, y, z] t'') ∧ Below w.heap.size w W1 ∧ w.heap.size + 3 ≤ W1.heap.size := by
  obtain ⟨w1, hw1⟩ : ∃ w1, w1 = w.alloc (.cells #[.int .i64 r, .int .i64 c, s] t) := ⟨_, rfl⟩
  have e1 : w1.heap.size = w.heap.size + 1 := by rw [hw1]; simp
  have hbx : Box w1 w.heap.size r c s := by rw [hw1]; exact Box.new _ _ _ _ _
  have hb1 : Below w.heap.size w w1 := by rw [hw1]; exact below_new _ _
  rw [← hw1] at hb
  obtain ⟨h1, h2, h3, h4⟩ := frame1 hb
  rw [e1] at h1 h2 h3 h4
  exact ⟨hbx.below h3 (by omega), h1, h2, hb1.trans (h3.mono (by omega)), h4⟩
theorem Mul_first (ra ca rb cb : Int) (A B : Option Addr) (na nb capa capb : Nat) (w : World) (h : okM ra ca na = false) :
    Calls Try.prog 31 #[mval ra ca (.slice A na capa), mval rb cb (.slice B nb capb)] w (RetMxE 0 0 [] 4 w) := by
  have HC := Lib.hid (Check_c ra ca A na capa)
  rw [h] at HC
  go_enter Try.func31, Try.ntmps31
  go_wp2_with fail
  refine (HC.out _).mono ?_
  rintro e W1 ⟨rfl, hb⟩
  obtain ⟨⟨b0, b1, b2⟩, ⟨d0, d1, d2⟩, hrow, hbl, hs1⟩ := frame2 hb
  obtain ⟨r0, r1, r2, fr⟩ := box3 hrow
  have f0 := fr 0
  have f1 := fr 1
  have f2 := fr 2
  have HB := Lib.hid hbl
  clear hb hbl hrow fr h hs1
  go_wp2
  obtain ⟨q0, q1, q2⟩ := set3 (u := .int .i64 0) (v := .int .i64 0) (t := .slice none 0 0) r0 r1 r2
  refine bodyPost_ret (v := .tuple #[mval 0 0 (.slice none 0 0), .int .i64 4]) (by simp [results, Try.results31, go_sem, q0, q1, q2]) rfl ?_
  exact close_mx (zs := []) rfl (by simp [ltCs]) (World.ownsRow_nil _ _ _ _) HB.out (by omega)
theorem Mul_second (ra ca rb cb : Int) (A B : Option Addr) (na nb capa capb : Nat) (w : World) (h : okM ra ca na = true) (h' : okM rb cb nb = false ∨ (ca == rb) = false) :
    Calls Try.prog 31 #[mval ra ca (.slice A na capa), mval rb cb (.slice B nb capb)] w (RetMxE 0 0 [] 4 w) := by
  have HC := Lib.hid (Check_c ra ca A na capa)
  have HD := Lib.hid (Check_c rb cb B nb capb)
  rw [h] at HC
  go_enter Try.func31, Try.ntmps31
  go_wp2_with fail
  refine (HC.out _).mono ?_
  rintro e W1 ⟨rfl, hb⟩
  obtain ⟨⟨b0, b1, b2⟩, ⟨d0, d1, d2⟩, hrow, hbl, hs1⟩ := frame2 hb
  have HRow := Lib.hid hrow
  have HB := Lib.hid hbl
  have HS := Lib.hid hs1
  have HX := Lib.hid (And.intro b0 (And.intro b1 b2))
  have HY := Lib.hid (And.intro d0 (And.intro d1 d2))
  clear hb hbl hrow h hs1
  go_wp2_with fail
  refine (HD.out _).mono ?_
  rintro e W2 ⟨rfl, hb2⟩
  have l0 : w.heap.size < W1.heap.size := by have := HS.out; omega
  have l1 : w.heap.size + 1 < W1.heap.size := by have := HS.out; omega
  have l2 : w.heap.size + 2 < W1.heap.size := by have := HS.out; omega
  obtain ⟨e0, e1, e2⟩ := Box.below (W := W1) HX.out hb2 l0
  obtain ⟨g0, g1, g2⟩ := Box.below (W := W1) HY.out hb2 l1
  obtain ⟨r0, r1, r2, fr⟩ := box3 ((hb2.block _ l2).trans HRow.out)
  have f0 := fr 0
  have f1 := fr 1
  have f2 := fr 2
  have HB2 := Lib.hid (HB.out.trans (hb2.mono (Nat.le_of_lt l0)))
  clear hb2 fr l0 l1 l2 b0 b1 b2 d0 d1 d2
  rcases h' with h' | h'
  · rw [h']
    go_wp2
    obtain ⟨q0, q1, q2⟩ := set3 (u := .int .i64 0) (v := .int .i64 0) (t := .slice none 0 0) r0 r1 r2
    refine bodyPost_ret (v := .tuple #[mval 0 0 (.slice none 0 0), .int .i64 4]) (by simp [results, Try.results31, go_sem, q0, q1, q2]) rfl ?_
    exact close_mx (zs := []) rfl (by simp [ltCs]) (World.ownsRow_nil _ _ _ _) HB2.out (by omega)
  · go_wp2
    all_goals
      obtain ⟨q0, q1, q2⟩ := set3 (u := .int .i64 0) (v := .int .i64 0) (t := .slice none 0 0) r0 r1 r2
      refine bodyPost_ret (v := .tuple #[mval 0 0 (.slice none 0 0), .int .i64 4]) (by simp [results, Try.results31, go_sem, q0, q1, q2]) rfl ?_
      exact close_mx (zs := []) rfl (by simp [ltCs]) (World.ownsRow_nil _ _ _ _) HB2.out (by omega)
set_option maxHeartbeats 1000000 in
theorem MMul_c (ra ca cb : Nat) (A B : Option Addr) (la lb : List C) (capa capb : Nat) (w : World) (hra : ra ≤ 64) (hca : ca ≤ 64) (hcb : cb ≤ 64) (hla : la.length = ra * ca) (hlb : lb.length = ca * cb)
    (hA : Reads w w.heap.size A (nums la)) (hB : Reads w w.heap.size B (nums lb)) :
    Calls Try.prog 31 #[mval ra ca (.slice A la.length capa), mval ca cb (.slice B lb.length capb)] w (RetMxE ra cb (entries cb (fun i j => dot la lb ca cb i j ca) (ra * cb)) 0 w) := by
  have HC := Lib.hid (Check_c ra ca A la.length capa)
  have HD := Lib.hid (Check_c ca cb B lb.length capb)
  have ho : okM ra ca la.length = true := okM_iff.2 ⟨by omega, by omega, by omega, by omega, by rw [hla, Int.natCast_mul]⟩
  have ho' : okM ca cb lb.length = true := okM_iff.2 ⟨by omega, by omega, by omega, by omega, by rw [hlb, Int.natCast_mul]⟩
  rw [ho] at HC
  rw [ho'] at HD
  have HLa := Lib.hid hla
  have HLb := Lib.hid hlb
  have HA := Lib.hid hA
  have HBb := Lib.hid hB
  clear ho ho' hla hlb hA hB
  go_enter Try.func31, Try.ntmps31
  go_wp2_with fail
  refine (HC.out _).mono ?_
  rintro e W1 ⟨rfl, hb⟩
  obtain ⟨⟨b0, b1, b2⟩, ⟨d0, d1, d2⟩, hrow, hbl, hs1⟩ := frame2 hb
  have HRow := Lib.hid hrow
  have HB := Lib.hid hbl
  have HS := Lib.hid hs1
  have HX := Lib.hid (And.intro b0 (And.intro b1 b2))
  have HY := Lib.hid (And.intro d0 (And.intro d1 d2))
  clear hb hbl hrow hs1
  go_wp2_with fail
  refine (HD.out _).mono ?_
  rintro e W2 ⟨rfl, hb2⟩
  have l0 : w.heap.size < W1.heap.size := by have := HS.out; omega
  have l1 : w.heap.size + 1 < W1.heap.size := by have := HS.out; omega
  have l2 : w.heap.size + 2 < W1.heap.size := by have := HS.out; omega
  have hX := Box.below (W := W1) HX.out hb2 l0
  have hY := Box.below (W := W1) HY.out hb2 l1
  have KX := Lib.hid hX
  have KY := Lib.hid hY
  obtain ⟨e0, e1, e2⟩ := hX
  obtain ⟨g0, g1, g2⟩ := hY
  have HRow2 := Lib.hid ((hb2.block _ l2).trans HRow.out)
  have HB2 := Lib.hid (HB.out.trans (hb2.mono (Nat.le_of_lt l0)))
  have HS2 := Lib.hid (Nat.le_trans HS.out hb2.size)
  have hmf : ∀ (fn : Fn) (first cap : Array Value) (W : World), (Instr.makeFunc fn first cap).run Try.prog W = .ok (.func fn first cap) W := fun _ _ _ _ => rfl
  clear hb2 l0 l1 l2 b0 b1 b2 d0 d1 d2
  go_wp2_with fail
  refine (made_c ra cb hra hcb 80 #[.pointer (some ⟨w.heap.size, 0, none⟩), .pointer (some ⟨w.heap.size + 1, 0, none⟩)] (fun i j => dot la lb ca cb i j ca) W2 mul_enters ?_).mono ?_
  · intro i j W hi hj hW
    have l0 : w.heap.size < W2.heap.size := by have := HS2.out; omega
    have l1 : w.heap.size + 1 < W2.heap.size := by have := HS2.out; omega
    have hW0 : Below w.heap.size w W := HB2.out.trans (hW.mono (Nat.le_of_lt l0))
    exact MulE_c w.heap.size (w.heap.size + 1) ra ca cb A B la lb capa capb i j W (Box.below (W := W2) KX.out hW l0) (Box.below (W := W2) KY.out hW l1) (Nat.lt_of_lt_of_le l0 hW.size) (Nat.lt_of_lt_of_le l1 hW.size) HLa.out HLb.out hra hca hcb hi hj
      ((HA.out.below hW0).more hW0.size) ((HBb.out.below hW0).more hW0.size)
  rintro e W3 ⟨s, zs, rfl, hz, hlz, hown, hb3⟩
  have l2 : w.heap.size + 2 < W2.heap.size := by have := HS2.out; omega
  obtain ⟨r0, r1, r2, fr⟩ := box3 ((hb3.block _ l2).trans HRow2.out)
  have f0 := fr 0
  have f1 := fr 1
  have f2 := fr 2
  obtain ⟨sA, sn, sc, rfl, -⟩ := slice_of_own hown
  have HZ := Lib.hid hz
  have HL := Lib.hid hlz
  have HO := Lib.hid (own_base hown (show w.heap.size + 2 + 1 ≤ W2.heap.size from HS2.out))
  have HB3 := Lib.hid (HB2.out.trans (hb3.mono (by omega)))
  clear hz hlz hown hb3 l2 fr
  go_wp2
  obtain ⟨q0, q1, q2⟩ := set3 (u := .int .i64 (ra : Nat)) (v := .int .i64 (cb : Nat)) (t := .slice sA sn sc) r0 r1 r2
  refine bodyPost_ret (v := .tuple #[mval ra cb (.slice sA sn sc), .int .i64 0]) (by simp [results, Try.results31, go_sem, q0, q1, q2]) rfl ?_
  exact close_mx HZ.out HL.out HO.out HB3.out (by omega)
end Go.Proofs.Ytdkcdcbbpebgmaa
