/- Layer 7: the product. -/
import Derived.Test.YtajdfbjjgjpicaaMX1
namespace Go.Proofs.Ytajdfbjjgjpicaa
open Go.RowKit Fl Ieee
set_option maxRecDepth 20000
attribute [local go_sem] run_store_float run_store_complex
/-- A row times a column, its first k terms, up to NaN. -/
def dot (la lb : List C) (ca cb i j : Nat) : Nat → C
  | 0 => (0, 0)
  | k + 1 => pAdd (dot la lb ca cb i j k) (pMul (ent la ca i k) (ent lb cb k j))
/-- A value is handed back, told from a world on. -/
def FromV (v : Value) (B : Nat) (w : World) (e : Ending) (w' : World) : Prop := e = .returned v ∧ Below B w w'
def FromZ (v : C) (B : Nat) (w : World) (e : Ending) (w' : World) : Prop := ∃ z : C, e = .returned (.complex .f64 z.1 z.2) ∧ cnC z = v ∧ ltC z ∧ Below B w w'
theorem from_v {P : Program} {f : FuncId} {args : Array Value} {B : Nat} {w V : World} {v : Value} (h : Calls P f args V (RetV v V)) (hb : Below B w V) (hB : B ≤ w.heap.size) : Calls P f args V (FromV v B w) :=
  h.mono fun _ _ ⟨he, h1⟩ => ⟨he, hb.trans (h1.mono (Nat.le_trans hB hb.size))⟩
theorem from_c {P : Program} {f : FuncId} {args : Array Value} {B : Nat} {w V : World} {v : C} (h : Calls P f args V (RetC v V)) (hb : Below B w V) : Calls P f args V (FromZ v B w) :=
  h.mono fun _ _ ⟨x, y, n, he, hv, hx, hy, hw⟩ => ⟨(x, y), he, hv, ⟨hx, hy⟩, by rw [hw]; exact below_drewN hb n⟩
def DotR (la lb : List C) (ca cb i j : Nat) (W : World) (s k : Value) (wr : World) : Prop :=
  ∃ (n : Nat) (z : C), n ≤ ca ∧ k = .int .i64 (n : Nat) ∧ s = .complex .f64 z.1 z.2 ∧ cnC z = dot la lb ca cb i j n ∧ ltC z ∧ Below W.heap.size W wr
set_option maxHeartbeats 2000000 in
theorem MulE_c (ba bb ra ca cb : Nat) (A B : Option Addr) (la lb : List C) (capa capb i j : Nat) (W : World) (hboxa : Box W ba ra ca (.slice A la.length capa)) (hboxb : Box W bb ca cb (.slice B lb.length capb))
    (hba : ba < W.heap.size) (hbb : bb < W.heap.size) (hla : la.length = ra * ca) (hlb : lb.length = ca * cb) (hra : ra ≤ 64) (hca : ca ≤ 64) (hcb : cb ≤ 64) (hi : i < ra) (hj : j < cb)
    (hA : Reads W W.heap.size A (nums la)) (hB : Reads W W.heap.size B (nums lb)) :
    Calls Try.prog 60 #[.int .i64 (i : Nat), .int .i64 (j : Nat), .pointer (some ⟨ba, 0, none⟩), .pointer (some ⟨bb, 0, none⟩)] W (RetZ (dot la lb ca cb i j ca) W) := by
  have HA : ∀ (k : Nat) (V : World), k < ca → Below W.heap.size W V → Calls Try.prog 63 #[mval ra ca (.slice A la.length capa), .int .i64 (i : Nat), .int .i64 (k : Nat)] V (FromV (.complex .f64 (la.getD (i * ca + k) (0, 0)).1 (la.getD (i * ca + k) (0, 0)).2) W.heap.size W) := fun k V hk hV =>
    from_v (at_e ra ca A la capa i k V hla hra hca hi hk ((hA.below hV).more hV.size)) hV (Nat.le_refl _)
  have HB : ∀ (k : Nat) (V : World), k < ca → Below W.heap.size W V → Calls Try.prog 63 #[mval ca cb (.slice B lb.length capb), .int .i64 (k : Nat), .int .i64 (j : Nat)] V (FromV (.complex .f64 (lb.getD (k * cb + j) (0, 0)).1 (lb.getD (k * cb + j) (0, 0)).2) W.heap.size W) := fun k V hk hV =>
    from_v (at_e ca cb B lb capb k j V hlb hca hcb hk hj ((hB.below hV).more hV.size)) hV (Nat.le_refl _)
  have KA := Lib.hid HA
  have KB := Lib.hid HB
  have XA := Lib.hid hboxa
  have XB := Lib.hid hboxb
  have c1 := hboxa.2.1
  clear HA HB hboxa hboxb hla hlb hra hcb hi hj hA hB
  go_enter Try.func60, Try.ntmps60
  go_wp2
  go_loopw [7, 11] (fun s k wr => DotR la lb ca cb i j W s k wr) (fun _ k _ => ca - (intOf k).toNat)
  case atStart => exact ⟨0, (0, 0), Nat.zero_le _, rfl, rfl, (by decide : cnC (0, 0) = (0, 0)), ⟨by decide, by decide⟩, Below.refl _ _⟩
  case round =>
    obtain ⟨n, z, hn, rfl, rfl, hz, hlz, hbel⟩ := hrel
    have HZ := Lib.hid hz
    have HLz := Lib.hid hlz
    clear hz hlz
    by_cases hlt : n < ca
    · obtain ⟨a0, a1, a2⟩ := Box.below XA.out hbel hba
      obtain ⟨b0, b1, b2⟩ := Box.below XB.out hbel hbb
      have hbd := hbel.drew
      have KA2 := Lib.hid (fun V => KA.out n V hlt)
      have KB2 := Lib.hid (fun V => KB.out n V hlt)
      clear hbel
      go_wp2
      go_region_law (first
        | (go_simp; go_at_call 63; (with_reducible refine (KA2.out _ ?_).mono ?_); assumption; (rintro e V ⟨rfl, hV⟩); have u0 := Box.below XA.out hV hba; have u1 := Box.below XB.out hV hbb; obtain ⟨u00, u01, u02⟩ := u0; obtain ⟨u10, u11, u12⟩ := u1)
        | (go_simp; go_at_call 63; (with_reducible refine (KB2.out _ ?_).mono ?_); assumption; (rintro e V ⟨rfl, hV⟩); have u0 := Box.below XA.out hV hba; have u1 := Box.below XB.out hV hbb; obtain ⟨u00, u01, u02⟩ := u0; obtain ⟨u10, u11, u12⟩ := u1)
        | (go_simp; go_at_call 61; refine (from_c (B := W.heap.size) (w := W) (Add_c _ _ _ _ _) ?_).mono ?_; assumption; (rintro e V ⟨x, rfl, hx, lx, hV⟩))
        | (go_simp; go_at_call 62; refine (from_c (B := W.heap.size) (w := W) (Mul_c _ _ _ _ _) ?_).mono ?_; assumption; (rintro e V ⟨y, rfl, hy, ly, hV⟩)))
      all_goals
        have hs : cnC x = dot la lb ca cb i j (n + 1) := by
          rw [hx]
          show pAdd (cnC z) (cnC y) = pAdd (dot la lb ca cb i j n) (pMul (ent la ca i n) (ent lb cb n j))
          rw [HZ.out, hy]
          unfold ent
          rw [List.getD_eq_getElem?_getD, List.getD_eq_getElem?_getD]
        have HSS := Lib.hid hs
        have HVV := Lib.hid hV
        have HLX := Lib.hid lx
        clear hs hV lx ly hx hy
        go_wp2
        go_roundw
        case rel => exact ⟨n + 1, x, hlt, by go_num, rfl, HSS.out, HLX.out, HVV.out⟩
        case measure => simp [intOf]; omega
    · have e : n = ca := by omega
      subst e
      go_wp2
      go_ret
      exact ⟨z, rfl, HZ.out, HLz.out, hbel⟩
theorem mul_enters (args : Array Value) (W : World) : (callFunc 60 args).run Try.prog W = .ok (.enter 60 args) W :=
  enters_of Try.func60 (by kernel_rfl) rfl args W
end Go.Proofs.Ytajdfbjjgjpicaa
namespace Go.Proofs.Ytajdfbjjgjpicaa
open Go.RowKit Fl Ieee
set_option maxRecDepth 20000
attribute [local go_sem] run_store_float run_store_complex
/-- What stands behind the frame of a function of two matrices: both boxes, the result's cell. -/
theorem frame2 {w W1 : World} {r c r' c' : Int} {s s' x y z : Value} {t t' t'' : TypeId}
    (hb : Below (((w.alloc (.cells #[.int .i64 r, .int .i64 c, s] t)).alloc (.cells #[.int .i64 r', .int .i64 c', s'] t')).alloc (.cells #[x, y, z] t'')).heap.size
      (((w.alloc (.cells #[.int .i64 r, .int .i64 c, s] t)).alloc (.cells #[.int .i64 r', .int .i64 c', s'] t')).alloc (.cells #[x, y, z] t'')) W1) :
    Box W1 w.heap.size r c s ∧ Box W1 (w.heap.size + 1) r' c' s' ∧ W1.heap[w.heap.size + 2]? = some (.cells #[x, y, z] t'') ∧ Below w.heap.size w W1 ∧ w.heap.size + 3 ≤ W1.heap.size := by
  obtain ⟨w1, hw1⟩ : ∃ w1, w1 = w.alloc (.cells #[.int .i64 r, .int .i64 c, s] t) := ⟨_, rfl⟩
  have e1 : w1.heap.size = w.heap.size + 1 := by rw [hw1]; simp
  have hbx : Box w1 w.heap.size r c s := by rw [hw1]; exact Box.new _ _ _ _ _
  have hb1 : Below w.heap.size w w1 := by rw [hw1]; exact below_new _ _
  rw [← hw1] at hb
  obtain ⟨h1, h2, h3, h4⟩ := frame1 hb
  rw [e1] at h1 h2 h3 h4
  exact ⟨hbx.below h3 (by omega), h1, h2, hb1.trans (h3.mono (by omega)), h4⟩
theorem Mul_first (ra ca rb cb : Int) (A B : Option Addr) (na nb capa capb : Nat) (w : World) (h : okM ra ca na = false) :
    Calls Try.prog 31 #[mval ra ca (.slice A na capa), mval rb cb (.slice B nb capb)] w (RetMxE 0 0 [] 4 w) := by
  have HC := Lib.hid (Check_c ra ca A na capa)
  rw [h] at HC
  go_enter Try.func31, Try.ntmps31
  go_wp2_with fail
  refine (HC.out _).mono ?_
  rintro e W1 ⟨rfl, hb⟩
  obtain ⟨⟨b0, b1, b2⟩, ⟨d0, d1, d2⟩, hrow, hbl, hs1⟩ := frame2 hb
  obtain ⟨r0, r1, r2, fr⟩ := box3 hrow
  have f0 := fr 0
  have f1 := fr 1
  have f2 := fr 2
  have HB := Lib.hid hbl
  clear hb hbl hrow fr h hs1
  go_wp2
  obtain ⟨q0, q1, q2⟩ := set3 (u := .int .i64 0) (v := .int .i64 0) (t := .slice none 0 0) r0 r1 r2
  refine bodyPost_ret (v := .tuple #[mval 0 0 (.slice none 0 0), .int .i64 4]) (by simp [results, Try.results31, go_sem, q0, q1, q2]) rfl ?_
  exact close_mx (zs := []) rfl (by simp [ltCs]) (World.ownsRow_nil _ _ _ _) HB.out (by omega)
theorem Mul_second (ra ca rb cb : Int) (A B : Option Addr) (na nb capa capb : Nat) (w : World) (h : okM ra ca na = true) (h' : okM rb cb nb = false ∨ (ca == rb) = false) :
    Calls Try.prog 31 #[mval ra ca (.slice A na capa), mval rb cb (.slice B nb capb)] w (RetMxE 0 0 [] 4 w) := by
  have HC := Lib.hid (Check_c ra ca A na capa)
  have HD := Lib.hid (Check_c rb cb B nb capb)
  rw [h] at HC
  go_enter Try.func31, Try.ntmps31
  go_wp2_with fail
  refine (HC.out _).mono ?_
  rintro e W1 ⟨rfl, hb⟩
  obtain ⟨⟨b0, b1, b2⟩, ⟨d0, d1, d2⟩, hrow, hbl, hs1⟩ := frame2 hb
  have HRow := Lib.hid hrow
  have HB := Lib.hid hbl
  have HS := Lib.hid hs1
  have HX := Lib.hid (And.intro b0 (And.intro b1 b2))
  have HY := Lib.hid (And.intro d0 (And.intro d1 d2))
  clear hb hbl hrow h hs1
  go_wp2_with fail
  refine (HD.out _).mono ?_
  rintro e W2 ⟨rfl, hb2⟩
  have l0 : w.heap.size < W1.heap.size := by have := HS.out; omega
  have l1 : w.heap.size + 1 < W1.heap.size := by have := HS.out; omega
  have l2 : w.heap.size + 2 < W1.heap.size := by have := HS.out; omega
  obtain ⟨e0, e1, e2⟩ := Box.below (W := W1) HX.out hb2 l0
  obtain ⟨g0, g1, g2⟩ := Box.below (W := W1) HY.out hb2 l1
  obtain ⟨r0, r1, r2, fr⟩ := box3 ((hb2.block _ l2).trans HRow.out)
  have f0 := fr 0
  have f1 := fr 1
  have f2 := fr 2
  have HB2 := Lib.hid (HB.out.trans (hb2.mono (Nat.le_of_lt l0)))
  clear hb2 fr l0 l1 l2 b0 b1 b2 d0 d1 d2
  rcases h' with h' | h'
  · rw [h']
    go_wp2
    obtain ⟨q0, q1, q2⟩ := set3 (u := .int .i64 0) (v := .int .i64 0) (t := .slice none 0 0) r0 r1 r2
    refine bodyPost_ret (v := .tuple #[mval 0 0 (.slice none 0 0), .int .i64 4]) (by simp [results, Try.results31, go_sem, q0, q1, q2]) rfl ?_
    exact close_mx (zs := []) rfl (by simp [ltCs]) (World.ownsRow_nil _ _ _ _) HB2.out (by omega)
  · go_wp2
    all_goals
      obtain ⟨q0, q1, q2⟩ := set3 (u := .int .i64 0) (v := .int .i64 0) (t := .slice none 0 0) r0 r1 r2
      refine bodyPost_ret (v := .tuple #[mval 0 0 (.slice none 0 0), .int .i64 4]) (by simp [results, Try.results31, go_sem, q0, q1, q2]) rfl ?_
      exact close_mx (zs := []) rfl (by simp [ltCs]) (World.ownsRow_nil _ _ _ _) HB2.out (by omega)
set_option maxHeartbeats 1000000 in
theorem MMul_c (ra ca cb : Nat) (A B : Option Addr) (la lb : List C) (capa capb : Nat) (w : World) (hra : ra ≤ 64) (hca : ca ≤ 64) (hcb : cb ≤ 64) (hla : la.length = ra * ca) (hlb : lb.length = ca * cb)
    (hA : Reads w w.heap.size A (nums la)) (hB : Reads w w.heap.size B (nums lb)) :
    Calls Try.prog 31 #[mval ra ca (.slice A la.length capa), mval ca cb (.slice B lb.length capb)] w (RetMxE ra cb (entries cb (fun i j => dot la lb ca cb i j ca) (ra * cb)) 0 w) := by
  have HC := Lib.hid (Check_c ra ca A la.length capa)
  have HD := Lib.hid (Check_c ca cb B lb.length capb)
  have ho : okM ra ca la.length = true := okM_iff.2 ⟨by omega, by omega, by omega, by omega, by rw [hla, Int.natCast_mul]⟩
  have ho' : okM ca cb lb.length = true := okM_iff.2 ⟨by omega, by omega, by omega, by omega, by rw [hlb, Int.natCast_mul]⟩
  rw [ho] at HC
  rw [ho'] at HD
  have HLa := Lib.hid hla
  have HLb := Lib.hid hlb
  have HA := Lib.hid hA
  have HBb := Lib.hid hB
  clear ho ho' hla hlb hA hB
  go_enter Try.func31, Try.ntmps31
  go_wp2_with fail
  refine (HC.out _).mono ?_
  rintro e W1 ⟨rfl, hb⟩
  obtain ⟨⟨b0, b1, b2⟩, ⟨d0, d1, d2⟩, hrow, hbl, hs1⟩ := frame2 hb
  have HRow := Lib.hid hrow
  have HB := Lib.hid hbl
  have HS := Lib.hid hs1
  have HX := Lib.hid (And.intro b0 (And.intro b1 b2))
  have HY := Lib.hid (And.intro d0 (And.intro d1 d2))
  clear hb hbl hrow hs1
  go_wp2_with fail
  refine (HD.out _).mono ?_
  rintro e W2 ⟨rfl, hb2⟩
  have l0 : w.heap.size < W1.heap.size := by have := HS.out; omega
  have l1 : w.heap.size + 1 < W1.heap.size := by have := HS.out; omega
  have l2 : w.heap.size + 2 < W1.heap.size := by have := HS.out; omega
  have hX := Box.below (W := W1) HX.out hb2 l0
  have hY := Box.below (W := W1) HY.out hb2 l1
  have KX := Lib.hid hX
  have KY := Lib.hid hY
  obtain ⟨e0, e1, e2⟩ := hX
  obtain ⟨g0, g1, g2⟩ := hY
  have HRow2 := Lib.hid ((hb2.block _ l2).trans HRow.out)
  have HB2 := Lib.hid (HB.out.trans (hb2.mono (Nat.le_of_lt l0)))
  have HS2 := Lib.hid (Nat.le_trans HS.out hb2.size)
  have hmf : ∀ (fn : Fn) (first cap : Array Value) (W : World), (Instr.makeFunc fn first cap).run Try.prog W = .ok (.func fn first cap) W := fun _ _ _ _ => rfl
  clear hb2 l0 l1 l2 b0 b1 b2 d0 d1 d2
  go_wp2_with fail
  refine (made_c ra cb hra hcb 60 #[.pointer (some ⟨w.heap.size, 0, none⟩), .pointer (some ⟨w.heap.size + 1, 0, none⟩)] (fun i j => dot la lb ca cb i j ca) W2 mul_enters ?_).mono ?_
  · intro i j W hi hj hW
    have l0 : w.heap.size < W2.heap.size := by have := HS2.out; omega
    have l1 : w.heap.size + 1 < W2.heap.size := by have := HS2.out; omega
    have hW0 : Below w.heap.size w W := HB2.out.trans (hW.mono (Nat.le_of_lt l0))
    exact MulE_c w.heap.size (w.heap.size + 1) ra ca cb A B la lb capa capb i j W (Box.below (W := W2) KX.out hW l0) (Box.below (W := W2) KY.out hW l1) (Nat.lt_of_lt_of_le l0 hW.size) (Nat.lt_of_lt_of_le l1 hW.size) HLa.out HLb.out hra hca hcb hi hj
      ((HA.out.below hW0).more hW0.size) ((HBb.out.below hW0).more hW0.size)
  rintro e W3 ⟨s, zs, rfl, hz, hlz, hown, hb3⟩
  have l2 : w.heap.size + 2 < W2.heap.size := by have := HS2.out; omega
  obtain ⟨r0, r1, r2, fr⟩ := box3 ((hb3.block _ l2).trans HRow2.out)
  have f0 := fr 0
  have f1 := fr 1
  have f2 := fr 2
  obtain ⟨sA, sn, sc, rfl, -⟩ := slice_of_own hown
  have HZ := Lib.hid hz
  have HL := Lib.hid hlz
  have HO := Lib.hid (own_base hown (show w.heap.size + 2 + 1 ≤ W2.heap.size from HS2.out))
  have HB3 := Lib.hid (HB2.out.trans (hb3.mono (by omega)))
  clear hz hlz hown hb3 l2 fr
  go_wp2
  obtain ⟨q0, q1, q2⟩ := set3 (u := .int .i64 (ra : Nat)) (v := .int .i64 (cb : Nat)) (t := .slice sA sn sc) r0 r1 r2
  refine bodyPost_ret (v := .tuple #[mval ra cb (.slice sA sn sc), .int .i64 0]) (by simp [results, Try.results31, go_sem, q0, q1, q2]) rfl ?_
  exact close_mx HZ.out HL.out HO.out HB3.out (by omega)
end Go.Proofs.Ytajdfbjjgjpicaa
