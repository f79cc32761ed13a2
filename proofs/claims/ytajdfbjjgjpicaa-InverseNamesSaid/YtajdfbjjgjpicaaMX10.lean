/- Layer 7: sums and differences, entry by entry. -/
import Derived.Test.YtajdfbjjgjpicaaMX9
namespace Go.Proofs.Ytajdfbjjgjpicaa
open Go.RowKit Fl Ieee
set_option maxRecDepth 20000
attribute [local go_sem] run_store_float run_store_complex
set_option maxHeartbeats 2000000 in
theorem bothE_c (G : FuncId) (op : C → C → C) (hG : ∀ (args : Array Value) (W : World), (callFunc G args).run Try.prog W = .ok (.enter G args) W)
    (hop : ∀ (p q : C) (V : World), Calls Try.prog G #[.complex .f64 p.1 p.2, .complex .f64 q.1 q.2] V (RetC (op (cnC p) (cnC q)) V))
    (bf ba bb rows cols : Nat) (A B : Option Addr) (la lb : List C) (capa capb i j : Nat) (W : World) (hf : W.cell? ⟨bf, 0, none⟩ = some (.func (.func G) #[] #[]))
    (hboxa : Box W ba rows cols (.slice A la.length capa)) (hboxb : Box W bb rows cols (.slice B lb.length capb))
    (hbf : bf < W.heap.size) (hba : ba < W.heap.size) (hbb : bb < W.heap.size) (hla : la.length = rows * cols) (hlb : lb.length = rows * cols) (hra : rows ≤ 64) (hca : cols ≤ 64) (hi : i < rows) (hj : j < cols)
    (hA : Reads W W.heap.size A (nums la)) (hB : Reads W W.heap.size B (nums lb)) :
    Calls Try.prog 93 #[.int .i64 (i : Nat), .int .i64 (j : Nat), .pointer (some ⟨bf, 0, none⟩), .pointer (some ⟨ba, 0, none⟩), .pointer (some ⟨bb, 0, none⟩)] W (RetZ (op (ent la cols i j) (ent lb cols i j)) W) := by
  have HA : ∀ V : World, Below W.heap.size W V → Calls Try.prog 63 #[mval rows cols (.slice A la.length capa), .int .i64 (i : Nat), .int .i64 (j : Nat)] V (FromV (.complex .f64 (la.getD (i * cols + j) (0, 0)).1 (la.getD (i * cols + j) (0, 0)).2) W.heap.size W) := fun V hV =>
    from_v (at_e rows cols A la capa i j V hla hra hca hi hj ((hA.below hV).more hV.size)) hV (Nat.le_refl _)
  have HB : ∀ V : World, Below W.heap.size W V → Calls Try.prog 63 #[mval rows cols (.slice B lb.length capb), .int .i64 (i : Nat), .int .i64 (j : Nat)] V (FromV (.complex .f64 (lb.getD (i * cols + j) (0, 0)).1 (lb.getD (i * cols + j) (0, 0)).2) W.heap.size W) := fun V hV =>
    from_v (at_e rows cols B lb capb i j V hlb hra hca hi hj ((hB.below hV).more hV.size)) hV (Nat.le_refl _)
  have KA := Lib.hid HA
  have KB := Lib.hid HB
  have XA := Lib.hid hboxa
  have XB := Lib.hid hboxb
  have XF := Lib.hid hf
  have HOP := Lib.hid hop
  obtain ⟨a0, a1, a2⟩ := hboxa
  obtain ⟨b0, b1, b2⟩ := hboxb
  have hbd : Below W.heap.size W W.drew := (Below.refl _ W).drew
  clear HA HB hla hlb hra hca hi hj hA hB hop
  go_enter Try.func93, Try.ntmps93
  go_wp2
  go_region_law (first
    | (go_simp; go_at_call 63; (with_reducible refine (KA.out _ ?_).mono ?_); assumption; (rintro e V ⟨rfl, hV⟩); have uf := (hV.cell (p := ⟨bf, 0, none⟩) hbf).trans XF.out; have u0 := Box.below XA.out hV hba; have u1 := Box.below XB.out hV hbb; obtain ⟨u00, u01, u02⟩ := u0; obtain ⟨u10, u11, u12⟩ := u1)
    | (go_simp; go_at_call 63; (with_reducible refine (KB.out _ ?_).mono ?_); assumption; (rintro e V ⟨rfl, hV⟩); have uf := (hV.cell (p := ⟨bf, 0, none⟩) hbf).trans XF.out; have u0 := Box.below XA.out hV hba; have u1 := Box.below XB.out hV hbb; obtain ⟨u00, u01, u02⟩ := u0; obtain ⟨u10, u11, u12⟩ := u1)
    | (go_simp; refine (from_c (B := W.heap.size) (w := W) (HOP.out (_, _) (_, _) _) ?_).mono ?_; assumption; (rintro e V ⟨x, rfl, hx, lx, hV⟩)))
  all_goals
    have hs : cnC x = op (ent la cols i j) (ent lb cols i j) := by
      rw [hx]
      unfold ent
      rw [List.getD_eq_getElem?_getD, List.getD_eq_getElem?_getD]
      rfl
    have HSS := Lib.hid hs
    have HVV := Lib.hid hV
    have HLX := Lib.hid lx
    clear hs hV lx hx
    go_wp2
    go_ret
    exact ⟨x, rfl, HSS.out, HLX.out, HVV.out⟩
theorem both_enters (args : Array Value) (W : World) : (callFunc 93 args).run Try.prog W = .ok (.enter 93 args) W :=
  enters_of Try.func93 (by kernel_rfl) rfl args W
end Go.Proofs.Ytajdfbjjgjpicaa
namespace Go.Proofs.Ytajdfbjjgjpicaa
open Go.RowKit Fl Ieee
set_option maxRecDepth 20000
attribute [local go_sem] run_store_float run_store_complex
theorem frameC {w W1 : World} {v : Value} {t : TypeId} (hb : Below (w.alloc (.cells #[v] t)).heap.size (w.alloc (.cells #[v] t)) W1) :
    W1.cell? ⟨w.heap.size, 0, none⟩ = some v ∧ Below w.heap.size w W1 ∧ w.heap.size < W1.heap.size := by
  obtain ⟨w1, hw1⟩ : ∃ w1, w1 = w.alloc (.cells #[v] t) := ⟨_, rfl⟩
  have e1 : w1.heap.size = w.heap.size + 1 := by rw [hw1]; simp
  have hc : w1.cell? ⟨w.heap.size, 0, none⟩ = some v := by rw [hw1, World.cell?_alloc_new]; rfl
  have hb1 : Below w.heap.size w w1 := by rw [hw1]; exact below_new _ _
  rw [← hw1] at hb
  exact ⟨(hb.cell (p := ⟨w.heap.size, 0, none⟩) (by show w.heap.size < _; omega)).trans hc, hb1.trans (hb.mono (by omega)), by have := hb.size; omega⟩
theorem frameR {w W1 : World} {x y z : Value} {t : TypeId} (hb : Below (w.alloc (.cells #[x, y, z] t)).heap.size (w.alloc (.cells #[x, y, z] t)) W1) :
    W1.heap[w.heap.size]? = some (.cells #[x, y, z] t) ∧ Below w.heap.size w W1 ∧ w.heap.size < W1.heap.size := by
  obtain ⟨w1, hw1⟩ : ∃ w1, w1 = w.alloc (.cells #[x, y, z] t) := ⟨_, rfl⟩
  have e1 : w1.heap.size = w.heap.size + 1 := by rw [hw1]; simp
  have hc : w1.heap[w.heap.size]? = some (.cells #[x, y, z] t) := by rw [hw1]; exact heap_alloc_new w _
  have hb1 : Below w.heap.size w w1 := by rw [hw1]; exact below_new _ _
  rw [← hw1] at hb
  exact ⟨(hb.block _ (by omega)).trans hc, hb1.trans (hb.mono (by omega)), by have := hb.size; omega⟩
/-- Behind the frame: two boxes, a cell, the result's row. -/
theorem frame2f {w W1 : World} {r c r' c' : Int} {s s' x y z f : Value} {t t' tf t'' : TypeId}
    (hb : Below ((((w.alloc (.cells #[.int .i64 r, .int .i64 c, s] t)).alloc (.cells #[.int .i64 r', .int .i64 c', s'] t')).alloc (.cells #[f] tf)).alloc (.cells #[x, y, z] t'')).heap.size
      ((((w.alloc (.cells #[.int .i64 r, .int .i64 c, s] t)).alloc (.cells #[.int .i64 r', .int .i64 c', s'] t')).alloc (.cells #[f] tf)).alloc (.cells #[x, y, z] t'')) W1) :
    Box W1 w.heap.size r c s ∧ Box W1 (w.heap.size + 1) r' c' s' ∧ W1.cell? ⟨w.heap.size + 2, 0, none⟩ = some f ∧ W1.heap[w.heap.size + 3]? = some (.cells #[x, y, z] t'') ∧ Below w.heap.size w W1 ∧ w.heap.size + 4 ≤ W1.heap.size := by
  obtain ⟨w1, hw1⟩ : ∃ w1, w1 = w.alloc (.cells #[.int .i64 r, .int .i64 c, s] t) := ⟨_, rfl⟩
  obtain ⟨w2, hw2⟩ : ∃ w2, w2 = w1.alloc (.cells #[.int .i64 r', .int .i64 c', s'] t') := ⟨_, rfl⟩
  obtain ⟨w3, hw3⟩ : ∃ w3, w3 = w2.alloc (.cells #[f] tf) := ⟨_, rfl⟩
  have e1 : w1.heap.size = w.heap.size + 1 := by rw [hw1]; simp
  have e2 : w2.heap.size = w.heap.size + 2 := by rw [hw2]; simp [e1]
  have e3 : w3.heap.size = w.heap.size + 3 := by rw [hw3]; simp [e2]
  rw [← hw1, ← hw2, ← hw3] at hb
  obtain ⟨h1, h2, h3⟩ := frameR hb
  rw [e3] at h1 h3
  rw [hw3] at h2
  obtain ⟨h4, h5, h6⟩ := frameC h2
  rw [e2] at h4
  rw [hw2] at h5
  obtain ⟨h7, h8, h9⟩ := frame0 h5
  rw [e1] at h7
  rw [hw1] at h8
  obtain ⟨h10, h11, h12⟩ := frame0 h8
  exact ⟨h10, h7, h4, h1, h11, h3⟩
theorem both_first (G : FuncId) (ra ca rb cb : Int) (A B : Option Addr) (na nb capa capb : Nat) (w : World) (h : okM ra ca na = false) :
    Calls Try.prog 65 #[mval ra ca (.slice A na capa), mval rb cb (.slice B nb capb), .func (.func G) #[] #[]] w (RetMxE 0 0 [] 4 w) := by
  have HC := Lib.hid (Check_c ra ca A na capa)
  rw [h] at HC
  go_enter Try.func65, Try.ntmps65
  go_wp2_with fail
  refine (HC.out _).mono ?_
  rintro e W1 ⟨rfl, hb⟩
  obtain ⟨⟨b0, b1, b2⟩, ⟨d0, d1, d2⟩, c0, hrow, hbl, hs1⟩ := frame2f hb
  obtain ⟨r0, r1, r2, fr⟩ := box3 hrow
  have f0 := fr 0
  have f1 := fr 1
  have f2 := fr 2
  have HB := Lib.hid hbl
  clear hb hbl hrow fr h hs1
  go_wp2
  obtain ⟨q0, q1, q2⟩ := set3 (u := .int .i64 0) (v := .int .i64 0) (t := .slice none 0 0) r0 r1 r2
  refine bodyPost_ret (v := .tuple #[mval 0 0 (.slice none 0 0), .int .i64 4]) (by simp [results, Try.results65, go_sem, q0, q1, q2]) rfl ?_
  exact close_mx (zs := []) rfl (by simp [ltCs]) (World.ownsRow_nil _ _ _ _) HB.out (by omega)
theorem both_second (G : FuncId) (ra ca rb cb : Int) (A B : Option Addr) (na nb capa capb : Nat) (w : World) (h : okM ra ca na = true) (h' : okM rb cb nb = false ∨ (ra == rb) = false ∨ ((ra == rb) = true ∧ (ca == cb) = false)) :
    Calls Try.prog 65 #[mval ra ca (.slice A na capa), mval rb cb (.slice B nb capb), .func (.func G) #[] #[]] w (RetMxE 0 0 [] 4 w) := by
  have HC := Lib.hid (Check_c ra ca A na capa)
  have HD := Lib.hid (Check_c rb cb B nb capb)
  rw [h] at HC
  go_enter Try.func65, Try.ntmps65
  go_wp2_with fail
  refine (HC.out _).mono ?_
  rintro e W1 ⟨rfl, hb⟩
  obtain ⟨⟨b0, b1, b2⟩, ⟨d0, d1, d2⟩, c0, hrow, hbl, hs1⟩ := frame2f hb
  have HRow := Lib.hid hrow
  have HB := Lib.hid hbl
  have HS := Lib.hid hs1
  have HX := Lib.hid (And.intro b0 (And.intro b1 b2))
  have HY := Lib.hid (And.intro d0 (And.intro d1 d2))
  clear hb hbl hrow h hs1
  go_wp2_with fail
  refine (HD.out _).mono ?_
  rintro e W2 ⟨rfl, hb2⟩
  have l0 : w.heap.size < W1.heap.size := by have := HS.out; omega
  have l1 : w.heap.size + 1 < W1.heap.size := by have := HS.out; omega
  have l2 : w.heap.size + 3 < W1.heap.size := by have := HS.out; omega
  obtain ⟨e0, e1, e2⟩ := Box.below (W := W1) HX.out hb2 l0
  obtain ⟨g0, g1, g2⟩ := Box.below (W := W1) HY.out hb2 l1
  obtain ⟨r0, r1, r2, fr⟩ := box3 ((hb2.block _ l2).trans HRow.out)
  have f0 := fr 0
  have f1 := fr 1
  have f2 := fr 2
  have HB2 := Lib.hid (HB.out.trans (hb2.mono (Nat.le_of_lt l0)))
  clear hb2 fr l0 l1 l2 b0 b1 b2 d0 d1 d2 c0
  rcases h' with h' | h' | ⟨h', h''⟩
  · rw [h']
    go_wp2
    obtain ⟨q0, q1, q2⟩ := set3 (u := .int .i64 0) (v := .int .i64 0) (t := .slice none 0 0) r0 r1 r2
    refine bodyPost_ret (v := .tuple #[mval 0 0 (.slice none 0 0), .int .i64 4]) (by simp [results, Try.results65, go_sem, q0, q1, q2]) rfl ?_
    exact close_mx (zs := []) rfl (by simp [ltCs]) (World.ownsRow_nil _ _ _ _) HB2.out (by omega)
  · go_wp2
    all_goals
      obtain ⟨q0, q1, q2⟩ := set3 (u := .int .i64 0) (v := .int .i64 0) (t := .slice none 0 0) r0 r1 r2
      refine bodyPost_ret (v := .tuple #[mval 0 0 (.slice none 0 0), .int .i64 4]) (by simp [results, Try.results65, go_sem, q0, q1, q2]) rfl ?_
      exact close_mx (zs := []) rfl (by simp [ltCs]) (World.ownsRow_nil _ _ _ _) HB2.out (by omega)
  · have e1 : ra = rb := by simpa using h'
    subst e1
    clear h'
    go_wp2
    all_goals
      obtain ⟨q0, q1, q2⟩ := set3 (u := .int .i64 0) (v := .int .i64 0) (t := .slice none 0 0) r0 r1 r2
      refine bodyPost_ret (v := .tuple #[mval 0 0 (.slice none 0 0), .int .i64 4]) (by simp [results, Try.results65, go_sem, q0, q1, q2]) rfl ?_
      exact close_mx (zs := []) rfl (by simp [ltCs]) (World.ownsRow_nil _ _ _ _) HB2.out (by omega)
set_option maxHeartbeats 1000000 in
theorem both_c (G : FuncId) (op : C → C → C) (hG : ∀ (args : Array Value) (W : World), (callFunc G args).run Try.prog W = .ok (.enter G args) W)
    (hop : ∀ (p q : C) (V : World), Calls Try.prog G #[.complex .f64 p.1 p.2, .complex .f64 q.1 q.2] V (RetC (op (cnC p) (cnC q)) V))
    (rows cols : Nat) (A B : Option Addr) (la lb : List C) (capa capb : Nat) (w : World) (hr : rows ≤ 64) (hc : cols ≤ 64) (hla : la.length = rows * cols) (hlb : lb.length = rows * cols)
    (hA : Reads w w.heap.size A (nums la)) (hB : Reads w w.heap.size B (nums lb)) :
    Calls Try.prog 65 #[mval rows cols (.slice A la.length capa), mval rows cols (.slice B lb.length capb), .func (.func G) #[] #[]] w (RetMxE rows cols (entries cols (fun i j => op (ent la cols i j) (ent lb cols i j)) (rows * cols)) 0 w) := by
  have HC := Lib.hid (Check_c rows cols A la.length capa)
  have HD := Lib.hid (Check_c rows cols B lb.length capb)
  have ho : okM rows cols la.length = true := okM_iff.2 ⟨by omega, by omega, by omega, by omega, by rw [hla, Int.natCast_mul]⟩
  have ho' : okM rows cols lb.length = true := okM_iff.2 ⟨by omega, by omega, by omega, by omega, by rw [hlb, Int.natCast_mul]⟩
  rw [ho] at HC
  rw [ho'] at HD
  have HLa := Lib.hid hla
  have HLb := Lib.hid hlb
  have HA := Lib.hid hA
  have HBb := Lib.hid hB
  have HOP := Lib.hid hop
  have HG := Lib.hid hG
  clear ho ho' hla hlb hA hB hop hG
  go_enter Try.func65, Try.ntmps65
  go_wp2_with fail
  refine (HC.out _).mono ?_
  rintro e W1 ⟨rfl, hb⟩
  obtain ⟨⟨b0, b1, b2⟩, ⟨d0, d1, d2⟩, c0, hrow, hbl, hs1⟩ := frame2f hb
  have HRow := Lib.hid hrow
  have HB := Lib.hid hbl
  have HS := Lib.hid hs1
  have HX := Lib.hid (And.intro b0 (And.intro b1 b2))
  have HY := Lib.hid (And.intro d0 (And.intro d1 d2))
  have HF := Lib.hid c0
  clear hb hbl hrow hs1
  go_wp2_with fail
  refine (HD.out _).mono ?_
  rintro e W2 ⟨rfl, hb2⟩
  have l0 : w.heap.size < W1.heap.size := by have := HS.out; omega
  have l1 : w.heap.size + 1 < W1.heap.size := by have := HS.out; omega
  have l2 : w.heap.size + 2 < W1.heap.size := by have := HS.out; omega
  have l3 : w.heap.size + 3 < W1.heap.size := by have := HS.out; omega
  have hX := Box.below (W := W1) HX.out hb2 l0
  have hY := Box.below (W := W1) HY.out hb2 l1
  have KF := Lib.hid ((hb2.cell (p := ⟨w.heap.size + 2, 0, none⟩) l2).trans HF.out)
  have KX := Lib.hid hX
  have KY := Lib.hid hY
  obtain ⟨e0, e1, e2⟩ := hX
  obtain ⟨g0, g1, g2⟩ := hY
  have HRow2 := Lib.hid ((hb2.block _ l3).trans HRow.out)
  have HB2 := Lib.hid (HB.out.trans (hb2.mono (Nat.le_of_lt l0)))
  have HS2 := Lib.hid (Nat.le_trans HS.out hb2.size)
  have hmf : ∀ (fn : Fn) (first cap : Array Value) (W : World), (Instr.makeFunc fn first cap).run Try.prog W = .ok (.func fn first cap) W := fun _ _ _ _ => rfl
  clear hb2 l0 l1 l2 l3 b0 b1 b2 d0 d1 d2 c0
  go_wp2_with fail
  refine (made_c rows cols hr hc 93 #[.pointer (some ⟨w.heap.size + 2, 0, none⟩), .pointer (some ⟨w.heap.size, 0, none⟩), .pointer (some ⟨w.heap.size + 1, 0, none⟩)] (fun i j => op (ent la cols i j) (ent lb cols i j)) W2 both_enters ?_).mono ?_
  · intro i j W hi hj hW
    have l0 : w.heap.size < W2.heap.size := by have := HS2.out; omega
    have l1 : w.heap.size + 1 < W2.heap.size := by have := HS2.out; omega
    have l2 : w.heap.size + 2 < W2.heap.size := by have := HS2.out; omega
    have hW0 : Below w.heap.size w W := HB2.out.trans (hW.mono (Nat.le_of_lt l0))
    exact bothE_c G op HG.out HOP.out (w.heap.size + 2) w.heap.size (w.heap.size + 1) rows cols A B la lb capa capb i j W ((hW.cell (p := ⟨w.heap.size + 2, 0, none⟩) l2).trans KF.out) (Box.below (W := W2) KX.out hW l0) (Box.below (W := W2) KY.out hW l1)
      (Nat.lt_of_lt_of_le l2 hW.size) (Nat.lt_of_lt_of_le l0 hW.size) (Nat.lt_of_lt_of_le l1 hW.size) HLa.out HLb.out hr hc hi hj
      ((HA.out.below hW0).more hW0.size) ((HBb.out.below hW0).more hW0.size)
  rintro e W3 ⟨s, zs, rfl, hz, hlz, hown, hb3⟩
  have l2 : w.heap.size + 3 < W2.heap.size := by have := HS2.out; omega
  obtain ⟨r0, r1, r2, fr⟩ := box3 ((hb3.block _ l2).trans HRow2.out)
  have f0 := fr 0
  have f1 := fr 1
  have f2 := fr 2
  obtain ⟨sA, sn, sc, rfl, -⟩ := slice_of_own hown
  have HZ := Lib.hid hz
  have HL := Lib.hid hlz
  have HO := Lib.hid (own_base hown (show w.heap.size + 3 + 1 ≤ W2.heap.size from HS2.out))
  have HB3 := Lib.hid (HB2.out.trans (hb3.mono (by omega)))
  clear hz hlz hown hb3 l2 fr
  go_wp2
  obtain ⟨q0, q1, q2⟩ := set3 (u := .int .i64 (rows : Nat)) (v := .int .i64 (cols : Nat)) (t := .slice sA sn sc) r0 r1 r2
  refine bodyPost_ret (v := .tuple #[mval rows cols (.slice sA sn sc), .int .i64 0]) (by simp [results, Try.results65, go_sem, q0, q1, q2]) rfl ?_
  exact close_mx HZ.out HL.out HO.out HB3.out (by omega)
set_option maxHeartbeats 1000000 in
theorem MSub_of (ra ca rb cb R C : Int) (A B : Option Addr) (na nb capa capb : Nat) (l : List Fl.C) (er : Int) (w : World)
    (hB : ∀ V, Below w.heap.size w V → Calls Try.prog 65 #[mval ra ca (.slice A na capa), mval rb cb (.slice B nb capb), .func (.func 66) #[] #[]] V (RetMxE R C l er V)) :
    Calls Try.prog 33 #[mval ra ca (.slice A na capa), mval rb cb (.slice B nb capb)] w (RetMxE R C l er w) := by
  have HC := Lib.hid hB
  clear hB
  have hb0 : Below w.heap.size w (((w.alloc (.cells #[.int .i64 ra, .int .i64 ca, .slice A na capa] 28)).alloc (.cells #[.int .i64 rb, .int .i64 cb, .slice B nb capb] 28)).alloc (.cells #[.int .i64 0, .int .i64 0, .slice none 0 0] 28)) :=
    (((Below.refl _ w).new (Nat.le_refl _) _).new (Nat.le_refl _) _).new (Nat.le_refl _) _
  have HB0 := Lib.hid hb0
  clear hb0
  go_enter Try.func33, Try.ntmps33
  go_wp2_with fail
  refine (HC.out _ HB0.out).mono ?_
  rintro e W1 ⟨s, zs, rfl, hz, hlz, hown, hb⟩
  obtain ⟨-, -, hrow, hbl, hs1⟩ := frame2 hb
  obtain ⟨r0, r1, r2, fr⟩ := box3 hrow
  have f0 := fr 0
  have f1 := fr 1
  have f2 := fr 2
  obtain ⟨sA, sn, sc, rfl, -⟩ := slice_of_own hown
  have HO := Lib.hid (own_base hown (show w.heap.size + 2 + 1 ≤ _ by simp))
  have HZ := Lib.hid hz
  have HL := Lib.hid hlz
  have HB := Lib.hid hbl
  clear hb hbl hrow fr hs1 hz hlz hown
  go_wp2
  obtain ⟨q0, q1, q2⟩ := set3 (u := .int .i64 R) (v := .int .i64 C) (t := .slice sA sn sc) r0 r1 r2
  refine bodyPost_ret (v := .tuple #[mval R C (.slice sA sn sc), .int .i64 er]) (by simp [results, Try.results33, go_sem, q0, q1, q2]) rfl ?_
  exact close_mx HZ.out HL.out HO.out HB.out (by omega)
theorem pSub_enters (args : Array Value) (W : World) : (callFunc 66 args).run Try.prog W = .ok (.enter 66 args) W :=
  enters_of Try.func66 (by kernel_rfl) rfl args W
end Go.Proofs.Ytajdfbjjgjpicaa
