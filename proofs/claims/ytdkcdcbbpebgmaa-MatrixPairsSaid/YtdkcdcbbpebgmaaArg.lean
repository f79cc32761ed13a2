/- A law's arguments: matrices, lists of numbers; read again behind the call. -/
import Derived.Test.YtdkcdcbbpebgmaaMX6
import Derived.Test.YtdkcdcbbpebgmaaHas
import Derived.Test.YtdkcdcbbpebgmaaMX18
import Derived.ReadAgain
import Derived.Deep.SlicePairs
import Derived.Lib.SmallJoins
namespace Go.Proofs.Ytdkcdcbbpebgmaa
open Go.RowKit Go.WideElems Go.Maps Go.Deep Fl Ieee
set_option maxRecDepth 20000
section
variable {H : Type} {enc : TypeId × Value → H} {P : Program}
theorem trodAll_carry {w w' : World} {base : Nat} {spare : Nat → Bool} {held : Bool} : ∀ {ts : List TypeId} {vs : List Value} {ds : List (DataW H)} {ps : List MemPlace},
    DataW.TrodAll enc P w base spare held ts vs ds ps → (∀ p ∈ ps, w.sameAt w' p) → DataW.TrodAll enc P w' base spare held ts vs ds ps
  | [], [], [], _, h, _ => h
  | _ :: _, _ :: _, _ :: _, _, ⟨p, q, ⟨n, h1⟩, h2, e⟩, hs =>
    ⟨p, q, ⟨n, DataW.trod_carry n _ _ _ h1 (fun x hx => hs x (by rw [e]; exact List.mem_append_left _ hx))⟩, trodAll_carry h2 (fun x hx => hs x (by rw [e]; exact List.mem_append_right _ hx)), e⟩
/-- Read again in a world that has grown, any spare places. -/
theorem trodAll_move {T : TypeId → Prop} {w w' : World} {sp : Nat → Bool} {ts : List TypeId} {vs : List Value} {ds : List (DataW H)} {ps : List MemPlace} (K : Kids P T) (hz : ∀ t e, T t → P.underlying t = some (.slice e) → 0 < P.cellsOf e)
    (hT : ∀ t ∈ ts, T t) (h : DataW.TrodAll enc P w 0 (fun _ => true) true ts vs ds ps) (hb : Below w.heap.size w w') (hs : ∀ p ∈ ps, sp p.block = true) : DataW.TrodAll enc P w' 0 sp true ts vs ds ps :=
  trodAll_carry (h.respare K hz hT hs) fun p hp => by
    have hlt := h.lt p hp
    cases p with
    | cell b off => exact hb.cell (p := ⟨b, off, none⟩) hlt
    | map b => exact hb.block b hlt
end
theorem kidsP : Kids Try.prog (· < Try.prog.types.size) := kids_rows (by kernel_rfl) (by kernel_rfl)
theorem slicesP : ∀ t e, t < Try.prog.types.size → Try.prog.underlying t = some (.slice e) → 0 < Try.prog.cellsOf e := slices_full_of Try.prog (by kernel_rfl)
theorem zcells_get (l : List C) (j : Nat) : (zcells l)[j]? = (l[j / 2]?).map fun z => Value.int .u64 ((if j % 2 = 0 then z.1 else z.2 : Nat) : Int) := by
  induction l generalizing j with
  | nil => simp [zcells]
  | cons a t ih =>
    have e : zcells (a :: t) = .int .u64 (a.1 : Nat) :: .int .u64 (a.2 : Nat) :: zcells t := rfl
    rw [e]
    match j with
    | 0 => simp
    | 1 => simp
    | j + 2 =>
      have h1 : (j + 2) / 2 = j / 2 + 1 := by omega
      have h2 : (j + 2) % 2 = j % 2 := by omega
      rw [h1, h2]
      simpa using ih j
theorem zcells_length (l : List C) : (zcells l).length = 2 * l.length := by
  induction l with
  | nil => rfl
  | cons a t ih =>
    have e : zcells (a :: t) = .int .u64 (a.1 : Nat) :: .int .u64 (a.2 : Nat) :: zcells t := rfl
    rw [e]; simp [ih]; omega
def numOf : Value → Nat
  | .int _ x => x.toNat
  | _ => 0
theorem cellsOfZ : Try.prog.cellsOf 72 = 2 := by kernel_rfl
theorem cellsOfU : Try.prog.cellsOf 70 = 1 := by kernel_rfl
/-- A list of numbers by their bits. -/
theorem open_zs {H : Type} {enc : TypeId × Value → H} {w : World} {base fuel : Nat} {held : Bool} {cs : List Value} {x : DataW H × List MemPlace}
    (h : DataW.trod enc Try.prog w base (fun _ => true) held fuel 22 cs = some x) :
    ∃ (A : Option Addr) (l : List C) (cap : Nat), cs = [.slice A l.length cap] ∧ l.length ≤ cap ∧ cap ≤ maxLen ∧ (A = none → cap = 0) ∧ Reads w w.heap.size A (zcells l) ∧ ltCs l := by
  rcases Go.Deep.open_slice_pairs Try.underlying22 Try.underlying72 cellsOfZ rfl rfl cellsOfU cellsOfU h with ⟨rfl, _⟩ | ⟨a, len, cap, m, n, V0, V1, D0, D1, P0, P1, rfl, hb, hl, hm, hmm, hx, hall⟩
  · exact ⟨none, [], 0, rfl, Nat.le_refl _, Nat.zero_le _, fun _ => rfl, fun h => absurd h (by simp [zcells]), by simp [ltCs]⟩
  · have hmc : m = cap := by simpa using hmm
    have each : ∀ i, i < len → V0 i = .int .u64 ((numOf (V0 i) : Nat) : Int) ∧ V1 i = .int .u64 ((numOf (V1 i) : Nat) : Int) ∧ numOf (V0 i) < 18446744073709551616 ∧ numOf (V1 i) < 18446744073709551616 ∧ w.cell? (a.add (i * 2)) = some (V0 i) ∧ w.cell? (a.add (i * 2 + 1)) = some (V1 i) := by
      intro i hi
      obtain ⟨c0, c1, t0, t1⟩ := hall i (by omega)
      obtain ⟨x0, e0, _, w0⟩ := DataW.trod_int Try.underlying70 t0
      obtain ⟨x1, e1, _, w1⟩ := DataW.trod_int Try.underlying70 t1
      simp at e0 e1
      obtain ⟨n0, rfl, b0⟩ := wf_nat_u64 w0
      obtain ⟨n1, rfl, b1⟩ := wf_nat_u64 w1
      refine ⟨?_, ?_, ?_, ?_, c0, c1⟩
      · rw [e0]; rfl
      · rw [e1]; rfl
      · rw [e0]; exact b0
      · rw [e1]; exact b1
    have hlen : ((List.range len).map fun i => ((numOf (V0 i), numOf (V1 i)) : C)).length = len := by simp
    refine ⟨some a, (List.range len).map fun i => (numOf (V0 i), numOf (V1 i)), cap, by rw [hlen], by rw [hlen]; exact hl, hm, (fun h => by cases h), ?_, ?_⟩
    · intro hpos
      rw [zcells_length, hlen] at hpos
      have h0 : 0 < len := by omega
      have hlt : a.block < w.heap.size := by
        have := block_lt_of_cell (each 0 h0).2.2.2.2.1
        rwa [block_of_add] at this
      refine ⟨a, rfl, hlt, fun j u hju => ?_⟩
      rw [zcells_get] at hju
      have hj : j / 2 < len := by
        rcases Nat.lt_or_ge (j / 2) len with h | h
        · exact h
        · rw [List.getElem?_eq_none (by rw [hlen]; exact h)] at hju; cases hju
      obtain ⟨e0, e1, _, _, c0, c1⟩ := each (j / 2) hj
      rw [List.getElem?_map, List.getElem?_range hj] at hju
      rcases Nat.mod_two_eq_zero_or_one j with h | h
      · have e : j / 2 * 2 = j := by omega
        rw [e] at c0
        rw [c0, e0]
        simp only [h] at hju
        simpa using hju
      · have e : j / 2 * 2 + 1 = j := by omega
        rw [e] at c1
        rw [c1, e1]
        simp only [h] at hju
        simpa using hju
    · intro z hz
      obtain ⟨i, hi, rfl⟩ := List.mem_map.1 hz
      have := each i (List.mem_range.1 hi)
      exact ⟨this.2.2.1, this.2.2.2.1⟩
/-- A matrix by the bits of its numbers. -/
theorem open_mat {H : Type} {enc : TypeId × Value → H} {w : World} {r : Reach} {b0 base : Nat} {held : Bool} {t : TypeId} {f0 f1 f2 : Field} {v : Value} {d : DataW H} {p : List MemPlace} (hs : Try.prog.underlying t = some (.struct #[f0, f1, f2]))
    (e0 : f0.type = 3) (e1 : f1.type = 3) (e2 : f2.type = 22) (hone : oneCellFields Try.prog #[f0, f1, f2] = true) (hC : Try.prog.cellsOf t = 3)
    (hv : Value.okWide Try.prog w r b0 t v) (h : DataW.Trod enc Try.prog w base (fun _ => true) held t v d p) :
    ∃ (R C : Int) (A : Option Addr) (l : List Fl.C) (cap : Nat), v = mval R C (.slice A l.length cap) ∧ (Lit.int .i64 R).wf = true ∧ (Lit.int .i64 C).wf = true ∧ l.length ≤ cap ∧ cap ≤ maxLen ∧ (A = none → cap = 0) ∧ Reads w w.heap.size A (zcells l) ∧ ltCs l := by
  obtain ⟨v0, v1, v2, y0, y1, y2, n, rfl, _, _, h0, h1, h2⟩ := Joins.open_agg3 hs hone hC hv h
  rw [e0] at h0
  rw [e1] at h1
  rw [e2] at h2
  obtain ⟨R, g0, _, w0⟩ := DataW.trod_int Try.underlying3 h0
  obtain ⟨C, g1, _, w1⟩ := DataW.trod_int Try.underlying3 h1
  obtain ⟨A, l, cap, g2, q1, q2, q3, q4, q5⟩ := open_zs h2
  simp at g0 g1 g2
  subst g0 g1 g2
  exact ⟨R, C, A, l, cap, rfl, w0, w1, q1, q2, q3, q4, q5⟩
end Go.Proofs.Ytdkcdcbbpebgmaa
namespace Go.Proofs.Ytdkcdcbbpebgmaa
open Go.RowKit Go.WideElems Go.Maps Go.Deep Fl Ieee
set_option maxRecDepth 20000
/-- What the datum of a list of numbers looks like. -/
def ZsDatum {H : Type} (n : Nat) (z : DataW H) : Prop := n = 0 ∨ ∃ (D0 D1 : Nat → DataW H) (sp : List (DataW H)), z = .slice ((List.range n).map fun i => .agg [D0 i, D1 i]) sp
theorem zs_datum {H : Type} {enc : TypeId × Value → H} {w : World} {base fuel n cap : Nat} {A : Option Addr} {held : Bool} {x : DataW H × List MemPlace}
    (h : DataW.trod enc Try.prog w base (fun _ => true) held fuel 22 [.slice A n cap] = some x) : ZsDatum n x.1 := by
  rcases Go.Deep.open_slice_pairs Try.underlying22 Try.underlying72 cellsOfZ rfl rfl cellsOfU cellsOfU h with ⟨e, _⟩ | ⟨a, len, cap', m, k, V0, V1, D0, D1, P0, P1, e, hb, hl, hm, hmm, hx, hall⟩
  · simp at e
    exact .inl e.2.1
  · simp at e
    obtain ⟨-, rfl, -⟩ := e
    exact .inr ⟨D0, D1, _, by rw [hx]⟩
theorem open_matU {H : Type} {enc : TypeId × Value → H} {w : World} {r : Reach} {b0 base : Nat} {held : Bool} {t : TypeId} {f0 f1 f2 : Field} {v : Value} {d : DataW H} {p : List MemPlace} (hs : Try.prog.underlying t = some (.struct #[f0, f1, f2]))
    (e0 : f0.type = 3) (e1 : f1.type = 3) (e2 : f2.type = 22) (hone : oneCellFields Try.prog #[f0, f1, f2] = true) (hC : Try.prog.cellsOf t = 3)
    (hv : Value.okWide Try.prog w r b0 t v) (h : DataW.Trod enc Try.prog w base (fun _ => true) held t v d p) :
    ∃ (R C : Int) (A : Option Addr) (l : List Fl.C) (cap : Nat), v = mval R C (.slice A l.length cap) ∧ (Lit.int .i64 R).wf = true ∧ (Lit.int .i64 C).wf = true ∧ l.length ≤ cap ∧ cap ≤ maxLen ∧ (A = none → cap = 0) ∧ Reads w w.heap.size A (zcells l) ∧ ltCs l ∧
      ∃ a b z, d = .agg [a, b, z] ∧ ZsDatum l.length z := by
  obtain ⟨v0, v1, v2, y0, y1, y2, n, rfl, hd, _, h0, h1, h2⟩ := Joins.open_agg3 hs hone hC hv h
  rw [e0] at h0
  rw [e1] at h1
  rw [e2] at h2
  obtain ⟨R, g0, _, w0⟩ := DataW.trod_int Try.underlying3 h0
  obtain ⟨C, g1, _, w1⟩ := DataW.trod_int Try.underlying3 h1
  obtain ⟨A, l, cap, g2, q1, q2, q3, q4, q5⟩ := open_zs h2
  simp at g0 g1 g2
  subst g0 g1 g2
  exact ⟨R, C, A, l, cap, rfl, w0, w1, q1, q2, q3, q4, q5, _, _, _, hd, zs_datum h2⟩
end Go.Proofs.Ytdkcdcbbpebgmaa
namespace Go.Proofs.Ytdkcdcbbpebgmaa
open Go.RowKit Fl Ieee
set_option maxRecDepth 20000
attribute [local go_sem] run_store_float run_store_complex
theorem frameM {w W1 : World} {r c : Int} {s : Value} {t : TypeId} (hb : Below (w.alloc (.cells #[.int .i64 r, .int .i64 c, s] t)).heap.size (w.alloc (.cells #[.int .i64 r, .int .i64 c, s] t)) W1) :
    Box W1 w.heap.size r c s ∧ Below w.heap.size w W1 ∧ w.heap.size < W1.heap.size := frame0 hb
theorem large_c (r c : Int) (A : Option Addr) (n cap : Nat) (w : World) :
    Calls Try.prog 8 #[mval r c (.slice A n cap)] w (RetBB (decide ((n : Int) > 4098)) w) := by
  have hb := below_new w (.cells #[.int .i64 r, .int .i64 c, .slice A n cap] 24)
  have HB := Lib.hid hb
  clear hb
  go_enter Try.func8, Try.ntmps8
  go_wp2
  go_ret
  exact ⟨rfl, HB.out⟩
theorem is_c (r c : Int) (A : Option Addr) (n cap : Nat) (w : World) :
    Calls Try.prog 52 #[mval r c (.slice A n cap)] w (RetBB (okM r c n) w) := by
  have HC := Lib.hid (Check_c r c A n cap)
  cases ho : okM r c n
  · rw [ho] at HC
    go_enter Try.func52, Try.ntmps52
    go_wp2_with fail
    refine (HC.out _).mono ?_
    rintro e W1 ⟨rfl, hb⟩
    have HB := Lib.hid (frame0 hb).2.1
    clear hb
    go_wp2
    go_ret
    exact ⟨rfl, HB.out⟩
  · rw [ho] at HC
    go_enter Try.func52, Try.ntmps52
    go_wp2_with fail
    refine (HC.out _).mono ?_
    rintro e W1 ⟨rfl, hb⟩
    have HB := Lib.hid (frame0 hb).2.1
    clear hb
    go_wp2
    go_ret
    exact ⟨rfl, HB.out⟩
theorem made7_c (r c : Int) (A : Option Addr) (n cap : Nat) (w : World) :
    Calls Try.prog 58 #[.int .i64 r, .int .i64 c, .slice A n cap] w (RetV (mval r c (.slice A n cap)) w) := by
  go_enter Try.func58, Try.ntmps58
  go_wp2
  refine bodyPost_ret (v := mval r c (.slice A n cap)) (by simp [results, Try.results58, go_sem]) rfl ?_
  exact ⟨rfl, below_new _ _⟩
theorem entry7_c (rows cols : Nat) (A : Option Addr) (l : List C) (cap i j : Nat) (w : World) (hl : l.length = rows * cols) (hr : rows ≤ 64) (hc : cols ≤ 64) (hi : i < rows) (hj : j < cols) (hrd : Reads w w.heap.size A (nums l)) :
    Calls Try.prog 56 #[mval rows cols (.slice A l.length cap), .int .i64 (i : Nat), .int .i64 (j : Nat)] w (RetV (.complex .f64 (l.getD (i * cols + j) (0, 0)).1 (l.getD (i * cols + j) (0, 0)).2) w) := by
  have hz := at_ok hl hi hj
  obtain ⟨z, hze⟩ : ∃ z, l.getD (i * cols + j) (0, 0) = z := ⟨_, rfl⟩
  rw [hze] at hz ⊢
  have hv : (nums l)[i * cols + j]? = some (.complex .f64 z.1 z.2) := by simp [nums, hz]
  obtain ⟨ad, rfl, hb, hcell⟩ := hrd.at_ hv
  have hlt := lt_of_some hz
  have hll : l.length ≤ 4096 := by rw [hl]; exact prod_small hr hc
  obtain ⟨k, hk⟩ : ∃ k, i * cols + j = k := ⟨_, rfl⟩
  have hib : i * cols ≤ 4096 := by omega
  rw [hk] at hcell hlt
  have hm : wrap64 ((i : Int) * (cols : Int)) = (i : Int) * (cols : Int) := by
    rw [← Int.natCast_mul]; exact wrap_small _ hib
  have hsum : wrap64 ((i : Int) * (cols : Int) + (j : Int)) = (k : Int) := by rw [← Int.natCast_mul, ← Int.natCast_add, hk]; exact wrap_small k (by omega)
  have hcell2 : ∀ o, (w.alloc o).cell? (ad.add k) = some (.complex .f64 z.1 z.2) := fun o => by
    rw [World.cell?_alloc_lt w o (ad.add k) (by rw [block_of_add]; omega)]; exact hcell
  have HK := Lib.hid hk
  have HLt := Lib.hid hlt
  clear hk hz hv hrd hcell hib hl hr hc hi hj hze
  go_enter Try.func56, Try.ntmps56
  go_wp2
  go_ret; exact ⟨rfl, below_new _ _⟩
end Go.Proofs.Ytdkcdcbbpebgmaa
namespace Go.Proofs.Ytdkcdcbbpebgmaa
open Go.RowKit Fl Ieee
set_option maxRecDepth 20000
attribute [local go_sem] run_store_float run_store_complex
/-- A matrix in memory of its own, its numbers just these. -/
def RetMv (r c : Int) (l : List C) (w : World) (e : Ending) (w' : World) : Prop := ∃ s, e = .returned (mval r c s) ∧ w'.ownsRow w.heap.size 63 1 s l.length (nums l) ∧ Below w.heap.size w w'
set_option maxHeartbeats 2000000 in
theorem plain_c (r c : Int) (A : Option Addr) (l : List C) (cap : Nat) (w : World) (hl : l.length ≤ 1000000) (hr : Reads w w.heap.size A (zcells l)) :
    Calls Try.prog 9 #[mval r c (.slice A l.length cap)] w (RetMv r c l w) := by
  obtain ⟨W0, hW0⟩ : ∃ W0, W0 = (w.alloc (.cells #[.int .i64 r, .int .i64 c, .slice A l.length cap] 24)).alloc (.cells #[.int .i64 0, .int .i64 0, .slice none 0 0] 28) := ⟨_, rfl⟩
  have hb0 : Below w.heap.size w W0 := by rw [hW0]; exact ((Below.refl _ w).new (Nat.le_refl _) _).new (Nat.le_refl _) _
  have hs0 : W0.heap.size = w.heap.size + 2 := by rw [hW0]; simp
  have hF : ∀ V, Below W0.heap.size W0 V → Box V w.heap.size r c (.slice A l.length cap) ∧ V.heap[w.heap.size + 1]? = some (.cells #[.int .i64 0, .int .i64 0, .slice none 0 0] 28) ∧ Below w.heap.size w V ∧ w.heap.size + 2 ≤ V.heap.size := fun V hV => by
    rw [hW0] at hV; exact frame1 hV
  have hN : ∀ V, Below W0.heap.size W0 V → Calls Try.prog 10 #[.slice A l.length cap] V (fun e w' => ∃ sA sn sc, e = .returned (.slice sA sn sc) ∧ w'.ownsRow W0.heap.size 63 1 (.slice sA sn sc) l.length (nums l) ∧ Below W0.heap.size W0 w') := fun V hV => by
    refine (Numbers_c A l cap V hl ((hr.below (hb0.trans (hV.mono hb0.size))).more (Nat.le_trans hb0.size hV.size))).mono ?_
    rintro e w' ⟨s, rfl, hown, hb⟩
    obtain ⟨sA, sn, sc, rfl, -⟩ := slice_of_own hown
    exact ⟨sA, sn, sc, rfl, own_base hown hV.size, hV.trans (hb.mono hV.size)⟩
  have HF := Lib.hid hF
  have HN := Lib.hid hN
  have HS := Lib.hid hs0
  obtain ⟨⟨b0, b1, b2⟩, hrow, -, -⟩ := hF W0 (Below.refl _ _)
  obtain ⟨r0, r1, r2, fr⟩ := box3 hrow
  have f0 := fr 0
  have f1 := fr 1
  have f2 := fr 2
  have hbd : Below W0.heap.size W0 W0.drew := (Below.refl _ W0).drew
  clear hl hr hb0 hs0 hF hN hrow fr
  go_enter Try.func9, Try.ntmps9
  go_wp2
  rw [← hW0]
  clear hW0
  go_region_law (first
    | (go_simp; go_at_call 10; (with_reducible refine (HN.out _ ?_).mono ?_); assumption; (rintro e V ⟨sA, sn, sc, rfl, hown, hV⟩); have hu := HF.out V hV; obtain ⟨⟨u0, u1, u2⟩, hrw, -, -⟩ := hu; obtain ⟨v0, v1, v2, hfv⟩ := box3 hrw; have v3 := hfv 0; have v4 := hfv 1; have v5 := hfv 2))
  all_goals
    have HO := Lib.hid hown
    have HV := Lib.hid (HF.out V hV).2.2.1
    clear hown hV hbd u0 u1 u2 hrw hfv
    go_wp2
    obtain ⟨q0, q1, q2⟩ := set3 (u := .int .i64 r) (v := .int .i64 c) (t := .slice sA sn sc) v0 v1 v2
    refine bodyPost_ret (v := mval r c (.slice sA sn sc)) (by simp [results, Try.results9, go_sem, q0, q1, q2]) rfl ?_
    exact ⟨_, rfl, own_base (ownsRow_setCell_below (ownsRow_setCell_below (ownsRow_setCell_below HO.out (by show w.heap.size + 1 < W0.heap.size; have := HS.out; omega) _) (by show w.heap.size + 1 < W0.heap.size; have := HS.out; omega) _) (by show w.heap.size + 1 < W0.heap.size; have := HS.out; omega) _) (by have := HS.out; omega),
      ((HV.out.setCell (by show w.heap.size ≤ w.heap.size + 1; omega) _).setCell (by show w.heap.size ≤ w.heap.size + 1; omega) _).setCell (by show w.heap.size ≤ w.heap.size + 1; omega) _⟩
end Go.Proofs.Ytdkcdcbbpebgmaa
namespace Go.Proofs.Ytdkcdcbbpebgmaa
open Go.RowKit Go.WideElems Go.Maps Go.Deep Fl Ieee
set_option maxRecDepth 20000
theorem open_zs_arg {H : Type} {enc : TypeId × Value → H} {w : World} {r : Reach} {b0 base : Nat} {held : Bool} {v : Value} {d : DataW H} {p : List MemPlace}
    (hv : Value.okWide Try.prog w r b0 22 v) (h : DataW.Trod enc Try.prog w base (fun _ => true) held 22 v d p) :
    ∃ (A : Option Addr) (l : List Fl.C) (cap : Nat), v = .slice A l.length cap ∧ l.length ≤ cap ∧ cap ≤ maxLen ∧ (A = none → cap = 0) ∧ Reads w w.heap.size A (zcells l) ∧ ltCs l := by
  obtain ⟨a, n, c, rfl⟩ := Go.WideShapes.okWide_slice Try.underlying22 hv
  obtain ⟨fuel, hf⟩ := h
  obtain ⟨A, l, cap, e, q1, q2, q3, q4, q5⟩ := open_zs hf
  have e2 : Value.slice a n c = .slice A l.length cap := by simpa [Value.cells] using e
  exact ⟨A, l, cap, e2, q1, q2, q3, q4, q5⟩
end Go.Proofs.Ytdkcdcbbpebgmaa
